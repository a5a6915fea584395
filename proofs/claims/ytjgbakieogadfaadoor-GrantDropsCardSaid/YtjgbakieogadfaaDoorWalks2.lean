import Derived.Test.YtjgbakieogadfaaDoorWalks1
namespace Go.Proofs.YtjgbakieogadfaaDoor
open Go Go.Proofs L
set_option linter.unusedVariables false

-- holdfast/holdfastlaw13.GrantRooms
set_option maxHeartbeats 4000000 in
theorem W3 (K : Nat) (w0 : World) (cw : Col) (hcw : ∀ b, cw b < 40) {n1 : UInt8} {r : Bool} (hp : holdfastlaw13_GrantRooms K n1 = some r) :
    Calls Tryd.prog 3 [vU8 n1].toArray w0 fun e w1 => ∃ (d : Col), e = .returned (vB r) ∧ St [] w0 cw w1 d := by
  refine calls_intro Tryd.func3 rfl Tryd.ntmps3 rfl ?_
  unfold holdfastlaw13_GrantRooms at hp
  refine WC.seq (WC.region ?_)
  refine WR.k rfl rfl rfl (OS.assign (v := vB false) rfl rfl ?_)
  refine WR.nil ?_
  refine WC.seq (WC.region ?_)
  obtain ⟨r_, hr_, hp⟩ := bind_some hp
  refine WR.k rfl rfl rfl (OS.callF (vs := []) rfl trivial Tryd.call6 ((W6 K w0 (rcc [] cw) (rcc_lt cw rfl) hr_).mono ?_))
  rintro _ w_ ⟨p_, b, b1, d1, rfl, s, o, o1, o2⟩
  refine ⟨_, rfl, ?_⟩
  obtain ⟨c_, s1, o, o1, o2⟩ : ∃ c_, St [] w0 cw w_ c_ ∧ Bx 12000 w_ c_ p_ [(.map (some b)), (.map (some b1))] ∧ Mp kv64 (VR.flat vv32) 12001 w_ c_ (.map (some b)) r_.clients ∧ Mp kv67 (VR.flat vv30) 12002 w_ c_ (.map (some b1)) r_.consents := ⟨_, s.mg2 (sh := 10000) rfl, o.tr (mg2_back s rfl), o1.tr (mg2_back s rfl), o2.tr (mg2_back s rfl)⟩
  refine WR.k rfl rfl rfl (OS.assign (v := p_) rfl rfl ?_)
  refine WR.nil ?_
  refine WC.seq ?_
  refine WC.seq (WC.region ?_)
  obtain ⟨r_1, hr_1, hp⟩ := bind_some hp
  refine WR.k rfl rfl rfl (OS.callF (vs := []) rfl trivial Tryd.call7 ((W7 K w_ (rcc [] c_) (rcc_lt c_ rfl) hr_1).mono ?_))
  rintro _ w_1 ⟨d2, rfl, s2⟩
  refine ⟨_, rfl, ?_⟩
  obtain ⟨c_1, s3⟩ : ∃ c_1, St [] w_ c_ w_1 c_1 := ⟨_, s2.mg2 (sh := 20000) rfl⟩
  refine WR.k rfl rfl rfl (OS.not rfl rfl ?_)
  refine WR.nil ?_
  refine WC.cond (!r_1) rfl (fun hb => ?_) (fun hb => ?_)
  · rw [if_pos hb] at hp
    refine WC.seq (WC.region ?_)
    refine WR.k rfl rfl rfl (OS.assign (v := vB false) rfl rfl ?_)
    refine WR.nil ?_
    refine WC.ret ?_
    repeat first | refine thenQ_ret ?_ | refine blkQ_ret ?_
    cases hp
    exact fnQ.l1 (fn := Tryd.f3) rfl (.inl ⟨_, rfl, rfl⟩) ⟨_, rfl, (s1.t s3).leave hcw (by decide)⟩
  · rw [if_neg (nt hb)] at hp
    refine WC.skip ?_
    refine WC.seq (WC.region ?_)
    refine WR.k rfl rfl rfl (OS.build (v := .agg (E26.e (⟨([116] : List UInt8), ([117] : List UInt8)⟩ : S_api_Owner)).toArray) [(0, vS ([116] : List UInt8)), (1, vS ([117] : List UInt8))] rfl ⟨rfl, rfl, rfl, rfl, trivial⟩ (fun _ => by kernel_rfl) ?_)
    refine WR.k rfl rfl rfl (OS.allocBx (us := [vS ([] : List UInt8), vS ([] : List UInt8)]) (c := c_1) 40 rfl Tryd.zeroValue26 rfl ?_); intro p_1 w_2 c_2 o3 s4
    refine WR.k0 rfl rfl (OS.stBxAll (v := .agg (E26.e (⟨([116] : List UInt8), ([117] : List UInt8)⟩ : S_api_Owner)).toArray) (ws := [vS ([116] : List UInt8), vS ([117] : List UInt8)]) rfl Tryd.sizeOf26 rfl rfl rfl o3 rfl rfl (one_of rfl) ?_); intro w_3 o4 s5
    refine WR.nil ?_
    refine WC.seq ?_
    refine WC.seq (WC.region ?_)
    refine WR.k rfl rfl rfl (OS.assign (v := vI (0 : Int)) rfl rfl ?_)
    refine WR.nil ?_
    obtain ⟨q, hl, hp⟩ := bind_some hp
    refine WC.blockJ2 (fun f_ w_4 => ∃ (x2 : List (S_grant_name × S_api_Client)) (x3 : List (S_grant_use × UInt8)) (b4 : Nat) (b5 : Nat) (c_3 : Col), q = .go (x2, x3) ∧ f_ 3 = p_ ∧ f_ 4 = p_1 ∧ Mp kv64 (VR.flat vv32) 12001 w_4 c_3 (.map (some b4)) x2 ∧ Mp kv67 (VR.flat vv30) 12002 w_4 c_3 (.map (some b5)) x3 ∧ Bx 12000 w_4 c_3 p_ [(.map (some b4)), (.map (some b5))] ∧ St [12000, 12001, 12002] w_3 c_2 w_4 c_3) ?_ ?_
    · have o11 := o1.keep ((s3.t s4).t s5) (by decide) (by decide)
      have o12 := o2.keep ((s3.t s4).t s5) (by decide) (by decide)
      have o13 := o.keep ((s3.t s4).t s5) (by decide)
      refine WC.loop (fun n => fun f_1 w_5 => ∃ (x : List (S_grant_name × S_api_Client)) (x1 : List (S_grant_use × UInt8)) (i : Int) (b2 : Nat) (b3 : Nat) (c_4 : Col), holdfastlaw13_GrantRooms.l1 K n n1 x x1 i = some q ∧ f_1 0 = vU8 n1 ∧ f_1 3 = p_ ∧ f_1 4 = p_1 ∧ f_1 5 = vI i ∧ Mp kv64 (VR.flat vv32) 12001 w_5 c_4 (.map (some b2)) x ∧ Mp kv67 (VR.flat vv30) 12002 w_5 c_4 (.map (some b3)) x1 ∧ Bx 12000 w_5 c_4 p_ [(.map (some b2)), (.map (some b3))] ∧ St [12000, 12001, 12002] w_3 c_2 w_5 c_4) K ⟨_, _, _, _, _, _, hl, rfl, rfl, rfl, rfl, o11, o12, o13, St.refl.mono (by decide)⟩ ?_
      rintro n f_1 w_5 ⟨x, x1, i, b2, b3, c_4, hl, h, h1, h2, h3, o6, o7, o5, s6⟩
      cases n with
      | zero => exact absurd hl (by simp [holdfastlaw13_GrantRooms.l1])
      | succ k =>
      rw [holdfastlaw13_GrantRooms.l1] at hl
      refine WC.seq ?_
      refine WC.seq (WC.region ?_)
      refine WR.k rfl rfl rfl (OS.move (v := vI i) rfl h3 ?_)
      refine WR.k rfl rfl rfl (OS.move (v := vU8 n1) rfl h ?_)
      refine WR.k rfl rfl rfl (OS.conv rfl Tryd.runUnderlying5 Tryd.runUnderlying3 rfl (cv_8i _) ?_)
      refine WR.k rfl rfl rfl (OS.bin (a := vI (n1.toNat : Int)) (b := vI (8 : Int)) rfl rfl rfl (bI_rem (by decide)) ?_)
      refine WR.k rfl rfl rfl (OS.bin (a := vI i) (b := vI ((n1.toNat : Int).tmod (8 : Int))) rfl rfl rfl bI_lss ?_)
      refine WR.nil ?_
      refine WC.cond (decide (i < (n1.toNat : Int).tmod (8 : Int))) rfl (fun hb1 => ?_) (fun hb1 => ?_)
      · rw [if_pos hb1] at hl
        refine WC.skip ?_
        refine WC.seq ?_
        refine WC.block ?_
        refine WC.seq (WC.region ?_)
        refine WR.k rfl rfl rfl (OS.move (v := vI i) rfl h3 ?_)
        refine WR.k rfl rfl rfl (OS.bin (a := vI (97 : Int)) (b := vI i) rfl rfl rfl bI_add ?_)
        refine WR.k rfl rfl rfl (OS.conv rfl Tryd.runUnderlying3 Tryd.runUnderlying5 rfl (cv_i8 _) ?_)
        obtain ⟨l1, hl1, hl⟩ := bind_some hl
        replace hl1 := (Option.some.inj hl1).symm
        refine WR.k rfl rfl rfl (OS.bslice (E := E5) (c := c_4) 47 ([iU8 (W ((97 : Int) + i))] : List UInt8) [(0, vU8 (iU8 (W ((97 : Int) + i))))] rfl ⟨rfl, rfl, trivial⟩ (fun _ => by kernel_rfl) rfl (by decide) ?_); intro v_ w_6 c_5 o14 s7
        replace o14 : Ow E5 47 w_6 c_5 v_ l1 := by rw [hl1]; exact o14
        refine WR.k rfl rfl rfl (OS.bytesToStr rfl Tryd.underlying27 Tryd.underlying5 Tryd.underlying9 rfl o14.vw ?_)
        refine WR.k rfl rfl rfl (OS.assign (v := vS l1) rfl rfl ?_)
        refine WR.nil ?_
        refine WC.seq (WC.region ?_)
        refine WR.k rfl rfl rfl (OS.move (v := p_) rfl h1 ?_)
        refine WR.k rfl rfl rfl (OS.move (v := vS l1) rfl rfl ?_)
        refine WR.k rfl rfl rfl (OS.build (v := .agg (E32.e (⟨([116] : List UInt8), l1, ([] : List UInt8), (1 : UInt8)⟩ : S_api_Client)).toArray) [(0, vS ([116] : List UInt8)), (1, vS l1), (3, vU8 (1 : UInt8))] rfl ⟨rfl, rfl, rfl, rfl, rfl, (by kernel_rfl), trivial⟩ (fun _ => by kernel_rfl) ?_)
        have o15 := o5.keep s7 (by decide)
        have o16 := o6.keep s7 (by decide) (by decide)
        have o17 := o7.keep s7 (by decide) (by decide)
        obtain ⟨r_2, hr_2, hl⟩ := bind_some hl
        refine WR.k rfl rfl rfl (OS.callF (vs := [p_, .agg (E32.e (⟨([116] : List UInt8), l1, ([] : List UInt8), (1 : UInt8)⟩ : S_api_Client)).toArray]) rfl ⟨rfl, rfl, trivial⟩ Tryd.call8 ((W8 K w_6 (rcc [12000, 12001, 12002] c_5) (rcc_lt c_5 rfl) hr_2 (o15.tr (rc_tr (by decide))) (o16.tr (rc_tr (by decide))) (o17.tr (rc_tr (by decide)))).mono ?_))
        rintro _ w_7 ⟨b6, b7, d3, rfl, s8, o18, o19, o20⟩
        refine ⟨_, rfl, ?_⟩
        obtain ⟨c_6, s9, o18, o19, o20⟩ : ∃ c_6, St [12000, 12001, 12002] w_6 c_5 w_7 c_6 ∧ Bx 12000 w_7 c_6 p_ [(.map (some b6)), (.map (some b7))] ∧ Mp kv64 (VR.flat vv32) 12001 w_7 c_6 (.map (some b6)) r_2.2.clients ∧ Mp kv67 (VR.flat vv30) 12002 w_7 c_6 (.map (some b7)) r_2.2.consents := ⟨_, s8.mg2 (sh := 90000) rfl, o18.tr (mg2_back s8 rfl), o19.tr (mg2_back s8 rfl), o20.tr (mg2_back s8 rfl)⟩
        refine WR.k rfl rfl rfl (OS.assign (v := vI r_2.1) rfl rfl ?_)
        refine WR.nil ?_
        refine WC.seq (WC.region ?_)
        refine WR.k rfl rfl rfl (OS.move (v := p_) rfl h1 ?_)
        have o21 := o4.keep ((s6.t s7).t s9) (by decide)
        refine WR.k rfl rfl rfl (OS.ldN (us := [vS ([116] : List UInt8), vS ([117] : List UInt8)]) rfl Tryd.isAgg26 Tryd.sizeOf26 h2 o21.ldAll rfl ?_)
        refine WR.k rfl rfl rfl (OS.move (v := vS l1) rfl rfl ?_)
        refine WR.k rfl rfl rfl (OS.build (v := .agg (E35.e (⟨(⟨([116] : List UInt8), ([117] : List UInt8)⟩ : S_api_Owner), l1, (1 : UInt8)⟩ : S_api_Consent)).toArray) [(0, .agg (E26.e (⟨([116] : List UInt8), ([117] : List UInt8)⟩ : S_api_Owner)).toArray), (1, vS l1), (2, vU8 (1 : UInt8))] rfl ⟨rfl, rfl, rfl, rfl, rfl, (by kernel_rfl), trivial⟩ (fun _ => by kernel_rfl) ?_)
        obtain ⟨r_3, hr_3, hl⟩ := bind_some hl
        refine WR.k rfl rfl rfl (OS.callF (vs := [p_, .agg (E35.e (⟨(⟨([116] : List UInt8), ([117] : List UInt8)⟩ : S_api_Owner), l1, (1 : UInt8)⟩ : S_api_Consent)).toArray]) rfl ⟨rfl, rfl, trivial⟩ Tryd.call9 ((W9 K w_7 (rcc [12000, 12001, 12002] c_6) (rcc_lt c_6 rfl) hr_3 (o18.tr (rc_tr (by decide))) (o19.tr (rc_tr (by decide))) (o20.tr (rc_tr (by decide)))).mono ?_))
        rintro _ w_8 ⟨b8, b9, d4, rfl, s10, o22, o23, o24⟩
        refine ⟨_, rfl, ?_⟩
        obtain ⟨c_7, s11, o22, o23, o24⟩ : ∃ c_7, St [12000, 12001, 12002] w_7 c_6 w_8 c_7 ∧ Bx 12000 w_8 c_7 p_ [(.map (some b8)), (.map (some b9))] ∧ Mp kv64 (VR.flat vv32) 12001 w_8 c_7 (.map (some b8)) r_3.2.clients ∧ Mp kv67 (VR.flat vv30) 12002 w_8 c_7 (.map (some b9)) r_3.2.consents := ⟨_, s10.mg2 (sh := 100000) rfl, o22.tr (mg2_back s10 rfl), o23.tr (mg2_back s10 rfl), o24.tr (mg2_back s10 rfl)⟩
        refine WR.k rfl rfl rfl (OS.assign (v := vI r_3.1) rfl rfl ?_)
        refine WR.nil ?_
        refine WC.seq (WC.region ?_)
        refine WR.k rfl rfl rfl (OS.move (v := vI r_2.1) rfl rfl ?_)
        refine WR.k rfl rfl rfl (OS.bin (a := vI r_2.1) (b := vI (0 : Int)) rfl rfl rfl bI_eql ?_)
        refine WR.k rfl rfl rfl (OS.move (v := vI i) rfl h3 ?_)
        refine WR.k rfl rfl rfl (OS.bin (a := vI i) (b := vI (4 : Int)) rfl rfl rfl bI_lss ?_)
        refine WR.k rfl rfl rfl (OS.eqB rfl (.inr ⟨rfl, rfl⟩) Tryd.underlying4 rfl rfl ?_)
        refine WR.k rfl rfl rfl (OS.move (v := vB (!decide (decide (r_2.1 = (0 : Int)) = decide (i < (4 : Int))))) rfl rfl ?_)
        refine WR.cut2 7 (fun f_2 w_9 => f_2 0 = vU8 n1 ∧ f_2 3 = p_ ∧ f_2 4 = p_1 ∧ f_2 5 = vI i ∧ f_2 8 = vI r_3.1 ∧ f_2 46 = vB ((!decide (decide (r_2.1 = (0 : Int)) = decide (i < (4 : Int)))) || ((!decide (r_2.1 = (0 : Int))) && (!decide (r_2.1 = (24 : Int))))) ∧ w_8 = w_9) ?_ ?_
        · rcases Bool.eq_false_or_eq_true (!decide (decide (r_2.1 = (0 : Int)) = decide (i < (4 : Int)))) with hg | hg
          · refine WR.gF rfl rfl (vb_t rfl hg) rfl rfl ?_
            refine WR.gF rfl rfl (vb_t rfl hg) rfl rfl ?_
            refine WR.gF rfl rfl (vb_t rfl hg) rfl rfl ?_
            refine WR.gN rfl rfl rfl rfl rfl ?_
            refine WR.gN rfl rfl rfl rfl rfl ?_
            refine WR.gF rfl rfl (vb_t rfl hg) rfl rfl ?_
            refine WR.k rfl rfl rfl (OS.pickT rfl (vb_t rfl hg) rfl ?_)
            refine WR.nil ?_
            exact ⟨h, h1, h2, h3, rfl, (or_t hg), rfl⟩
          · refine WR.kT rfl rfl (vb_f rfl hg) rfl rfl (OS.move (v := vI r_2.1) rfl rfl ?_)
            refine WR.kT rfl rfl (vb_f rfl hg) rfl rfl (OS.bin (a := vI r_2.1) (b := vI (0 : Int)) rfl rfl rfl bI_neq ?_)
            refine WR.kT rfl rfl (vb_f rfl hg) rfl rfl (OS.move (v := vB (!decide (r_2.1 = (0 : Int)))) rfl rfl ?_)
            refine WR.cut2 3 (fun f_3 w_10 => f_3 0 = vU8 n1 ∧ f_3 3 = p_ ∧ f_3 4 = p_1 ∧ f_3 5 = vI i ∧ f_3 8 = vI r_3.1 ∧ f_3 39 = vB (!decide (decide (r_2.1 = (0 : Int)) = decide (i < (4 : Int)))) ∧ f_3 40 = vI r_2.1 ∧ f_3 41 = vB (!decide (r_2.1 = (0 : Int))) ∧ f_3 42 = vB (!decide (r_2.1 = (0 : Int))) ∧ f_3 45 = vB ((!decide (r_2.1 = (0 : Int))) && (!decide (r_2.1 = (24 : Int)))) ∧ w_8 = w_10) ?_ ?_
            · rcases Bool.eq_false_or_eq_true (!decide (r_2.1 = (0 : Int))) with hg1 | hg1
              · refine WR.kT rfl rfl (vb_t rfl hg1) rfl rfl (OS.move (v := vI r_2.1) rfl rfl ?_)
                refine WR.kT rfl rfl (vb_t rfl hg1) rfl rfl (OS.bin (a := vI r_2.1) (b := vI (24 : Int)) rfl rfl rfl bI_neq ?_)
                refine WR.kT rfl rfl (vb_f rfl hg) rfl rfl (OS.pickT rfl (vb_t rfl hg1) rfl ?_)
                refine WR.nil ?_
                exact ⟨h, h1, h2, h3, rfl, rfl, rfl, rfl, rfl, (and_t hg1), rfl⟩
              · refine WR.gF rfl rfl (vb_f rfl hg1) rfl rfl ?_
                refine WR.gF rfl rfl (vb_f rfl hg1) rfl rfl ?_
                refine WR.kT rfl rfl (vb_f rfl hg) rfl rfl (OS.pickF rfl (vb_f rfl hg1) rfl ?_)
                refine WR.nil ?_
                exact ⟨h, h1, h2, h3, rfl, rfl, rfl, rfl, rfl, (and_f hg1), rfl⟩
            · rintro f_3 _ ⟨h4, h5, h6, h7, h8, h9, h10, h11, h12, h13, rfl⟩
              refine WR.k rfl rfl rfl (OS.pickF rfl (vb_f h9 hg) h13 ?_)
              refine WR.nil ?_
              exact ⟨h4, h5, h6, h7, h8, (or_f hg), rfl⟩
        · rintro f_2 _ ⟨h14, h15, h16, h17, h18, h19, rfl⟩
          refine WR.k rfl rfl rfl (OS.move (v := vB ((!decide (decide (r_2.1 = (0 : Int)) = decide (i < (4 : Int)))) || ((!decide (r_2.1 = (0 : Int))) && (!decide (r_2.1 = (24 : Int)))))) rfl h19 ?_)
          refine WR.cut2 6 (fun f_4 w_11 => f_4 0 = vU8 n1 ∧ f_4 3 = p_ ∧ f_4 4 = p_1 ∧ f_4 5 = vI i ∧ f_4 8 = vI r_3.1 ∧ f_4 53 = vB (((!decide (decide (r_2.1 = (0 : Int)) = decide (i < (4 : Int)))) || ((!decide (r_2.1 = (0 : Int))) && (!decide (r_2.1 = (24 : Int))))) || (!decide (decide (r_3.1 = (0 : Int)) = decide (i < (4 : Int))))) ∧ w_8 = w_11) ?_ ?_
          · rcases Bool.eq_false_or_eq_true ((!decide (decide (r_2.1 = (0 : Int)) = decide (i < (4 : Int)))) || ((!decide (r_2.1 = (0 : Int))) && (!decide (r_2.1 = (24 : Int))))) with hg2 | hg2
            · refine WR.gF rfl rfl (vb_t rfl hg2) rfl rfl ?_
              refine WR.gF rfl rfl (vb_t rfl hg2) rfl rfl ?_
              refine WR.gF rfl rfl (vb_t rfl hg2) rfl rfl ?_
              refine WR.gF rfl rfl (vb_t rfl hg2) rfl rfl ?_
              refine WR.gF rfl rfl (vb_t rfl hg2) rfl rfl ?_
              refine WR.k rfl rfl rfl (OS.pickT rfl (vb_t rfl hg2) rfl ?_)
              refine WR.nil ?_
              exact ⟨h14, h15, h16, h17, h18, (or_t hg2), rfl⟩
            · refine WR.kT rfl rfl (vb_f rfl hg2) rfl rfl (OS.move (v := vI r_3.1) rfl h18 ?_)
              refine WR.kT rfl rfl (vb_f rfl hg2) rfl rfl (OS.bin (a := vI r_3.1) (b := vI (0 : Int)) rfl rfl rfl bI_eql ?_)
              refine WR.kT rfl rfl (vb_f rfl hg2) rfl rfl (OS.move (v := vI i) rfl h17 ?_)
              refine WR.kT rfl rfl (vb_f rfl hg2) rfl rfl (OS.bin (a := vI i) (b := vI (4 : Int)) rfl rfl rfl bI_lss ?_)
              refine WR.kT rfl rfl (vb_f rfl hg2) rfl rfl (OS.eqB rfl (.inr ⟨rfl, rfl⟩) Tryd.underlying4 rfl rfl ?_)
              refine WR.k rfl rfl rfl (OS.pickF rfl (vb_f rfl hg2) rfl ?_)
              refine WR.nil ?_
              exact ⟨h14, h15, h16, h17, h18, (or_f hg2), rfl⟩
          · rintro f_4 _ ⟨h20, h21, h22, h23, h24, h25, rfl⟩
            refine WR.k rfl rfl rfl (OS.move (v := vB (((!decide (decide (r_2.1 = (0 : Int)) = decide (i < (4 : Int)))) || ((!decide (r_2.1 = (0 : Int))) && (!decide (r_2.1 = (24 : Int))))) || (!decide (decide (r_3.1 = (0 : Int)) = decide (i < (4 : Int)))))) rfl h25 ?_)
            refine WR.cut2 7 (fun f_5 w_12 => f_5 0 = vU8 n1 ∧ f_5 3 = p_ ∧ f_5 4 = p_1 ∧ f_5 5 = vI i ∧ f_5 61 = vB ((((!decide (decide (r_2.1 = (0 : Int)) = decide (i < (4 : Int)))) || ((!decide (r_2.1 = (0 : Int))) && (!decide (r_2.1 = (24 : Int))))) || (!decide (decide (r_3.1 = (0 : Int)) = decide (i < (4 : Int))))) || ((!decide (r_3.1 = (0 : Int))) && (!decide (r_3.1 = (4 : Int))))) ∧ w_8 = w_12) ?_ ?_
            · rcases Bool.eq_false_or_eq_true (((!decide (decide (r_2.1 = (0 : Int)) = decide (i < (4 : Int)))) || ((!decide (r_2.1 = (0 : Int))) && (!decide (r_2.1 = (24 : Int))))) || (!decide (decide (r_3.1 = (0 : Int)) = decide (i < (4 : Int))))) with hg3 | hg3
              · refine WR.gF rfl rfl (vb_t rfl hg3) rfl rfl ?_
                refine WR.gF rfl rfl (vb_t rfl hg3) rfl rfl ?_
                refine WR.gF rfl rfl (vb_t rfl hg3) rfl rfl ?_
                refine WR.gN rfl rfl rfl rfl rfl ?_
                refine WR.gN rfl rfl rfl rfl rfl ?_
                refine WR.gF rfl rfl (vb_t rfl hg3) rfl rfl ?_
                refine WR.k rfl rfl rfl (OS.pickT rfl (vb_t rfl hg3) rfl ?_)
                refine WR.nil ?_
                exact ⟨h20, h21, h22, h23, (or_t hg3), rfl⟩
              · refine WR.kT rfl rfl (vb_f rfl hg3) rfl rfl (OS.move (v := vI r_3.1) rfl h24 ?_)
                refine WR.kT rfl rfl (vb_f rfl hg3) rfl rfl (OS.bin (a := vI r_3.1) (b := vI (0 : Int)) rfl rfl rfl bI_neq ?_)
                refine WR.kT rfl rfl (vb_f rfl hg3) rfl rfl (OS.move (v := vB (!decide (r_3.1 = (0 : Int)))) rfl rfl ?_)
                refine WR.cut2 3 (fun f_6 w_13 => f_6 0 = vU8 n1 ∧ f_6 3 = p_ ∧ f_6 4 = p_1 ∧ f_6 5 = vI i ∧ f_6 54 = vB (((!decide (decide (r_2.1 = (0 : Int)) = decide (i < (4 : Int)))) || ((!decide (r_2.1 = (0 : Int))) && (!decide (r_2.1 = (24 : Int))))) || (!decide (decide (r_3.1 = (0 : Int)) = decide (i < (4 : Int))))) ∧ f_6 55 = vI r_3.1 ∧ f_6 56 = vB (!decide (r_3.1 = (0 : Int))) ∧ f_6 57 = vB (!decide (r_3.1 = (0 : Int))) ∧ f_6 60 = vB ((!decide (r_3.1 = (0 : Int))) && (!decide (r_3.1 = (4 : Int)))) ∧ w_8 = w_13) ?_ ?_
                · rcases Bool.eq_false_or_eq_true (!decide (r_3.1 = (0 : Int))) with hg4 | hg4
                  · refine WR.kT rfl rfl (vb_t rfl hg4) rfl rfl (OS.move (v := vI r_3.1) rfl h24 ?_)
                    refine WR.kT rfl rfl (vb_t rfl hg4) rfl rfl (OS.bin (a := vI r_3.1) (b := vI (4 : Int)) rfl rfl rfl bI_neq ?_)
                    refine WR.kT rfl rfl (vb_f rfl hg3) rfl rfl (OS.pickT rfl (vb_t rfl hg4) rfl ?_)
                    refine WR.nil ?_
                    exact ⟨h20, h21, h22, h23, rfl, rfl, rfl, rfl, (and_t hg4), rfl⟩
                  · refine WR.gF rfl rfl (vb_f rfl hg4) rfl rfl ?_
                    refine WR.gF rfl rfl (vb_f rfl hg4) rfl rfl ?_
                    refine WR.kT rfl rfl (vb_f rfl hg3) rfl rfl (OS.pickF rfl (vb_f rfl hg4) rfl ?_)
                    refine WR.nil ?_
                    exact ⟨h20, h21, h22, h23, rfl, rfl, rfl, rfl, (and_f hg4), rfl⟩
                · rintro f_6 _ ⟨h26, h27, h28, h29, h30, h31, h32, h33, h34, rfl⟩
                  refine WR.k rfl rfl rfl (OS.pickF rfl (vb_f h30 hg3) h34 ?_)
                  refine WR.nil ?_
                  exact ⟨h26, h27, h28, h29, (or_f hg3), rfl⟩
            · rintro f_5 _ ⟨h35, h36, h37, h38, h39, rfl⟩
              refine WR.nil ?_
              refine WC.cond ((((!decide (decide (r_2.1 = (0 : Int)) = decide (i < (4 : Int)))) || ((!decide (r_2.1 = (0 : Int))) && (!decide (r_2.1 = (24 : Int))))) || (!decide (decide (r_3.1 = (0 : Int)) = decide (i < (4 : Int))))) || ((!decide (r_3.1 = (0 : Int))) && (!decide (r_3.1 = (4 : Int))))) h39 (fun hb2 => ?_) (fun hb2 => ?_)
              · rw [if_pos hb2] at hl
                refine WC.seq (WC.region ?_)
                refine WR.k rfl rfl rfl (OS.assign (v := vB false) rfl rfl ?_)
                refine WR.nil ?_
                refine WC.ret ?_
                repeat first | refine thenQ_ret ?_ | refine blkQ_ret ?_
                cases hl
                simp only [lrc] at hp
                cases hp
                exact fnQ.l1 (fn := Tryd.f3) rfl (.inl ⟨_, rfl, rfl⟩) ⟨_, rfl, (((((((s1.t s3).t s4).t s5).t s6).t s7).t s9).t s11).leave hcw (by decide)⟩
              · rw [if_neg (nt hb2)] at hl
                refine WC.skip ?_
                refine WC.region ?_
                refine WR.k rfl rfl rfl (OS.move (v := vI i) rfl h38 ?_)
                refine WR.k rfl rfl rfl (OS.bin (a := vI i) (b := vI (1 : Int)) rfl rfl rfl bI_add ?_)
                refine WR.k rfl rfl rfl (OS.assign (v := vI (W (i + (1 : Int)))) rfl rfl ?_)
                refine WR.nil ?_
                exact ⟨k, by omega, _, _, _, _, _, _, hl, h35, h36, h37, rfl, o23, o24, o22, (((s6.t s7).t s9).t s11).mono (by decide)⟩
      · rw [if_neg (nt hb1)] at hl
        refine WC.exit ?_
        cases hl
        exact ⟨_, _, _, _, _, rfl, h1, h2, o6, o7, o5, s6.mono (by decide)⟩
    · rintro f_ w_4 ⟨x2, x3, b4, b5, c_3, rfl, h40, h41, o9, o10, o8, s12⟩
      simp only [lrc] at hp
      obtain ⟨r_4, hr_4, hp⟩ := bind_some hp
      have o26 := o4.keep s12 (by decide)
      obtain ⟨r_5, hr_5, hp⟩ := bind_some hp
      rcases Bool.eq_false_or_eq_true (decide ((r_4.length : Int) = (r_5.length : Int))) with hb3 | hb3
      · rw [if_pos hb3] at hp
        obtain ⟨r_6, hr_6, hp⟩ := bind_some hp
        rcases Bool.eq_false_or_eq_true (decide (r_6.1 ≤ (4 : Int))) with hb4 | hb4
        · rw [if_pos hb4] at hp
          obtain ⟨r_7, hr_7, hp⟩ := bind_some hp
          refine WC.seq (WC.draw3 (c := c_3) ⟨21, [[], [112000], [], [], [], [122000], [], [], [], [], [], [1, 12000, 12001, 12002], [], [], [], [], [], [142000], [], [], []], [[], [], [], [], [], [], [], [], [], [], [], [12000, 12001, 12002], [], [], [], [], [], [], [], [], []], [12000, 12001, 12002], [[], [0], [1], [], [], [3, 4], [5], [2, 6], [7], [8], [8], [8, 9, 10], [8, 11], [8, 12], [13], [14], [14], [11, 14, 15, 16], [14, 17], [14, 18], [14, 19]], [20]⟩ [[], [], [], [], [], [], [], [], [], [], [], [], [12000, 12001, 12002], [12000, 12001, 12002], [12000, 12001, 12002], [12000, 12001, 12002], [12000, 12001, 12002], [12000, 12001, 12002], [12000, 12001, 12002], [12000, 12001, 12002], [12000, 12001, 12002]] [[62], [63], [64], [65], [66], [67], [68], [69], [70], [71], [72], [73], [74], [75], [76], [77], [78], [79], [80], [81], [82]] [fun yf yw yc => (yf 62) = p_, fun yf yw yc => ∃ (sl : Sl), (yf 63) = sl.val ∧ Ow E32 112000 yw yc sl.val r_4, fun yf yw yc => (yf 64) = vI (r_4.length : Int), fun yf yw yc => (yf 65) = p_, fun yf yw yc => (yf 66) = .agg (E26.e (⟨([116] : List UInt8), ([117] : List UInt8)⟩ : S_api_Owner)).toArray, fun yf yw yc => ∃ (sl1 : Sl), (yf 67) = sl1.val ∧ Ow E35 122000 yw yc sl1.val r_5, fun yf yw yc => (yf 68) = vI (r_5.length : Int), fun yf yw yc => (yf 69) = vB (decide ((r_4.length : Int) = (r_5.length : Int))), fun yf yw yc => (yf 70) = vB (decide ((r_4.length : Int) = (r_5.length : Int))), fun yf yw yc => (yf 71) = p_, fun yf yw yc => (yf 72) = .agg (E26.e (⟨([116] : List UInt8), ([117] : List UInt8)⟩ : S_api_Owner)).toArray, fun yf yw yc => ∃ (b10 : Nat) (b11 : Nat), (yf 73) = vI r_6.1 ∧ Bx 12000 yw yc p_ [(.map (some b10)), (.map (some b11))] ∧ Mp kv64 (VR.flat vv32) 12001 yw yc (.map (some b10)) r_6.2.clients ∧ Mp kv67 (VR.flat vv30) 12002 yw yc (.map (some b11)) r_6.2.consents, fun yf yw yc => (yf 74) = vB (decide (r_6.1 ≤ (4 : Int))), fun yf yw yc => (yf 75) = vB (decide (r_6.1 ≤ (4 : Int))), fun yf yw yc => (yf 76) = vB (decide (r_6.1 ≤ (4 : Int))), fun yf yw yc => (yf 77) = p_, fun yf yw yc => (yf 78) = .agg (E26.e (⟨([116] : List UInt8), ([117] : List UInt8)⟩ : S_api_Owner)).toArray, fun yf yw yc => ∃ (sl2 : Sl), (yf 79) = sl2.val ∧ Ow E35 142000 yw yc sl2.val r_7, fun yf yw yc => (yf 80) = vI (r_7.length : Int), fun yf yw yc => (yf 81) = vB (decide ((r_7.length : Int) = (0 : Int))), fun yf yw yc => (yf 82) = vB (decide ((r_7.length : Int) = (0 : Int)))] hmix (by kernel_rfl) (by kernel_rfl) ⟨?_, ?_, ?_, ?_, ?_, ?_, ?_, ?_, ?_, ?_, ?_, ?_, ?_, ?_, ?_, ?_, ?_, ?_, ?_, ?_, ?_, trivial⟩ ⟨fun y1 y2 yw yc yI yw1 yc1 yh ye ys yk => by obtain ⟨ye0, -⟩ := ye; show (y2 62) = p_; rw [ye0]; exact yh, fun y1 y2 yw yc yI yw1 yc1 yh ye ys yk => by obtain ⟨ye0, -⟩ := ye; obtain ⟨sl, yg, o25⟩ := yh; exact ⟨sl, (by rw [ye0]; exact yg), o25.keep ys (yk _ (by simp))⟩, fun y1 y2 yw yc yI yw1 yc1 yh ye ys yk => by obtain ⟨ye0, -⟩ := ye; show (y2 64) = vI (r_4.length : Int); rw [ye0]; exact yh, fun y1 y2 yw yc yI yw1 yc1 yh ye ys yk => by obtain ⟨ye0, -⟩ := ye; show (y2 65) = p_; rw [ye0]; exact yh, fun y1 y2 yw yc yI yw1 yc1 yh ye ys yk => by obtain ⟨ye0, -⟩ := ye; show (y2 66) = .agg (E26.e (⟨([116] : List UInt8), ([117] : List UInt8)⟩ : S_api_Owner)).toArray; rw [ye0]; exact yh, fun y1 y2 yw yc yI yw1 yc1 yh ye ys yk => by obtain ⟨ye0, -⟩ := ye; obtain ⟨sl1, yg, o27⟩ := yh; exact ⟨sl1, (by rw [ye0]; exact yg), o27.keep ys (yk _ (by simp))⟩, fun y1 y2 yw yc yI yw1 yc1 yh ye ys yk => by obtain ⟨ye0, -⟩ := ye; show (y2 68) = vI (r_5.length : Int); rw [ye0]; exact yh, fun y1 y2 yw yc yI yw1 yc1 yh ye ys yk => by obtain ⟨ye0, -⟩ := ye; show (y2 69) = vB (decide ((r_4.length : Int) = (r_5.length : Int))); rw [ye0]; exact yh, fun y1 y2 yw yc yI yw1 yc1 yh ye ys yk => by obtain ⟨ye0, -⟩ := ye; show (y2 70) = vB (decide ((r_4.length : Int) = (r_5.length : Int))); rw [ye0]; exact yh, fun y1 y2 yw yc yI yw1 yc1 yh ye ys yk => by obtain ⟨ye0, -⟩ := ye; show (y2 71) = p_; rw [ye0]; exact yh, fun y1 y2 yw yc yI yw1 yc1 yh ye ys yk => by obtain ⟨ye0, -⟩ := ye; show (y2 72) = .agg (E26.e (⟨([116] : List UInt8), ([117] : List UInt8)⟩ : S_api_Owner)).toArray; rw [ye0]; exact yh, fun y1 y2 yw yc yI yw1 yc1 yh ye ys yk => by obtain ⟨ye0, -⟩ := ye; obtain ⟨b10, b11, yg, o28, o29, o30⟩ := yh; exact ⟨b10, b11, (by rw [ye0]; exact yg), o28.keep ys (yk _ (by simp)), o29.keep ys (yk _ (by simp)) (yk _ (by simp)), o30.keep ys (yk _ (by simp)) (yk _ (by simp))⟩, fun y1 y2 yw yc yI yw1 yc1 yh ye ys yk => by obtain ⟨ye0, -⟩ := ye; show (y2 74) = vB (decide (r_6.1 ≤ (4 : Int))); rw [ye0]; exact yh, fun y1 y2 yw yc yI yw1 yc1 yh ye ys yk => by obtain ⟨ye0, -⟩ := ye; show (y2 75) = vB (decide (r_6.1 ≤ (4 : Int))); rw [ye0]; exact yh, fun y1 y2 yw yc yI yw1 yc1 yh ye ys yk => by obtain ⟨ye0, -⟩ := ye; show (y2 76) = vB (decide (r_6.1 ≤ (4 : Int))); rw [ye0]; exact yh, fun y1 y2 yw yc yI yw1 yc1 yh ye ys yk => by obtain ⟨ye0, -⟩ := ye; show (y2 77) = p_; rw [ye0]; exact yh, fun y1 y2 yw yc yI yw1 yc1 yh ye ys yk => by obtain ⟨ye0, -⟩ := ye; show (y2 78) = .agg (E26.e (⟨([116] : List UInt8), ([117] : List UInt8)⟩ : S_api_Owner)).toArray; rw [ye0]; exact yh, fun y1 y2 yw yc yI yw1 yc1 yh ye ys yk => by obtain ⟨ye0, -⟩ := ye; obtain ⟨sl2, yg, o31⟩ := yh; exact ⟨sl2, (by rw [ye0]; exact yg), o31.keep ys (yk _ (by simp))⟩, fun y1 y2 yw yc yI yw1 yc1 yh ye ys yk => by obtain ⟨ye0, -⟩ := ye; show (y2 80) = vI (r_7.length : Int); rw [ye0]; exact yh, fun y1 y2 yw yc yI yw1 yc1 yh ye ys yk => by obtain ⟨ye0, -⟩ := ye; show (y2 81) = vB (decide ((r_7.length : Int) = (0 : Int))); rw [ye0]; exact yh, fun y1 y2 yw yc yI yw1 yc1 yh ye ys yk => by obtain ⟨ye0, -⟩ := ye; show (y2 82) = vB (decide ((r_7.length : Int) = (0 : Int))); rw [ye0]; exact yh, trivial⟩ ?_)
          · rintro f_7 w_14 c_13 hB hs ⟨-⟩ o ho; obtain rfl : _ = o := Option.some.inj ho
            exact OS.move (v := p_) rfl ((hB 3 (by kernel_rfl)).trans h40) ⟨_, St.refl, rfl⟩
          · rintro f_8 w_15 c_14 hB1 hs1 ⟨g, -⟩ o ho; obtain rfl : _ = o := Option.some.inj ho
            replace g : (f_8 62) = p_ := g
            have o32 := o8.keep hs1 (by decide)
            have o33 := o9.keep hs1 (by decide) (by decide)
            have o34 := o10.keep hs1 (by decide) (by decide)
            refine OS.callF (vs := [p_, vS ([116] : List UInt8)]) rfl ⟨g, rfl, trivial⟩ Tryd.call10 ((W10 K w_15 (rcc [12000, 12001, 12002] c_14) (rcc_lt c_14 rfl) hr_4 (o32.tr (rc_tr (by decide))) (o33.tr (rc_tr (by decide))) (o34.tr (rc_tr (by decide)))).mono ?_)
            rintro _ yw ⟨sl, yd, rfl, ys, o25⟩
            exact ⟨_, rfl, _, ys.mg2 (I := []) (sh := 110000) rfl, sl, rfl, o25.tr (mg2_back ys rfl)⟩
          · rintro f_9 w_16 c_15 hB2 hs2 ⟨g1, -⟩ o ho; obtain rfl : _ = o := Option.some.inj ho
            replace g1 : ∃ (sl : Sl), (f_9 63) = sl.val ∧ Ow E32 112000 w_16 c_15 sl.val r_4 := g1
            obtain ⟨sl, g1, o25⟩ := g1
            exact OS.lenSl rfl Tryd.runUnderlying36 g1 o25.isSl ⟨_, St.refl, rfl⟩
          · rintro f_10 w_17 c_16 hB3 hs3 ⟨-⟩ o ho; obtain rfl : _ = o := Option.some.inj ho
            exact OS.move (v := p_) rfl ((hB3 3 (by kernel_rfl)).trans h40) ⟨_, St.refl, rfl⟩
          · rintro f_11 w_18 c_17 hB4 hs4 ⟨-⟩ o ho; obtain rfl : _ = o := Option.some.inj ho
            have o35 := o4.keep (s12.t hs4) (by decide)
            exact OS.ldN (us := [vS ([116] : List UInt8), vS ([117] : List UInt8)]) rfl Tryd.isAgg26 Tryd.sizeOf26 ((hB4 4 (by kernel_rfl)).trans h41) o35.ldAll rfl ⟨_, St.refl, rfl⟩
          · rintro f_12 w_19 c_18 hB5 hs5 ⟨g2, g3, -⟩ o ho; obtain rfl : _ = o := Option.some.inj ho
            replace g2 : (f_12 65) = p_ := g2
            replace g3 : (f_12 66) = .agg (E26.e (⟨([116] : List UInt8), ([117] : List UInt8)⟩ : S_api_Owner)).toArray := g3
            have o36 := o8.keep hs5 (by decide)
            have o37 := o9.keep hs5 (by decide) (by decide)
            have o38 := o10.keep hs5 (by decide) (by decide)
            refine OS.callF (vs := [p_, .agg (E26.e (⟨([116] : List UInt8), ([117] : List UInt8)⟩ : S_api_Owner)).toArray]) rfl ⟨g2, g3, trivial⟩ Tryd.call11 ((W11 K w_19 (rcc [12000, 12001, 12002] c_18) (rcc_lt c_18 rfl) hr_5 (o36.tr (rc_tr (by decide))) (o37.tr (rc_tr (by decide))) (o38.tr (rc_tr (by decide)))).mono ?_)
            rintro _ yw ⟨sl1, yd, rfl, ys, o27⟩
            exact ⟨_, rfl, _, ys.mg2 (I := []) (sh := 120000) rfl, sl1, rfl, o27.tr (mg2_back ys rfl)⟩
          · rintro f_13 w_20 c_19 hB6 hs6 ⟨g4, -⟩ o ho; obtain rfl : _ = o := Option.some.inj ho
            replace g4 : ∃ (sl1 : Sl), (f_13 67) = sl1.val ∧ Ow E35 122000 w_20 c_19 sl1.val r_5 := g4
            obtain ⟨sl1, g4, o27⟩ := g4
            exact OS.lenSl rfl Tryd.runUnderlying38 g4 o27.isSl ⟨_, St.refl, rfl⟩
          · rintro f_14 w_21 c_20 hB7 hs7 ⟨g5, g6, -⟩ o ho; obtain rfl : _ = o := Option.some.inj ho
            replace g5 : (f_14 64) = vI (r_4.length : Int) := g5
            replace g6 : (f_14 68) = vI (r_5.length : Int) := g6
            exact OS.bin (a := vI (r_4.length : Int)) (b := vI (r_5.length : Int)) rfl g5 g6 bI_eql ⟨_, St.refl, rfl⟩
          · rintro f_15 w_22 c_21 hB8 hs8 ⟨g7, -⟩ o ho; obtain rfl : _ = o := Option.some.inj ho
            replace g7 : (f_15 69) = vB (decide ((r_4.length : Int) = (r_5.length : Int))) := g7
            exact OS.move (v := vB (decide ((r_4.length : Int) = (r_5.length : Int)))) rfl g7 ⟨_, St.refl, rfl⟩
          · rintro f_16 w_23 c_22 hB9 hs9 ⟨g8, -⟩ o ho; obtain rfl : _ = o := Option.some.inj ho
            replace g8 : (f_16 70) = vB (decide ((r_4.length : Int) = (r_5.length : Int))) := g8
            refine ⟨_, g8, rfl, fun _ => ?_, fun h => absurd (h.symm.trans hb3) (by decide)⟩
            exact OS.move (v := p_) rfl ((hB9 3 (by kernel_rfl)).trans h40) ⟨_, St.refl, rfl⟩
          · rintro f_17 w_24 c_23 hB10 hs10 ⟨g9, -⟩ o ho; obtain rfl : _ = o := Option.some.inj ho
            replace g9 : (f_17 70) = vB (decide ((r_4.length : Int) = (r_5.length : Int))) := g9
            refine ⟨_, g9, rfl, fun _ => ?_, fun h => absurd (h.symm.trans hb3) (by decide)⟩
            have o39 := o26.keep hs10 (by decide)
            exact OS.ldN (us := [vS ([116] : List UInt8), vS ([117] : List UInt8)]) rfl Tryd.isAgg26 Tryd.sizeOf26 ((hB10 4 (by kernel_rfl)).trans h41) o39.ldAll rfl ⟨_, St.refl, rfl⟩
          · rintro f_18 w_25 c_24 hB11 hs11 ⟨g10, g11, g12, -⟩ o ho; obtain rfl : _ = o := Option.some.inj ho
            replace g10 : (f_18 70) = vB (decide ((r_4.length : Int) = (r_5.length : Int))) := g10
            replace g11 : (f_18 71) = p_ := g11
            replace g12 : (f_18 72) = .agg (E26.e (⟨([116] : List UInt8), ([117] : List UInt8)⟩ : S_api_Owner)).toArray := g12
            refine ⟨_, g10, rfl, fun _ => ?_, fun h => absurd (h.symm.trans hb3) (by decide)⟩
            have o40 := o8.keep hs11 (by decide)
            have o41 := o9.keep hs11 (by decide) (by decide)
            have o42 := o10.keep hs11 (by decide) (by decide)
            refine OS.callF (vs := [p_, .agg (E26.e (⟨([116] : List UInt8), ([117] : List UInt8)⟩ : S_api_Owner)).toArray]) rfl ⟨g11, g12, trivial⟩ Tryd.call12 ((W12 K w_25 (rcc [12000, 12001, 12002] c_24) (rcc_lt c_24 rfl) hr_6 (o40.tr (rc_tr (by decide))) (o41.tr (rc_tr (by decide))) (o42.tr (rc_tr (by decide)))).mono ?_)
            rintro _ yw ⟨b10, b11, yd, rfl, ys, o28, o29, o30⟩
            exact ⟨_, rfl, _, ys.mg2 (I := [12000, 12001, 12002]) (sh := 130000) rfl, b10, b11, rfl, o28.tr (mg2_back ys rfl), o29.tr (mg2_back ys rfl), o30.tr (mg2_back ys rfl)⟩
          · rintro f_19 w_26 c_25 hB12 hs12 ⟨g13, g14, -⟩ o ho; obtain rfl : _ = o := Option.some.inj ho
            replace g13 : (f_19 70) = vB (decide ((r_4.length : Int) = (r_5.length : Int))) := g13
            replace g14 : ∃ (b10 : Nat) (b11 : Nat), (f_19 73) = vI r_6.1 ∧ Bx 12000 w_26 c_25 p_ [(.map (some b10)), (.map (some b11))] ∧ Mp kv64 (VR.flat vv32) 12001 w_26 c_25 (.map (some b10)) r_6.2.clients ∧ Mp kv67 (VR.flat vv30) 12002 w_26 c_25 (.map (some b11)) r_6.2.consents := g14
            obtain ⟨b10, b11, g14, o28, o29, o30⟩ := g14
            refine ⟨_, g13, rfl, fun _ => ?_, fun h => absurd (h.symm.trans hb3) (by decide)⟩
            exact OS.bin (a := vI r_6.1) (b := vI (4 : Int)) rfl g14 rfl bI_leq ⟨_, St.refl, rfl⟩
          · rintro f_20 w_27 c_26 hB13 hs13 ⟨g15, g16, -⟩ o ho; obtain rfl : _ = o := Option.some.inj ho
            replace g15 : (f_20 70) = vB (decide ((r_4.length : Int) = (r_5.length : Int))) := g15
            replace g16 : (f_20 74) = vB (decide (r_6.1 ≤ (4 : Int))) := g16
            exact OS.pickT rfl (vb_t g15 hb3) g16 ⟨_, St.refl, rfl⟩
          · rintro f_21 w_28 c_27 hB14 hs14 ⟨g17, -⟩ o ho; obtain rfl : _ = o := Option.some.inj ho
            replace g17 : (f_21 75) = vB (decide (r_6.1 ≤ (4 : Int))) := g17
            exact OS.move (v := vB (decide (r_6.1 ≤ (4 : Int)))) rfl g17 ⟨_, St.refl, rfl⟩
          · rintro f_22 w_29 c_28 hB15 hs15 ⟨g18, -⟩ o ho; obtain rfl : _ = o := Option.some.inj ho
            replace g18 : (f_22 76) = vB (decide (r_6.1 ≤ (4 : Int))) := g18
            refine ⟨_, g18, rfl, fun _ => ?_, fun h => absurd (h.symm.trans hb4) (by decide)⟩
            exact OS.move (v := p_) rfl ((hB15 3 (by kernel_rfl)).trans h40) ⟨_, St.refl, rfl⟩
          · rintro f_23 w_30 c_29 hB16 hs16 ⟨g19, -⟩ o ho; obtain rfl : _ = o := Option.some.inj ho
            replace g19 : (f_23 76) = vB (decide (r_6.1 ≤ (4 : Int))) := g19
            refine ⟨_, g19, rfl, fun _ => ?_, fun h => absurd (h.symm.trans hb4) (by decide)⟩
            have o43 := o26.keep hs16 (by decide)
            exact OS.ldN (us := [vS ([116] : List UInt8), vS ([117] : List UInt8)]) rfl Tryd.isAgg26 Tryd.sizeOf26 ((hB16 4 (by kernel_rfl)).trans h41) o43.ldAll rfl ⟨_, St.refl, rfl⟩
          · rintro f_24 w_31 c_30 hB17 hs17 ⟨g20, g21, g22, g23, -⟩ o ho; obtain rfl : _ = o := Option.some.inj ho
            replace g20 : ∃ (b10 : Nat) (b11 : Nat), (f_24 73) = vI r_6.1 ∧ Bx 12000 w_31 c_30 p_ [(.map (some b10)), (.map (some b11))] ∧ Mp kv64 (VR.flat vv32) 12001 w_31 c_30 (.map (some b10)) r_6.2.clients ∧ Mp kv67 (VR.flat vv30) 12002 w_31 c_30 (.map (some b11)) r_6.2.consents := g20
            obtain ⟨b10, b11, g20, o28, o29, o30⟩ := g20
            replace g21 : (f_24 76) = vB (decide (r_6.1 ≤ (4 : Int))) := g21
            replace g22 : (f_24 77) = p_ := g22
            replace g23 : (f_24 78) = .agg (E26.e (⟨([116] : List UInt8), ([117] : List UInt8)⟩ : S_api_Owner)).toArray := g23
            refine ⟨_, g21, rfl, fun _ => ?_, fun h => absurd (h.symm.trans hb4) (by decide)⟩
            refine OS.callF (vs := [p_, .agg (E26.e (⟨([116] : List UInt8), ([117] : List UInt8)⟩ : S_api_Owner)).toArray]) rfl ⟨g22, g23, trivial⟩ Tryd.call11 ((W11 K w_31 (rcc [12000, 12001, 12002] c_30) (rcc_lt c_30 rfl) hr_7 (o28.tr (rc_tr (by decide))) (o29.tr (rc_tr (by decide))) (o30.tr (rc_tr (by decide)))).mono ?_)
            rintro _ yw ⟨sl2, yd, rfl, ys, o31⟩
            exact ⟨_, rfl, _, ys.mg2 (I := []) (sh := 140000) rfl, sl2, rfl, o31.tr (mg2_back ys rfl)⟩
          · rintro f_25 w_32 c_31 hB18 hs18 ⟨g24, g25, -⟩ o ho; obtain rfl : _ = o := Option.some.inj ho
            replace g24 : (f_25 76) = vB (decide (r_6.1 ≤ (4 : Int))) := g24
            replace g25 : ∃ (sl2 : Sl), (f_25 79) = sl2.val ∧ Ow E35 142000 w_32 c_31 sl2.val r_7 := g25
            obtain ⟨sl2, g25, o31⟩ := g25
            refine ⟨_, g24, rfl, fun _ => ?_, fun h => absurd (h.symm.trans hb4) (by decide)⟩
            exact OS.lenSl rfl Tryd.runUnderlying38 g25 o31.isSl ⟨_, St.refl, rfl⟩
          · rintro f_26 w_33 c_32 hB19 hs19 ⟨g26, g27, -⟩ o ho; obtain rfl : _ = o := Option.some.inj ho
            replace g26 : (f_26 76) = vB (decide (r_6.1 ≤ (4 : Int))) := g26
            replace g27 : (f_26 80) = vI (r_7.length : Int) := g27
            refine ⟨_, g26, rfl, fun _ => ?_, fun h => absurd (h.symm.trans hb4) (by decide)⟩
            exact OS.bin (a := vI (r_7.length : Int)) (b := vI (0 : Int)) rfl g27 rfl bI_eql ⟨_, St.refl, rfl⟩
          · rintro f_27 w_34 c_33 hB20 hs20 ⟨g28, g29, -⟩ o ho; obtain rfl : _ = o := Option.some.inj ho
            replace g28 : (f_27 76) = vB (decide (r_6.1 ≤ (4 : Int))) := g28
            replace g29 : (f_27 81) = vB (decide ((r_7.length : Int) = (0 : Int))) := g29
            exact OS.pickT rfl (vb_t g28 hb4) g29 ⟨_, St.refl, rfl⟩
          · rintro f_28 w_35 c_34 hB21 hs21 ⟨g30, -⟩
            replace g30 : (f_28 82) = vB (decide ((r_7.length : Int) = (0 : Int))) := g30
            refine WR.k rfl rfl rfl (OS.assign (v := vB (decide ((r_7.length : Int) = (0 : Int)))) rfl g30 ?_)
            refine WR.nil ?_
            refine WC.ret ?_
            repeat first | refine thenQ_ret ?_ | refine blkQ_ret ?_
            cases hp
            exact fnQ.l1 (fn := Tryd.f3) rfl (.inl ⟨_, rfl, rfl⟩) ⟨_, rfl, (((((s1.t s3).t s4).t s5).t s12).t hs21).leave hcw (by decide)⟩
        · rw [if_neg (nt hb4)] at hp
          refine WC.seq (WC.draw3 (c := c_3) ⟨21, [[], [112000], [], [], [], [122000], [], [], [], [], [], [1, 12000, 12001, 12002], [], [], [], [], [], [], [], [], []], [[], [], [], [], [], [], [], [], [], [], [], [12000, 12001, 12002], [], [], [], [], [], [], [], [], []], [12000, 12001, 12002], [[], [0], [1], [], [], [3, 4], [5], [2, 6], [7], [8], [8], [8, 9, 10], [8, 11], [8, 12], [13], [14], [14], [14], [14], [14], [14]], [20]⟩ [[], [], [], [], [], [], [], [], [], [], [], [], [12000, 12001, 12002], [12000, 12001, 12002], [12000, 12001, 12002], [12000, 12001, 12002], [12000, 12001, 12002], [12000, 12001, 12002], [12000, 12001, 12002], [12000, 12001, 12002], [12000, 12001, 12002]] [[62], [63], [64], [65], [66], [67], [68], [69], [70], [71], [72], [73], [74], [75], [76], [77], [78], [79], [80], [81], [82]] [fun yf yw yc => (yf 62) = p_, fun yf yw yc => ∃ (sl : Sl), (yf 63) = sl.val ∧ Ow E32 112000 yw yc sl.val r_4, fun yf yw yc => (yf 64) = vI (r_4.length : Int), fun yf yw yc => (yf 65) = p_, fun yf yw yc => (yf 66) = .agg (E26.e (⟨([116] : List UInt8), ([117] : List UInt8)⟩ : S_api_Owner)).toArray, fun yf yw yc => ∃ (sl1 : Sl), (yf 67) = sl1.val ∧ Ow E35 122000 yw yc sl1.val r_5, fun yf yw yc => (yf 68) = vI (r_5.length : Int), fun yf yw yc => (yf 69) = vB (decide ((r_4.length : Int) = (r_5.length : Int))), fun yf yw yc => (yf 70) = vB (decide ((r_4.length : Int) = (r_5.length : Int))), fun yf yw yc => (yf 71) = p_, fun yf yw yc => (yf 72) = .agg (E26.e (⟨([116] : List UInt8), ([117] : List UInt8)⟩ : S_api_Owner)).toArray, fun yf yw yc => ∃ (b10 : Nat) (b11 : Nat), (yf 73) = vI r_6.1 ∧ Bx 12000 yw yc p_ [(.map (some b10)), (.map (some b11))] ∧ Mp kv64 (VR.flat vv32) 12001 yw yc (.map (some b10)) r_6.2.clients ∧ Mp kv67 (VR.flat vv30) 12002 yw yc (.map (some b11)) r_6.2.consents, fun yf yw yc => (yf 74) = vB (decide (r_6.1 ≤ (4 : Int))), fun yf yw yc => (yf 75) = vB (decide (r_6.1 ≤ (4 : Int))), fun yf yw yc => (yf 76) = vB (decide (r_6.1 ≤ (4 : Int))), fun yf yw yc => (yf 77) = undef, fun yf yw yc => (yf 78) = undef, fun yf yw yc => (yf 79) = undef, fun yf yw yc => (yf 80) = undef, fun yf yw yc => (yf 81) = undef, fun yf yw yc => (yf 82) = vB false] hmix (by kernel_rfl) (by kernel_rfl) ⟨?_, ?_, ?_, ?_, ?_, ?_, ?_, ?_, ?_, ?_, ?_, ?_, ?_, ?_, ?_, ?_, ?_, ?_, ?_, ?_, ?_, trivial⟩ ⟨fun y1 y2 yw yc yI yw1 yc1 yh ye ys yk => by obtain ⟨ye0, -⟩ := ye; show (y2 62) = p_; rw [ye0]; exact yh, fun y1 y2 yw yc yI yw1 yc1 yh ye ys yk => by obtain ⟨ye0, -⟩ := ye; obtain ⟨sl, yg, o25⟩ := yh; exact ⟨sl, (by rw [ye0]; exact yg), o25.keep ys (yk _ (by simp))⟩, fun y1 y2 yw yc yI yw1 yc1 yh ye ys yk => by obtain ⟨ye0, -⟩ := ye; show (y2 64) = vI (r_4.length : Int); rw [ye0]; exact yh, fun y1 y2 yw yc yI yw1 yc1 yh ye ys yk => by obtain ⟨ye0, -⟩ := ye; show (y2 65) = p_; rw [ye0]; exact yh, fun y1 y2 yw yc yI yw1 yc1 yh ye ys yk => by obtain ⟨ye0, -⟩ := ye; show (y2 66) = .agg (E26.e (⟨([116] : List UInt8), ([117] : List UInt8)⟩ : S_api_Owner)).toArray; rw [ye0]; exact yh, fun y1 y2 yw yc yI yw1 yc1 yh ye ys yk => by obtain ⟨ye0, -⟩ := ye; obtain ⟨sl1, yg, o27⟩ := yh; exact ⟨sl1, (by rw [ye0]; exact yg), o27.keep ys (yk _ (by simp))⟩, fun y1 y2 yw yc yI yw1 yc1 yh ye ys yk => by obtain ⟨ye0, -⟩ := ye; show (y2 68) = vI (r_5.length : Int); rw [ye0]; exact yh, fun y1 y2 yw yc yI yw1 yc1 yh ye ys yk => by obtain ⟨ye0, -⟩ := ye; show (y2 69) = vB (decide ((r_4.length : Int) = (r_5.length : Int))); rw [ye0]; exact yh, fun y1 y2 yw yc yI yw1 yc1 yh ye ys yk => by obtain ⟨ye0, -⟩ := ye; show (y2 70) = vB (decide ((r_4.length : Int) = (r_5.length : Int))); rw [ye0]; exact yh, fun y1 y2 yw yc yI yw1 yc1 yh ye ys yk => by obtain ⟨ye0, -⟩ := ye; show (y2 71) = p_; rw [ye0]; exact yh, fun y1 y2 yw yc yI yw1 yc1 yh ye ys yk => by obtain ⟨ye0, -⟩ := ye; show (y2 72) = .agg (E26.e (⟨([116] : List UInt8), ([117] : List UInt8)⟩ : S_api_Owner)).toArray; rw [ye0]; exact yh, fun y1 y2 yw yc yI yw1 yc1 yh ye ys yk => by obtain ⟨ye0, -⟩ := ye; obtain ⟨b10, b11, yg, o28, o29, o30⟩ := yh; exact ⟨b10, b11, (by rw [ye0]; exact yg), o28.keep ys (yk _ (by simp)), o29.keep ys (yk _ (by simp)) (yk _ (by simp)), o30.keep ys (yk _ (by simp)) (yk _ (by simp))⟩, fun y1 y2 yw yc yI yw1 yc1 yh ye ys yk => by obtain ⟨ye0, -⟩ := ye; show (y2 74) = vB (decide (r_6.1 ≤ (4 : Int))); rw [ye0]; exact yh, fun y1 y2 yw yc yI yw1 yc1 yh ye ys yk => by obtain ⟨ye0, -⟩ := ye; show (y2 75) = vB (decide (r_6.1 ≤ (4 : Int))); rw [ye0]; exact yh, fun y1 y2 yw yc yI yw1 yc1 yh ye ys yk => by obtain ⟨ye0, -⟩ := ye; show (y2 76) = vB (decide (r_6.1 ≤ (4 : Int))); rw [ye0]; exact yh, fun y1 y2 yw yc yI yw1 yc1 yh ye ys yk => by obtain ⟨ye0, -⟩ := ye; show (y2 77) = undef; rw [ye0]; exact yh, fun y1 y2 yw yc yI yw1 yc1 yh ye ys yk => by obtain ⟨ye0, -⟩ := ye; show (y2 78) = undef; rw [ye0]; exact yh, fun y1 y2 yw yc yI yw1 yc1 yh ye ys yk => by obtain ⟨ye0, -⟩ := ye; show (y2 79) = undef; rw [ye0]; exact yh, fun y1 y2 yw yc yI yw1 yc1 yh ye ys yk => by obtain ⟨ye0, -⟩ := ye; show (y2 80) = undef; rw [ye0]; exact yh, fun y1 y2 yw yc yI yw1 yc1 yh ye ys yk => by obtain ⟨ye0, -⟩ := ye; show (y2 81) = undef; rw [ye0]; exact yh, fun y1 y2 yw yc yI yw1 yc1 yh ye ys yk => by obtain ⟨ye0, -⟩ := ye; show (y2 82) = vB false; rw [ye0]; exact yh, trivial⟩ ?_)
          · rintro f_29 w_36 c_35 hB22 hs22 ⟨-⟩ o ho; obtain rfl : _ = o := Option.some.inj ho
            exact OS.move (v := p_) rfl ((hB22 3 (by kernel_rfl)).trans h40) ⟨_, St.refl, rfl⟩
          · rintro f_30 w_37 c_36 hB23 hs23 ⟨g31, -⟩ o ho; obtain rfl : _ = o := Option.some.inj ho
            replace g31 : (f_30 62) = p_ := g31
            have o44 := o8.keep hs23 (by decide)
            have o45 := o9.keep hs23 (by decide) (by decide)
            have o46 := o10.keep hs23 (by decide) (by decide)
            refine OS.callF (vs := [p_, vS ([116] : List UInt8)]) rfl ⟨g31, rfl, trivial⟩ Tryd.call10 ((W10 K w_37 (rcc [12000, 12001, 12002] c_36) (rcc_lt c_36 rfl) hr_4 (o44.tr (rc_tr (by decide))) (o45.tr (rc_tr (by decide))) (o46.tr (rc_tr (by decide)))).mono ?_)
            rintro _ yw ⟨sl, yd, rfl, ys, o25⟩
            exact ⟨_, rfl, _, ys.mg2 (I := []) (sh := 110000) rfl, sl, rfl, o25.tr (mg2_back ys rfl)⟩
          · rintro f_31 w_38 c_37 hB24 hs24 ⟨g32, -⟩ o ho; obtain rfl : _ = o := Option.some.inj ho
            replace g32 : ∃ (sl : Sl), (f_31 63) = sl.val ∧ Ow E32 112000 w_38 c_37 sl.val r_4 := g32
            obtain ⟨sl, g32, o25⟩ := g32
            exact OS.lenSl rfl Tryd.runUnderlying36 g32 o25.isSl ⟨_, St.refl, rfl⟩
          · rintro f_32 w_39 c_38 hB25 hs25 ⟨-⟩ o ho; obtain rfl : _ = o := Option.some.inj ho
            exact OS.move (v := p_) rfl ((hB25 3 (by kernel_rfl)).trans h40) ⟨_, St.refl, rfl⟩
          · rintro f_33 w_40 c_39 hB26 hs26 ⟨-⟩ o ho; obtain rfl : _ = o := Option.some.inj ho
            have o47 := o4.keep (s12.t hs26) (by decide)
            exact OS.ldN (us := [vS ([116] : List UInt8), vS ([117] : List UInt8)]) rfl Tryd.isAgg26 Tryd.sizeOf26 ((hB26 4 (by kernel_rfl)).trans h41) o47.ldAll rfl ⟨_, St.refl, rfl⟩
          · rintro f_34 w_41 c_40 hB27 hs27 ⟨g33, g34, -⟩ o ho; obtain rfl : _ = o := Option.some.inj ho
            replace g33 : (f_34 65) = p_ := g33
            replace g34 : (f_34 66) = .agg (E26.e (⟨([116] : List UInt8), ([117] : List UInt8)⟩ : S_api_Owner)).toArray := g34
            have o48 := o8.keep hs27 (by decide)
            have o49 := o9.keep hs27 (by decide) (by decide)
            have o50 := o10.keep hs27 (by decide) (by decide)
            refine OS.callF (vs := [p_, .agg (E26.e (⟨([116] : List UInt8), ([117] : List UInt8)⟩ : S_api_Owner)).toArray]) rfl ⟨g33, g34, trivial⟩ Tryd.call11 ((W11 K w_41 (rcc [12000, 12001, 12002] c_40) (rcc_lt c_40 rfl) hr_5 (o48.tr (rc_tr (by decide))) (o49.tr (rc_tr (by decide))) (o50.tr (rc_tr (by decide)))).mono ?_)
            rintro _ yw ⟨sl1, yd, rfl, ys, o27⟩
            exact ⟨_, rfl, _, ys.mg2 (I := []) (sh := 120000) rfl, sl1, rfl, o27.tr (mg2_back ys rfl)⟩
          · rintro f_35 w_42 c_41 hB28 hs28 ⟨g35, -⟩ o ho; obtain rfl : _ = o := Option.some.inj ho
            replace g35 : ∃ (sl1 : Sl), (f_35 67) = sl1.val ∧ Ow E35 122000 w_42 c_41 sl1.val r_5 := g35
            obtain ⟨sl1, g35, o27⟩ := g35
            exact OS.lenSl rfl Tryd.runUnderlying38 g35 o27.isSl ⟨_, St.refl, rfl⟩
          · rintro f_36 w_43 c_42 hB29 hs29 ⟨g36, g37, -⟩ o ho; obtain rfl : _ = o := Option.some.inj ho
            replace g36 : (f_36 64) = vI (r_4.length : Int) := g36
            replace g37 : (f_36 68) = vI (r_5.length : Int) := g37
            exact OS.bin (a := vI (r_4.length : Int)) (b := vI (r_5.length : Int)) rfl g36 g37 bI_eql ⟨_, St.refl, rfl⟩
          · rintro f_37 w_44 c_43 hB30 hs30 ⟨g38, -⟩ o ho; obtain rfl : _ = o := Option.some.inj ho
            replace g38 : (f_37 69) = vB (decide ((r_4.length : Int) = (r_5.length : Int))) := g38
            exact OS.move (v := vB (decide ((r_4.length : Int) = (r_5.length : Int)))) rfl g38 ⟨_, St.refl, rfl⟩
          · rintro f_38 w_45 c_44 hB31 hs31 ⟨g39, -⟩ o ho; obtain rfl : _ = o := Option.some.inj ho
            replace g39 : (f_38 70) = vB (decide ((r_4.length : Int) = (r_5.length : Int))) := g39
            refine ⟨_, g39, rfl, fun _ => ?_, fun h => absurd (h.symm.trans hb3) (by decide)⟩
            exact OS.move (v := p_) rfl ((hB31 3 (by kernel_rfl)).trans h40) ⟨_, St.refl, rfl⟩
          · rintro f_39 w_46 c_45 hB32 hs32 ⟨g40, -⟩ o ho; obtain rfl : _ = o := Option.some.inj ho
            replace g40 : (f_39 70) = vB (decide ((r_4.length : Int) = (r_5.length : Int))) := g40
            refine ⟨_, g40, rfl, fun _ => ?_, fun h => absurd (h.symm.trans hb3) (by decide)⟩
            have o51 := o26.keep hs32 (by decide)
            exact OS.ldN (us := [vS ([116] : List UInt8), vS ([117] : List UInt8)]) rfl Tryd.isAgg26 Tryd.sizeOf26 ((hB32 4 (by kernel_rfl)).trans h41) o51.ldAll rfl ⟨_, St.refl, rfl⟩
          · rintro f_40 w_47 c_46 hB33 hs33 ⟨g41, g42, g43, -⟩ o ho; obtain rfl : _ = o := Option.some.inj ho
            replace g41 : (f_40 70) = vB (decide ((r_4.length : Int) = (r_5.length : Int))) := g41
            replace g42 : (f_40 71) = p_ := g42
            replace g43 : (f_40 72) = .agg (E26.e (⟨([116] : List UInt8), ([117] : List UInt8)⟩ : S_api_Owner)).toArray := g43
            refine ⟨_, g41, rfl, fun _ => ?_, fun h => absurd (h.symm.trans hb3) (by decide)⟩
            have o52 := o8.keep hs33 (by decide)
            have o53 := o9.keep hs33 (by decide) (by decide)
            have o54 := o10.keep hs33 (by decide) (by decide)
            refine OS.callF (vs := [p_, .agg (E26.e (⟨([116] : List UInt8), ([117] : List UInt8)⟩ : S_api_Owner)).toArray]) rfl ⟨g42, g43, trivial⟩ Tryd.call12 ((W12 K w_47 (rcc [12000, 12001, 12002] c_46) (rcc_lt c_46 rfl) hr_6 (o52.tr (rc_tr (by decide))) (o53.tr (rc_tr (by decide))) (o54.tr (rc_tr (by decide)))).mono ?_)
            rintro _ yw ⟨b10, b11, yd, rfl, ys, o28, o29, o30⟩
            exact ⟨_, rfl, _, ys.mg2 (I := [12000, 12001, 12002]) (sh := 130000) rfl, b10, b11, rfl, o28.tr (mg2_back ys rfl), o29.tr (mg2_back ys rfl), o30.tr (mg2_back ys rfl)⟩
          · rintro f_41 w_48 c_47 hB34 hs34 ⟨g44, g45, -⟩ o ho; obtain rfl : _ = o := Option.some.inj ho
            replace g44 : (f_41 70) = vB (decide ((r_4.length : Int) = (r_5.length : Int))) := g44
            replace g45 : ∃ (b10 : Nat) (b11 : Nat), (f_41 73) = vI r_6.1 ∧ Bx 12000 w_48 c_47 p_ [(.map (some b10)), (.map (some b11))] ∧ Mp kv64 (VR.flat vv32) 12001 w_48 c_47 (.map (some b10)) r_6.2.clients ∧ Mp kv67 (VR.flat vv30) 12002 w_48 c_47 (.map (some b11)) r_6.2.consents := g45
            obtain ⟨b10, b11, g45, o28, o29, o30⟩ := g45
            refine ⟨_, g44, rfl, fun _ => ?_, fun h => absurd (h.symm.trans hb3) (by decide)⟩
            exact OS.bin (a := vI r_6.1) (b := vI (4 : Int)) rfl g45 rfl bI_leq ⟨_, St.refl, rfl⟩
          · rintro f_42 w_49 c_48 hB35 hs35 ⟨g46, g47, -⟩ o ho; obtain rfl : _ = o := Option.some.inj ho
            replace g46 : (f_42 70) = vB (decide ((r_4.length : Int) = (r_5.length : Int))) := g46
            replace g47 : (f_42 74) = vB (decide (r_6.1 ≤ (4 : Int))) := g47
            exact OS.pickT rfl (vb_t g46 hb3) g47 ⟨_, St.refl, rfl⟩
          · rintro f_43 w_50 c_49 hB36 hs36 ⟨g48, -⟩ o ho; obtain rfl : _ = o := Option.some.inj ho
            replace g48 : (f_43 75) = vB (decide (r_6.1 ≤ (4 : Int))) := g48
            exact OS.move (v := vB (decide (r_6.1 ≤ (4 : Int)))) rfl g48 ⟨_, St.refl, rfl⟩
          · rintro f_44 w_51 c_50 hB37 hs37 ⟨g49, -⟩ o ho; obtain rfl : _ = o := Option.some.inj ho
            replace g49 : (f_44 76) = vB (decide (r_6.1 ≤ (4 : Int))) := g49
            exact ⟨_, g49, rfl, fun h => absurd (h.symm.trans hb4) (by decide), fun _ => ⟨_, St.refl, rfl⟩⟩
          · rintro f_45 w_52 c_51 hB38 hs38 ⟨g50, -⟩ o ho; obtain rfl : _ = o := Option.some.inj ho
            replace g50 : (f_45 76) = vB (decide (r_6.1 ≤ (4 : Int))) := g50
            exact ⟨_, g50, rfl, fun h => absurd (h.symm.trans hb4) (by decide), fun _ => ⟨_, St.refl, rfl⟩⟩
          · rintro f_46 w_53 c_52 hB39 hs39 ⟨g51, -⟩ o ho; obtain rfl : _ = o := Option.some.inj ho
            replace g51 : (f_46 76) = vB (decide (r_6.1 ≤ (4 : Int))) := g51
            exact ⟨_, g51, rfl, fun h => absurd (h.symm.trans hb4) (by decide), fun _ => ⟨_, St.refl, rfl⟩⟩
          · rintro f_47 w_54 c_53 hB40 hs40 ⟨g52, -⟩ o ho; obtain rfl : _ = o := Option.some.inj ho
            replace g52 : (f_47 76) = vB (decide (r_6.1 ≤ (4 : Int))) := g52
            exact ⟨_, g52, rfl, fun h => absurd (h.symm.trans hb4) (by decide), fun _ => ⟨_, St.refl, rfl⟩⟩
          · rintro f_48 w_55 c_54 hB41 hs41 ⟨g53, -⟩ o ho; obtain rfl : _ = o := Option.some.inj ho
            replace g53 : (f_48 76) = vB (decide (r_6.1 ≤ (4 : Int))) := g53
            exact ⟨_, g53, rfl, fun h => absurd (h.symm.trans hb4) (by decide), fun _ => ⟨_, St.refl, rfl⟩⟩
          · rintro f_49 w_56 c_55 hB42 hs42 ⟨g54, -⟩ o ho; obtain rfl : _ = o := Option.some.inj ho
            replace g54 : (f_49 76) = vB (decide (r_6.1 ≤ (4 : Int))) := g54
            exact OS.pickF rfl (vb_f g54 hb4) rfl ⟨_, St.refl, rfl⟩
          · rintro f_50 w_57 c_56 hB43 hs43 ⟨g55, -⟩
            replace g55 : (f_50 82) = vB false := g55
            refine WR.k rfl rfl rfl (OS.assign (v := vB false) rfl g55 ?_)
            refine WR.nil ?_
            refine WC.ret ?_
            repeat first | refine thenQ_ret ?_ | refine blkQ_ret ?_
            cases hp
            exact fnQ.l1 (fn := Tryd.f3) rfl (.inl ⟨_, rfl, rfl⟩) ⟨_, rfl, (((((s1.t s3).t s4).t s5).t s12).t hs43).leave hcw (by decide)⟩
      · rw [if_neg (nt hb3)] at hp
        rcases Bool.eq_false_or_eq_true (false) with hb5 | hb5
        · rw [if_pos hb5] at hp
          obtain ⟨r_8, hr_8, hp⟩ := bind_some hp
          refine WC.seq (WC.draw3 (c := c_3) ⟨21, [[], [112000], [], [], [], [122000], [], [], [], [], [], [], [], [], [], [], [], [152000], [], [], []], [[], [], [], [], [], [], [], [], [], [], [], [], [], [], [], [], [], [], [], [], []], [], [[], [0], [1], [], [], [3, 4], [5], [2, 6], [7], [8], [8], [8], [8], [8], [13], [14], [14], [14, 15, 16], [14, 17], [14, 18], [14, 19]], [20]⟩ [[], [], [], [], [], [], [], [], [], [], [], [], [], [], [], [], [], [], [], [], []] [[62], [63], [64], [65], [66], [67], [68], [69], [70], [71], [72], [73], [74], [75], [76], [77], [78], [79], [80], [81], [82]] [fun yf yw yc => (yf 62) = p_, fun yf yw yc => ∃ (sl : Sl), (yf 63) = sl.val ∧ Ow E32 112000 yw yc sl.val r_4, fun yf yw yc => (yf 64) = vI (r_4.length : Int), fun yf yw yc => (yf 65) = p_, fun yf yw yc => (yf 66) = .agg (E26.e (⟨([116] : List UInt8), ([117] : List UInt8)⟩ : S_api_Owner)).toArray, fun yf yw yc => ∃ (sl1 : Sl), (yf 67) = sl1.val ∧ Ow E35 122000 yw yc sl1.val r_5, fun yf yw yc => (yf 68) = vI (r_5.length : Int), fun yf yw yc => (yf 69) = vB (decide ((r_4.length : Int) = (r_5.length : Int))), fun yf yw yc => (yf 70) = vB (decide ((r_4.length : Int) = (r_5.length : Int))), fun yf yw yc => (yf 71) = undef, fun yf yw yc => (yf 72) = undef, fun yf yw yc => (yf 73) = undef, fun yf yw yc => (yf 74) = undef, fun yf yw yc => (yf 75) = vB false, fun yf yw yc => (yf 76) = vB false, fun yf yw yc => (yf 77) = p_, fun yf yw yc => (yf 78) = .agg (E26.e (⟨([116] : List UInt8), ([117] : List UInt8)⟩ : S_api_Owner)).toArray, fun yf yw yc => ∃ (sl3 : Sl), (yf 79) = sl3.val ∧ Ow E35 152000 yw yc sl3.val r_8, fun yf yw yc => (yf 80) = vI (r_8.length : Int), fun yf yw yc => (yf 81) = vB (decide ((r_8.length : Int) = (0 : Int))), fun yf yw yc => (yf 82) = vB (decide ((r_8.length : Int) = (0 : Int)))] hmix (by kernel_rfl) (by kernel_rfl) ⟨?_, ?_, ?_, ?_, ?_, ?_, ?_, ?_, ?_, ?_, ?_, ?_, ?_, ?_, ?_, ?_, ?_, ?_, ?_, ?_, ?_, trivial⟩ ⟨fun y1 y2 yw yc yI yw1 yc1 yh ye ys yk => by obtain ⟨ye0, -⟩ := ye; show (y2 62) = p_; rw [ye0]; exact yh, fun y1 y2 yw yc yI yw1 yc1 yh ye ys yk => by obtain ⟨ye0, -⟩ := ye; obtain ⟨sl, yg, o25⟩ := yh; exact ⟨sl, (by rw [ye0]; exact yg), o25.keep ys (yk _ (by simp))⟩, fun y1 y2 yw yc yI yw1 yc1 yh ye ys yk => by obtain ⟨ye0, -⟩ := ye; show (y2 64) = vI (r_4.length : Int); rw [ye0]; exact yh, fun y1 y2 yw yc yI yw1 yc1 yh ye ys yk => by obtain ⟨ye0, -⟩ := ye; show (y2 65) = p_; rw [ye0]; exact yh, fun y1 y2 yw yc yI yw1 yc1 yh ye ys yk => by obtain ⟨ye0, -⟩ := ye; show (y2 66) = .agg (E26.e (⟨([116] : List UInt8), ([117] : List UInt8)⟩ : S_api_Owner)).toArray; rw [ye0]; exact yh, fun y1 y2 yw yc yI yw1 yc1 yh ye ys yk => by obtain ⟨ye0, -⟩ := ye; obtain ⟨sl1, yg, o27⟩ := yh; exact ⟨sl1, (by rw [ye0]; exact yg), o27.keep ys (yk _ (by simp))⟩, fun y1 y2 yw yc yI yw1 yc1 yh ye ys yk => by obtain ⟨ye0, -⟩ := ye; show (y2 68) = vI (r_5.length : Int); rw [ye0]; exact yh, fun y1 y2 yw yc yI yw1 yc1 yh ye ys yk => by obtain ⟨ye0, -⟩ := ye; show (y2 69) = vB (decide ((r_4.length : Int) = (r_5.length : Int))); rw [ye0]; exact yh, fun y1 y2 yw yc yI yw1 yc1 yh ye ys yk => by obtain ⟨ye0, -⟩ := ye; show (y2 70) = vB (decide ((r_4.length : Int) = (r_5.length : Int))); rw [ye0]; exact yh, fun y1 y2 yw yc yI yw1 yc1 yh ye ys yk => by obtain ⟨ye0, -⟩ := ye; show (y2 71) = undef; rw [ye0]; exact yh, fun y1 y2 yw yc yI yw1 yc1 yh ye ys yk => by obtain ⟨ye0, -⟩ := ye; show (y2 72) = undef; rw [ye0]; exact yh, fun y1 y2 yw yc yI yw1 yc1 yh ye ys yk => by obtain ⟨ye0, -⟩ := ye; show (y2 73) = undef; rw [ye0]; exact yh, fun y1 y2 yw yc yI yw1 yc1 yh ye ys yk => by obtain ⟨ye0, -⟩ := ye; show (y2 74) = undef; rw [ye0]; exact yh, fun y1 y2 yw yc yI yw1 yc1 yh ye ys yk => by obtain ⟨ye0, -⟩ := ye; show (y2 75) = vB false; rw [ye0]; exact yh, fun y1 y2 yw yc yI yw1 yc1 yh ye ys yk => by obtain ⟨ye0, -⟩ := ye; show (y2 76) = vB false; rw [ye0]; exact yh, fun y1 y2 yw yc yI yw1 yc1 yh ye ys yk => by obtain ⟨ye0, -⟩ := ye; show (y2 77) = p_; rw [ye0]; exact yh, fun y1 y2 yw yc yI yw1 yc1 yh ye ys yk => by obtain ⟨ye0, -⟩ := ye; show (y2 78) = .agg (E26.e (⟨([116] : List UInt8), ([117] : List UInt8)⟩ : S_api_Owner)).toArray; rw [ye0]; exact yh, fun y1 y2 yw yc yI yw1 yc1 yh ye ys yk => by obtain ⟨ye0, -⟩ := ye; obtain ⟨sl3, yg, o55⟩ := yh; exact ⟨sl3, (by rw [ye0]; exact yg), o55.keep ys (yk _ (by simp))⟩, fun y1 y2 yw yc yI yw1 yc1 yh ye ys yk => by obtain ⟨ye0, -⟩ := ye; show (y2 80) = vI (r_8.length : Int); rw [ye0]; exact yh, fun y1 y2 yw yc yI yw1 yc1 yh ye ys yk => by obtain ⟨ye0, -⟩ := ye; show (y2 81) = vB (decide ((r_8.length : Int) = (0 : Int))); rw [ye0]; exact yh, fun y1 y2 yw yc yI yw1 yc1 yh ye ys yk => by obtain ⟨ye0, -⟩ := ye; show (y2 82) = vB (decide ((r_8.length : Int) = (0 : Int))); rw [ye0]; exact yh, trivial⟩ ?_)
          · rintro f_51 w_58 c_57 hB44 hs44 ⟨-⟩ o ho; obtain rfl : _ = o := Option.some.inj ho
            exact OS.move (v := p_) rfl ((hB44 3 (by kernel_rfl)).trans h40) ⟨_, St.refl, rfl⟩
          · rintro f_52 w_59 c_58 hB45 hs45 ⟨g56, -⟩ o ho; obtain rfl : _ = o := Option.some.inj ho
            replace g56 : (f_52 62) = p_ := g56
            have o56 := o8.keep hs45 (by decide)
            have o57 := o9.keep hs45 (by decide) (by decide)
            have o58 := o10.keep hs45 (by decide) (by decide)
            refine OS.callF (vs := [p_, vS ([116] : List UInt8)]) rfl ⟨g56, rfl, trivial⟩ Tryd.call10 ((W10 K w_59 (rcc [12000, 12001, 12002] c_58) (rcc_lt c_58 rfl) hr_4 (o56.tr (rc_tr (by decide))) (o57.tr (rc_tr (by decide))) (o58.tr (rc_tr (by decide)))).mono ?_)
            rintro _ yw ⟨sl, yd, rfl, ys, o25⟩
            exact ⟨_, rfl, _, ys.mg2 (I := []) (sh := 110000) rfl, sl, rfl, o25.tr (mg2_back ys rfl)⟩
          · rintro f_53 w_60 c_59 hB46 hs46 ⟨g57, -⟩ o ho; obtain rfl : _ = o := Option.some.inj ho
            replace g57 : ∃ (sl : Sl), (f_53 63) = sl.val ∧ Ow E32 112000 w_60 c_59 sl.val r_4 := g57
            obtain ⟨sl, g57, o25⟩ := g57
            exact OS.lenSl rfl Tryd.runUnderlying36 g57 o25.isSl ⟨_, St.refl, rfl⟩
          · rintro f_54 w_61 c_60 hB47 hs47 ⟨-⟩ o ho; obtain rfl : _ = o := Option.some.inj ho
            exact OS.move (v := p_) rfl ((hB47 3 (by kernel_rfl)).trans h40) ⟨_, St.refl, rfl⟩
          · rintro f_55 w_62 c_61 hB48 hs48 ⟨-⟩ o ho; obtain rfl : _ = o := Option.some.inj ho
            have o59 := o4.keep (s12.t hs48) (by decide)
            exact OS.ldN (us := [vS ([116] : List UInt8), vS ([117] : List UInt8)]) rfl Tryd.isAgg26 Tryd.sizeOf26 ((hB48 4 (by kernel_rfl)).trans h41) o59.ldAll rfl ⟨_, St.refl, rfl⟩
          · rintro f_56 w_63 c_62 hB49 hs49 ⟨g58, g59, -⟩ o ho; obtain rfl : _ = o := Option.some.inj ho
            replace g58 : (f_56 65) = p_ := g58
            replace g59 : (f_56 66) = .agg (E26.e (⟨([116] : List UInt8), ([117] : List UInt8)⟩ : S_api_Owner)).toArray := g59
            have o60 := o8.keep hs49 (by decide)
            have o61 := o9.keep hs49 (by decide) (by decide)
            have o62 := o10.keep hs49 (by decide) (by decide)
            refine OS.callF (vs := [p_, .agg (E26.e (⟨([116] : List UInt8), ([117] : List UInt8)⟩ : S_api_Owner)).toArray]) rfl ⟨g58, g59, trivial⟩ Tryd.call11 ((W11 K w_63 (rcc [12000, 12001, 12002] c_62) (rcc_lt c_62 rfl) hr_5 (o60.tr (rc_tr (by decide))) (o61.tr (rc_tr (by decide))) (o62.tr (rc_tr (by decide)))).mono ?_)
            rintro _ yw ⟨sl1, yd, rfl, ys, o27⟩
            exact ⟨_, rfl, _, ys.mg2 (I := []) (sh := 120000) rfl, sl1, rfl, o27.tr (mg2_back ys rfl)⟩
          · rintro f_57 w_64 c_63 hB50 hs50 ⟨g60, -⟩ o ho; obtain rfl : _ = o := Option.some.inj ho
            replace g60 : ∃ (sl1 : Sl), (f_57 67) = sl1.val ∧ Ow E35 122000 w_64 c_63 sl1.val r_5 := g60
            obtain ⟨sl1, g60, o27⟩ := g60
            exact OS.lenSl rfl Tryd.runUnderlying38 g60 o27.isSl ⟨_, St.refl, rfl⟩
          · rintro f_58 w_65 c_64 hB51 hs51 ⟨g61, g62, -⟩ o ho; obtain rfl : _ = o := Option.some.inj ho
            replace g61 : (f_58 64) = vI (r_4.length : Int) := g61
            replace g62 : (f_58 68) = vI (r_5.length : Int) := g62
            exact OS.bin (a := vI (r_4.length : Int)) (b := vI (r_5.length : Int)) rfl g61 g62 bI_eql ⟨_, St.refl, rfl⟩
          · rintro f_59 w_66 c_65 hB52 hs52 ⟨g63, -⟩ o ho; obtain rfl : _ = o := Option.some.inj ho
            replace g63 : (f_59 69) = vB (decide ((r_4.length : Int) = (r_5.length : Int))) := g63
            exact OS.move (v := vB (decide ((r_4.length : Int) = (r_5.length : Int)))) rfl g63 ⟨_, St.refl, rfl⟩
          · rintro f_60 w_67 c_66 hB53 hs53 ⟨g64, -⟩ o ho; obtain rfl : _ = o := Option.some.inj ho
            replace g64 : (f_60 70) = vB (decide ((r_4.length : Int) = (r_5.length : Int))) := g64
            exact ⟨_, g64, rfl, fun h => absurd (h.symm.trans hb3) (by decide), fun _ => ⟨_, St.refl, rfl⟩⟩
          · rintro f_61 w_68 c_67 hB54 hs54 ⟨g65, -⟩ o ho; obtain rfl : _ = o := Option.some.inj ho
            replace g65 : (f_61 70) = vB (decide ((r_4.length : Int) = (r_5.length : Int))) := g65
            exact ⟨_, g65, rfl, fun h => absurd (h.symm.trans hb3) (by decide), fun _ => ⟨_, St.refl, rfl⟩⟩
          · rintro f_62 w_69 c_68 hB55 hs55 ⟨g66, -⟩ o ho; obtain rfl : _ = o := Option.some.inj ho
            replace g66 : (f_62 70) = vB (decide ((r_4.length : Int) = (r_5.length : Int))) := g66
            exact ⟨_, g66, rfl, fun h => absurd (h.symm.trans hb3) (by decide), fun _ => ⟨_, St.refl, rfl⟩⟩
          · rintro f_63 w_70 c_69 hB56 hs56 ⟨g67, -⟩ o ho; obtain rfl : _ = o := Option.some.inj ho
            replace g67 : (f_63 70) = vB (decide ((r_4.length : Int) = (r_5.length : Int))) := g67
            exact ⟨_, g67, rfl, fun h => absurd (h.symm.trans hb3) (by decide), fun _ => ⟨_, St.refl, rfl⟩⟩
          · rintro f_64 w_71 c_70 hB57 hs57 ⟨g68, -⟩ o ho; obtain rfl : _ = o := Option.some.inj ho
            replace g68 : (f_64 70) = vB (decide ((r_4.length : Int) = (r_5.length : Int))) := g68
            exact OS.pickF rfl (vb_f g68 hb3) rfl ⟨_, St.refl, rfl⟩
          · rintro f_65 w_72 c_71 hB58 hs58 ⟨g69, -⟩ o ho; obtain rfl : _ = o := Option.some.inj ho
            replace g69 : (f_65 75) = vB false := g69
            exact OS.move (v := vB false) rfl g69 ⟨_, St.refl, rfl⟩
          · rintro f_66 w_73 c_72 hB59 hs59 ⟨g70, -⟩ o ho; obtain rfl : _ = o := Option.some.inj ho
            replace g70 : (f_66 76) = vB false := g70
            refine ⟨_, g70, rfl, fun _ => ?_, fun h => absurd (h.symm.trans hb5) (by decide)⟩
            exact OS.move (v := p_) rfl ((hB59 3 (by kernel_rfl)).trans h40) ⟨_, St.refl, rfl⟩
          · rintro f_67 w_74 c_73 hB60 hs60 ⟨g71, -⟩ o ho; obtain rfl : _ = o := Option.some.inj ho
            replace g71 : (f_67 76) = vB false := g71
            refine ⟨_, g71, rfl, fun _ => ?_, fun h => absurd (h.symm.trans hb5) (by decide)⟩
            have o63 := o26.keep hs60 (by decide)
            exact OS.ldN (us := [vS ([116] : List UInt8), vS ([117] : List UInt8)]) rfl Tryd.isAgg26 Tryd.sizeOf26 ((hB60 4 (by kernel_rfl)).trans h41) o63.ldAll rfl ⟨_, St.refl, rfl⟩
          · rintro f_68 w_75 c_74 hB61 hs61 ⟨g72, g73, g74, -⟩ o ho; obtain rfl : _ = o := Option.some.inj ho
            replace g72 : (f_68 76) = vB false := g72
            replace g73 : (f_68 77) = p_ := g73
            replace g74 : (f_68 78) = .agg (E26.e (⟨([116] : List UInt8), ([117] : List UInt8)⟩ : S_api_Owner)).toArray := g74
            refine ⟨_, g72, rfl, fun _ => ?_, fun h => absurd (h.symm.trans hb5) (by decide)⟩
            have o64 := o8.keep hs61 (by decide)
            have o65 := o9.keep hs61 (by decide) (by decide)
            have o66 := o10.keep hs61 (by decide) (by decide)
            refine OS.callF (vs := [p_, .agg (E26.e (⟨([116] : List UInt8), ([117] : List UInt8)⟩ : S_api_Owner)).toArray]) rfl ⟨g73, g74, trivial⟩ Tryd.call11 ((W11 K w_75 (rcc [12000, 12001, 12002] c_74) (rcc_lt c_74 rfl) hr_8 (o64.tr (rc_tr (by decide))) (o65.tr (rc_tr (by decide))) (o66.tr (rc_tr (by decide)))).mono ?_)
            rintro _ yw ⟨sl3, yd, rfl, ys, o55⟩
            exact ⟨_, rfl, _, ys.mg2 (I := []) (sh := 150000) rfl, sl3, rfl, o55.tr (mg2_back ys rfl)⟩
          · rintro f_69 w_76 c_75 hB62 hs62 ⟨g75, g76, -⟩ o ho; obtain rfl : _ = o := Option.some.inj ho
            replace g75 : (f_69 76) = vB false := g75
            replace g76 : ∃ (sl3 : Sl), (f_69 79) = sl3.val ∧ Ow E35 152000 w_76 c_75 sl3.val r_8 := g76
            obtain ⟨sl3, g76, o55⟩ := g76
            refine ⟨_, g75, rfl, fun _ => ?_, fun h => absurd (h.symm.trans hb5) (by decide)⟩
            exact OS.lenSl rfl Tryd.runUnderlying38 g76 o55.isSl ⟨_, St.refl, rfl⟩
          · rintro f_70 w_77 c_76 hB63 hs63 ⟨g77, g78, -⟩ o ho; obtain rfl : _ = o := Option.some.inj ho
            replace g77 : (f_70 76) = vB false := g77
            replace g78 : (f_70 80) = vI (r_8.length : Int) := g78
            refine ⟨_, g77, rfl, fun _ => ?_, fun h => absurd (h.symm.trans hb5) (by decide)⟩
            exact OS.bin (a := vI (r_8.length : Int)) (b := vI (0 : Int)) rfl g78 rfl bI_eql ⟨_, St.refl, rfl⟩
          · rintro f_71 w_78 c_77 hB64 hs64 ⟨g79, g80, -⟩ o ho; obtain rfl : _ = o := Option.some.inj ho
            replace g79 : (f_71 76) = vB false := g79
            replace g80 : (f_71 81) = vB (decide ((r_8.length : Int) = (0 : Int))) := g80
            exact OS.pickT rfl (vb_t g79 hb5) g80 ⟨_, St.refl, rfl⟩
          · rintro f_72 w_79 c_78 hB65 hs65 ⟨g81, -⟩
            replace g81 : (f_72 82) = vB (decide ((r_8.length : Int) = (0 : Int))) := g81
            refine WR.k rfl rfl rfl (OS.assign (v := vB (decide ((r_8.length : Int) = (0 : Int)))) rfl g81 ?_)
            refine WR.nil ?_
            refine WC.ret ?_
            repeat first | refine thenQ_ret ?_ | refine blkQ_ret ?_
            cases hp
            exact fnQ.l1 (fn := Tryd.f3) rfl (.inl ⟨_, rfl, rfl⟩) ⟨_, rfl, (((((s1.t s3).t s4).t s5).t s12).t hs65).leave hcw (by decide)⟩
        · rw [if_neg (nt hb5)] at hp
          refine WC.seq (WC.draw3 (c := c_3) ⟨21, [[], [112000], [], [], [], [122000], [], [], [], [], [], [], [], [], [], [], [], [], [], [], []], [[], [], [], [], [], [], [], [], [], [], [], [], [], [], [], [], [], [], [], [], []], [], [[], [0], [1], [], [], [3, 4], [5], [2, 6], [7], [8], [8], [8], [8], [8], [13], [14], [14], [14], [14], [14], [14]], [20]⟩ [[], [], [], [], [], [], [], [], [], [], [], [], [], [], [], [], [], [], [], [], []] [[62], [63], [64], [65], [66], [67], [68], [69], [70], [71], [72], [73], [74], [75], [76], [77], [78], [79], [80], [81], [82]] [fun yf yw yc => (yf 62) = p_, fun yf yw yc => ∃ (sl : Sl), (yf 63) = sl.val ∧ Ow E32 112000 yw yc sl.val r_4, fun yf yw yc => (yf 64) = vI (r_4.length : Int), fun yf yw yc => (yf 65) = p_, fun yf yw yc => (yf 66) = .agg (E26.e (⟨([116] : List UInt8), ([117] : List UInt8)⟩ : S_api_Owner)).toArray, fun yf yw yc => ∃ (sl1 : Sl), (yf 67) = sl1.val ∧ Ow E35 122000 yw yc sl1.val r_5, fun yf yw yc => (yf 68) = vI (r_5.length : Int), fun yf yw yc => (yf 69) = vB (decide ((r_4.length : Int) = (r_5.length : Int))), fun yf yw yc => (yf 70) = vB (decide ((r_4.length : Int) = (r_5.length : Int))), fun yf yw yc => (yf 71) = undef, fun yf yw yc => (yf 72) = undef, fun yf yw yc => (yf 73) = undef, fun yf yw yc => (yf 74) = undef, fun yf yw yc => (yf 75) = vB false, fun yf yw yc => (yf 76) = vB false, fun yf yw yc => (yf 77) = undef, fun yf yw yc => (yf 78) = undef, fun yf yw yc => (yf 79) = undef, fun yf yw yc => (yf 80) = undef, fun yf yw yc => (yf 81) = undef, fun yf yw yc => (yf 82) = vB false] hmix (by kernel_rfl) (by kernel_rfl) ⟨?_, ?_, ?_, ?_, ?_, ?_, ?_, ?_, ?_, ?_, ?_, ?_, ?_, ?_, ?_, ?_, ?_, ?_, ?_, ?_, ?_, trivial⟩ ⟨fun y1 y2 yw yc yI yw1 yc1 yh ye ys yk => by obtain ⟨ye0, -⟩ := ye; show (y2 62) = p_; rw [ye0]; exact yh, fun y1 y2 yw yc yI yw1 yc1 yh ye ys yk => by obtain ⟨ye0, -⟩ := ye; obtain ⟨sl, yg, o25⟩ := yh; exact ⟨sl, (by rw [ye0]; exact yg), o25.keep ys (yk _ (by simp))⟩, fun y1 y2 yw yc yI yw1 yc1 yh ye ys yk => by obtain ⟨ye0, -⟩ := ye; show (y2 64) = vI (r_4.length : Int); rw [ye0]; exact yh, fun y1 y2 yw yc yI yw1 yc1 yh ye ys yk => by obtain ⟨ye0, -⟩ := ye; show (y2 65) = p_; rw [ye0]; exact yh, fun y1 y2 yw yc yI yw1 yc1 yh ye ys yk => by obtain ⟨ye0, -⟩ := ye; show (y2 66) = .agg (E26.e (⟨([116] : List UInt8), ([117] : List UInt8)⟩ : S_api_Owner)).toArray; rw [ye0]; exact yh, fun y1 y2 yw yc yI yw1 yc1 yh ye ys yk => by obtain ⟨ye0, -⟩ := ye; obtain ⟨sl1, yg, o27⟩ := yh; exact ⟨sl1, (by rw [ye0]; exact yg), o27.keep ys (yk _ (by simp))⟩, fun y1 y2 yw yc yI yw1 yc1 yh ye ys yk => by obtain ⟨ye0, -⟩ := ye; show (y2 68) = vI (r_5.length : Int); rw [ye0]; exact yh, fun y1 y2 yw yc yI yw1 yc1 yh ye ys yk => by obtain ⟨ye0, -⟩ := ye; show (y2 69) = vB (decide ((r_4.length : Int) = (r_5.length : Int))); rw [ye0]; exact yh, fun y1 y2 yw yc yI yw1 yc1 yh ye ys yk => by obtain ⟨ye0, -⟩ := ye; show (y2 70) = vB (decide ((r_4.length : Int) = (r_5.length : Int))); rw [ye0]; exact yh, fun y1 y2 yw yc yI yw1 yc1 yh ye ys yk => by obtain ⟨ye0, -⟩ := ye; show (y2 71) = undef; rw [ye0]; exact yh, fun y1 y2 yw yc yI yw1 yc1 yh ye ys yk => by obtain ⟨ye0, -⟩ := ye; show (y2 72) = undef; rw [ye0]; exact yh, fun y1 y2 yw yc yI yw1 yc1 yh ye ys yk => by obtain ⟨ye0, -⟩ := ye; show (y2 73) = undef; rw [ye0]; exact yh, fun y1 y2 yw yc yI yw1 yc1 yh ye ys yk => by obtain ⟨ye0, -⟩ := ye; show (y2 74) = undef; rw [ye0]; exact yh, fun y1 y2 yw yc yI yw1 yc1 yh ye ys yk => by obtain ⟨ye0, -⟩ := ye; show (y2 75) = vB false; rw [ye0]; exact yh, fun y1 y2 yw yc yI yw1 yc1 yh ye ys yk => by obtain ⟨ye0, -⟩ := ye; show (y2 76) = vB false; rw [ye0]; exact yh, fun y1 y2 yw yc yI yw1 yc1 yh ye ys yk => by obtain ⟨ye0, -⟩ := ye; show (y2 77) = undef; rw [ye0]; exact yh, fun y1 y2 yw yc yI yw1 yc1 yh ye ys yk => by obtain ⟨ye0, -⟩ := ye; show (y2 78) = undef; rw [ye0]; exact yh, fun y1 y2 yw yc yI yw1 yc1 yh ye ys yk => by obtain ⟨ye0, -⟩ := ye; show (y2 79) = undef; rw [ye0]; exact yh, fun y1 y2 yw yc yI yw1 yc1 yh ye ys yk => by obtain ⟨ye0, -⟩ := ye; show (y2 80) = undef; rw [ye0]; exact yh, fun y1 y2 yw yc yI yw1 yc1 yh ye ys yk => by obtain ⟨ye0, -⟩ := ye; show (y2 81) = undef; rw [ye0]; exact yh, fun y1 y2 yw yc yI yw1 yc1 yh ye ys yk => by obtain ⟨ye0, -⟩ := ye; show (y2 82) = vB false; rw [ye0]; exact yh, trivial⟩ ?_)
          · rintro f_73 w_80 c_79 hB66 hs66 ⟨-⟩ o ho; obtain rfl : _ = o := Option.some.inj ho
            exact OS.move (v := p_) rfl ((hB66 3 (by kernel_rfl)).trans h40) ⟨_, St.refl, rfl⟩
          · rintro f_74 w_81 c_80 hB67 hs67 ⟨g82, -⟩ o ho; obtain rfl : _ = o := Option.some.inj ho
            replace g82 : (f_74 62) = p_ := g82
            have o67 := o8.keep hs67 (by decide)
            have o68 := o9.keep hs67 (by decide) (by decide)
            have o69 := o10.keep hs67 (by decide) (by decide)
            refine OS.callF (vs := [p_, vS ([116] : List UInt8)]) rfl ⟨g82, rfl, trivial⟩ Tryd.call10 ((W10 K w_81 (rcc [12000, 12001, 12002] c_80) (rcc_lt c_80 rfl) hr_4 (o67.tr (rc_tr (by decide))) (o68.tr (rc_tr (by decide))) (o69.tr (rc_tr (by decide)))).mono ?_)
            rintro _ yw ⟨sl, yd, rfl, ys, o25⟩
            exact ⟨_, rfl, _, ys.mg2 (I := []) (sh := 110000) rfl, sl, rfl, o25.tr (mg2_back ys rfl)⟩
          · rintro f_75 w_82 c_81 hB68 hs68 ⟨g83, -⟩ o ho; obtain rfl : _ = o := Option.some.inj ho
            replace g83 : ∃ (sl : Sl), (f_75 63) = sl.val ∧ Ow E32 112000 w_82 c_81 sl.val r_4 := g83
            obtain ⟨sl, g83, o25⟩ := g83
            exact OS.lenSl rfl Tryd.runUnderlying36 g83 o25.isSl ⟨_, St.refl, rfl⟩
          · rintro f_76 w_83 c_82 hB69 hs69 ⟨-⟩ o ho; obtain rfl : _ = o := Option.some.inj ho
            exact OS.move (v := p_) rfl ((hB69 3 (by kernel_rfl)).trans h40) ⟨_, St.refl, rfl⟩
          · rintro f_77 w_84 c_83 hB70 hs70 ⟨-⟩ o ho; obtain rfl : _ = o := Option.some.inj ho
            have o70 := o4.keep (s12.t hs70) (by decide)
            exact OS.ldN (us := [vS ([116] : List UInt8), vS ([117] : List UInt8)]) rfl Tryd.isAgg26 Tryd.sizeOf26 ((hB70 4 (by kernel_rfl)).trans h41) o70.ldAll rfl ⟨_, St.refl, rfl⟩
          · rintro f_78 w_85 c_84 hB71 hs71 ⟨g84, g85, -⟩ o ho; obtain rfl : _ = o := Option.some.inj ho
            replace g84 : (f_78 65) = p_ := g84
            replace g85 : (f_78 66) = .agg (E26.e (⟨([116] : List UInt8), ([117] : List UInt8)⟩ : S_api_Owner)).toArray := g85
            have o71 := o8.keep hs71 (by decide)
            have o72 := o9.keep hs71 (by decide) (by decide)
            have o73 := o10.keep hs71 (by decide) (by decide)
            refine OS.callF (vs := [p_, .agg (E26.e (⟨([116] : List UInt8), ([117] : List UInt8)⟩ : S_api_Owner)).toArray]) rfl ⟨g84, g85, trivial⟩ Tryd.call11 ((W11 K w_85 (rcc [12000, 12001, 12002] c_84) (rcc_lt c_84 rfl) hr_5 (o71.tr (rc_tr (by decide))) (o72.tr (rc_tr (by decide))) (o73.tr (rc_tr (by decide)))).mono ?_)
            rintro _ yw ⟨sl1, yd, rfl, ys, o27⟩
            exact ⟨_, rfl, _, ys.mg2 (I := []) (sh := 120000) rfl, sl1, rfl, o27.tr (mg2_back ys rfl)⟩
          · rintro f_79 w_86 c_85 hB72 hs72 ⟨g86, -⟩ o ho; obtain rfl : _ = o := Option.some.inj ho
            replace g86 : ∃ (sl1 : Sl), (f_79 67) = sl1.val ∧ Ow E35 122000 w_86 c_85 sl1.val r_5 := g86
            obtain ⟨sl1, g86, o27⟩ := g86
            exact OS.lenSl rfl Tryd.runUnderlying38 g86 o27.isSl ⟨_, St.refl, rfl⟩
          · rintro f_80 w_87 c_86 hB73 hs73 ⟨g87, g88, -⟩ o ho; obtain rfl : _ = o := Option.some.inj ho
            replace g87 : (f_80 64) = vI (r_4.length : Int) := g87
            replace g88 : (f_80 68) = vI (r_5.length : Int) := g88
            exact OS.bin (a := vI (r_4.length : Int)) (b := vI (r_5.length : Int)) rfl g87 g88 bI_eql ⟨_, St.refl, rfl⟩
          · rintro f_81 w_88 c_87 hB74 hs74 ⟨g89, -⟩ o ho; obtain rfl : _ = o := Option.some.inj ho
            replace g89 : (f_81 69) = vB (decide ((r_4.length : Int) = (r_5.length : Int))) := g89
            exact OS.move (v := vB (decide ((r_4.length : Int) = (r_5.length : Int)))) rfl g89 ⟨_, St.refl, rfl⟩
          · rintro f_82 w_89 c_88 hB75 hs75 ⟨g90, -⟩ o ho; obtain rfl : _ = o := Option.some.inj ho
            replace g90 : (f_82 70) = vB (decide ((r_4.length : Int) = (r_5.length : Int))) := g90
            exact ⟨_, g90, rfl, fun h => absurd (h.symm.trans hb3) (by decide), fun _ => ⟨_, St.refl, rfl⟩⟩
          · rintro f_83 w_90 c_89 hB76 hs76 ⟨g91, -⟩ o ho; obtain rfl : _ = o := Option.some.inj ho
            replace g91 : (f_83 70) = vB (decide ((r_4.length : Int) = (r_5.length : Int))) := g91
            exact ⟨_, g91, rfl, fun h => absurd (h.symm.trans hb3) (by decide), fun _ => ⟨_, St.refl, rfl⟩⟩
          · rintro f_84 w_91 c_90 hB77 hs77 ⟨g92, -⟩ o ho; obtain rfl : _ = o := Option.some.inj ho
            replace g92 : (f_84 70) = vB (decide ((r_4.length : Int) = (r_5.length : Int))) := g92
            exact ⟨_, g92, rfl, fun h => absurd (h.symm.trans hb3) (by decide), fun _ => ⟨_, St.refl, rfl⟩⟩
          · rintro f_85 w_92 c_91 hB78 hs78 ⟨g93, -⟩ o ho; obtain rfl : _ = o := Option.some.inj ho
            replace g93 : (f_85 70) = vB (decide ((r_4.length : Int) = (r_5.length : Int))) := g93
            exact ⟨_, g93, rfl, fun h => absurd (h.symm.trans hb3) (by decide), fun _ => ⟨_, St.refl, rfl⟩⟩
          · rintro f_86 w_93 c_92 hB79 hs79 ⟨g94, -⟩ o ho; obtain rfl : _ = o := Option.some.inj ho
            replace g94 : (f_86 70) = vB (decide ((r_4.length : Int) = (r_5.length : Int))) := g94
            exact OS.pickF rfl (vb_f g94 hb3) rfl ⟨_, St.refl, rfl⟩
          · rintro f_87 w_94 c_93 hB80 hs80 ⟨g95, -⟩ o ho; obtain rfl : _ = o := Option.some.inj ho
            replace g95 : (f_87 75) = vB false := g95
            exact OS.move (v := vB false) rfl g95 ⟨_, St.refl, rfl⟩
          · rintro f_88 w_95 c_94 hB81 hs81 ⟨g96, -⟩ o ho; obtain rfl : _ = o := Option.some.inj ho
            replace g96 : (f_88 76) = vB false := g96
            exact ⟨_, g96, rfl, fun h => absurd (h.symm.trans hb5) (by decide), fun _ => ⟨_, St.refl, rfl⟩⟩
          · rintro f_89 w_96 c_95 hB82 hs82 ⟨g97, -⟩ o ho; obtain rfl : _ = o := Option.some.inj ho
            replace g97 : (f_89 76) = vB false := g97
            exact ⟨_, g97, rfl, fun h => absurd (h.symm.trans hb5) (by decide), fun _ => ⟨_, St.refl, rfl⟩⟩
          · rintro f_90 w_97 c_96 hB83 hs83 ⟨g98, -⟩ o ho; obtain rfl : _ = o := Option.some.inj ho
            replace g98 : (f_90 76) = vB false := g98
            exact ⟨_, g98, rfl, fun h => absurd (h.symm.trans hb5) (by decide), fun _ => ⟨_, St.refl, rfl⟩⟩
          · rintro f_91 w_98 c_97 hB84 hs84 ⟨g99, -⟩ o ho; obtain rfl : _ = o := Option.some.inj ho
            replace g99 : (f_91 76) = vB false := g99
            exact ⟨_, g99, rfl, fun h => absurd (h.symm.trans hb5) (by decide), fun _ => ⟨_, St.refl, rfl⟩⟩
          · rintro f_92 w_99 c_98 hB85 hs85 ⟨g100, -⟩ o ho; obtain rfl : _ = o := Option.some.inj ho
            replace g100 : (f_92 76) = vB false := g100
            exact ⟨_, g100, rfl, fun h => absurd (h.symm.trans hb5) (by decide), fun _ => ⟨_, St.refl, rfl⟩⟩
          · rintro f_93 w_100 c_99 hB86 hs86 ⟨g101, -⟩ o ho; obtain rfl : _ = o := Option.some.inj ho
            replace g101 : (f_93 76) = vB false := g101
            exact OS.pickF rfl (vb_f g101 hb5) rfl ⟨_, St.refl, rfl⟩
          · rintro f_94 w_101 c_100 hB87 hs87 ⟨g102, -⟩
            replace g102 : (f_94 82) = vB false := g102
            refine WR.k rfl rfl rfl (OS.assign (v := vB false) rfl g102 ?_)
            refine WR.nil ?_
            refine WC.ret ?_
            repeat first | refine thenQ_ret ?_ | refine blkQ_ret ?_
            cases hp
            exact fnQ.l1 (fn := Tryd.f3) rfl (.inl ⟨_, rfl, rfl⟩) ⟨_, rfl, (((((s1.t s3).t s4).t s5).t s12).t hs87).leave hcw (by decide)⟩

-- holdfast/holdfastref13.New
set_option maxHeartbeats 4000000 in
theorem W13 (K : Nat) (w0 : World) (cw : Col) (hcw : ∀ b, cw b < 40) {r : S_holdfastref13_Store} (hp : holdfastref13_New K = some r) :
    Calls Tryd.prog 13 [].toArray w0 fun e w1 => ∃ (p_1 : Value) (sl : Sl) (sl1 : Sl) (d : Col), e = .returned (p_1) ∧ St [] w0 cw w1 d ∧ Bx 2000 w1 d p_1 [sl.val, sl1.val] ∧ Ow E32 2001 w1 d sl.val r.c_ ∧ Ow E35 2002 w1 d sl1.val r.a := by
  refine calls_intro Tryd.func13 rfl Tryd.ntmps13 rfl ?_
  unfold holdfastref13_New at hp
  refine WC.seq (WC.region ?_)
  refine WR.k rfl rfl rfl (OS.assign (v := .pointer none) rfl rfl ?_)
  refine WR.nil ?_
  refine WC.seq (WC.region ?_)
  refine WR.k rfl rfl rfl (OS.build (v := .agg ([(.slice none 0 0), (.slice none 0 0)]).toArray) [] rfl trivial (fun _ => by kernel_rfl) ?_)
  refine WR.k rfl rfl rfl (OS.boxBx (us := [(.slice none 0 0), (.slice none 0 0)]) (c := cw) 40 rfl rfl rfl ?_); intro p_ w_ c_ o s
  refine WR.k rfl rfl rfl (OS.assign (v := p_) rfl rfl ?_)
  refine WR.nil ?_
  refine WC.ret ?_
  repeat first | refine thenQ_ret ?_ | refine blkQ_ret ?_
  cases hp
  obtain ⟨c_1, s1, o1⟩ := o.recol 2000
  exact fnQ.l1 (fn := Tryd.f13) rfl (.inl ⟨_, rfl, rfl⟩) ⟨_, ⟨none, 0, 0⟩, ⟨none, 0, 0⟩, _, rfl, (s.t s1).leave hcw (by decide), o1, Ow.nil, Ow.nil⟩

-- holdfast/holdfastref02.IsName
set_option maxHeartbeats 4000000 in
theorem W44 (K : Nat) (w0 : World) (cw : Col) (hcw : ∀ b, cw b < 40) {s : List UInt8} {r : Bool} (hp : holdfastref02_IsName K s = some r) :
    Calls Tryd.prog 44 [vS s].toArray w0 fun e w1 => ∃ (d : Col), e = .returned (vB r) ∧ St [] w0 cw w1 d := by
  refine calls_intro Tryd.func44 rfl Tryd.ntmps44 rfl ?_
  unfold holdfastref02_IsName at hp
  refine WC.seq (WC.region ?_)
  refine WR.k rfl rfl rfl (OS.assign (v := vB false) rfl rfl ?_)
  refine WR.nil ?_
  refine WC.seq ?_
  refine WC.seq (WC.region ?_)
  refine WR.k rfl rfl rfl (OS.assign (v := vI (0 : Int)) rfl rfl ?_)
  refine WR.nil ?_
  obtain ⟨q, hl, hp⟩ := bind_some hp
  refine WC.blockJ2 (fun f_ w_ => q = .go () ∧ f_ 0 = vS s ∧ w0 = w_) ?_ ?_
  · refine WC.loop (fun n => fun f_1 w_1 => ∃ (i : Int), holdfastref02_IsName.l1 n s i = some q ∧ f_1 0 = vS s ∧ f_1 3 = vI i ∧ w0 = w_1) K ⟨_, hl, rfl, rfl, rfl⟩ ?_
    rintro n f_1 _ ⟨i, hl, h, h1, rfl⟩
    cases n with
    | zero => exact absurd hl (by simp [holdfastref02_IsName.l1])
    | succ k =>
    rw [holdfastref02_IsName.l1] at hl
    refine WC.seq ?_
    refine WC.seq (WC.region ?_)
    refine WR.k rfl rfl rfl (OS.move (v := vI i) rfl h1 ?_)
    refine WR.k rfl rfl rfl (OS.move (v := vS s) rfl h ?_)
    refine WR.k rfl rfl rfl (OS.lenS rfl Tryd.runUnderlying9 rfl ?_)
    refine WR.k rfl rfl rfl (OS.bin (a := vI i) (b := vI (s.length : Int)) rfl rfl rfl bI_lss ?_)
    refine WR.nil ?_
    refine WC.cond (decide (i < (s.length : Int))) rfl (fun hb => ?_) (fun hb => ?_)
    · rw [if_pos hb] at hl
      refine WC.skip ?_
      refine WC.seq ?_
      refine WC.block ?_
      refine WC.seq (WC.region ?_)
      refine WR.k rfl rfl rfl (OS.move (v := vS s) rfl h ?_)
      refine WR.k rfl rfl rfl (OS.move (v := vI i) rfl h1 ?_)
      obtain ⟨e1, he1, hl⟩ := bind_some hl
      obtain ⟨ha, hb1, hc⟩ := gt_some he1
      refine WR.k rfl rfl rfl (OS.indexS rfl Tryd.runUnderlying9 rfl rfl ha hc ?_)
      refine WR.k rfl rfl rfl (OS.assign (v := vU8 e1) rfl rfl ?_)
      refine WR.nil ?_
      refine WC.seq (WC.region ?_)
      refine WR.k rfl rfl rfl (OS.move (v := vU8 e1) rfl rfl ?_)
      refine WR.k rfl rfl rfl (OS.bin (a := vU8 e1) (b := vU8 (97 : UInt8)) rfl rfl (by kernel_rfl) b8_geq ?_)
      refine WR.k rfl rfl rfl (OS.move (v := vB (decide ((97 : UInt8) ≤ e1))) rfl rfl ?_)
      refine WR.cut2 3 (fun f_2 w_2 => f_2 0 = vS s ∧ f_2 3 = vI i ∧ f_2 4 = vU8 e1 ∧ f_2 19 = vB ((decide ((97 : UInt8) ≤ e1)) && (decide (e1 ≤ (122 : UInt8)))) ∧ w0 = w_2) ?_ ?_
      · rcases Bool.eq_false_or_eq_true (decide ((97 : UInt8) ≤ e1)) with hg | hg
        · refine WR.kT rfl rfl (vb_t rfl hg) rfl rfl (OS.move (v := vU8 e1) rfl rfl ?_)
          refine WR.kT rfl rfl (vb_t rfl hg) rfl rfl (OS.bin (a := vU8 e1) (b := vU8 (122 : UInt8)) rfl rfl (by kernel_rfl) b8_leq ?_)
          refine WR.k rfl rfl rfl (OS.pickT rfl (vb_t rfl hg) rfl ?_)
          refine WR.nil ?_
          exact ⟨h, h1, rfl, (and_t hg), rfl⟩
        · refine WR.gF rfl rfl (vb_f rfl hg) rfl rfl ?_
          refine WR.gF rfl rfl (vb_f rfl hg) rfl rfl ?_
          refine WR.k rfl rfl rfl (OS.pickF rfl (vb_f rfl hg) rfl ?_)
          refine WR.nil ?_
          exact ⟨h, h1, rfl, (and_f hg), rfl⟩
      · rintro f_2 _ ⟨h2, h3, h4, h5, rfl⟩
        refine WR.k rfl rfl rfl (OS.move (v := vB ((decide ((97 : UInt8) ≤ e1)) && (decide (e1 ≤ (122 : UInt8))))) rfl h5 ?_)
        refine WR.cut2 7 (fun f_3 w_3 => f_3 0 = vS s ∧ f_3 3 = vI i ∧ f_3 4 = vU8 e1 ∧ f_3 27 = vB (((decide ((97 : UInt8) ≤ e1)) && (decide (e1 ≤ (122 : UInt8)))) || ((decide ((48 : UInt8) ≤ e1)) && (decide (e1 ≤ (57 : UInt8))))) ∧ w0 = w_3) ?_ ?_
        · rcases Bool.eq_false_or_eq_true ((decide ((97 : UInt8) ≤ e1)) && (decide (e1 ≤ (122 : UInt8)))) with hg1 | hg1
          · refine WR.gF rfl rfl (vb_t rfl hg1) rfl rfl ?_
            refine WR.gF rfl rfl (vb_t rfl hg1) rfl rfl ?_
            refine WR.gF rfl rfl (vb_t rfl hg1) rfl rfl ?_
            refine WR.gN rfl rfl rfl rfl rfl ?_
            refine WR.gN rfl rfl rfl rfl rfl ?_
            refine WR.gF rfl rfl (vb_t rfl hg1) rfl rfl ?_
            refine WR.k rfl rfl rfl (OS.pickT rfl (vb_t rfl hg1) rfl ?_)
            refine WR.nil ?_
            exact ⟨h2, h3, h4, (or_t hg1), rfl⟩
          · refine WR.kT rfl rfl (vb_f rfl hg1) rfl rfl (OS.move (v := vU8 e1) rfl h4 ?_)
            refine WR.kT rfl rfl (vb_f rfl hg1) rfl rfl (OS.bin (a := vU8 e1) (b := vU8 (48 : UInt8)) rfl rfl (by kernel_rfl) b8_geq ?_)
            refine WR.kT rfl rfl (vb_f rfl hg1) rfl rfl (OS.move (v := vB (decide ((48 : UInt8) ≤ e1))) rfl rfl ?_)
            refine WR.cut2 3 (fun f_4 w_4 => f_4 0 = vS s ∧ f_4 3 = vI i ∧ f_4 4 = vU8 e1 ∧ f_4 20 = vB ((decide ((97 : UInt8) ≤ e1)) && (decide (e1 ≤ (122 : UInt8)))) ∧ f_4 21 = vU8 e1 ∧ f_4 22 = vB (decide ((48 : UInt8) ≤ e1)) ∧ f_4 23 = vB (decide ((48 : UInt8) ≤ e1)) ∧ f_4 26 = vB ((decide ((48 : UInt8) ≤ e1)) && (decide (e1 ≤ (57 : UInt8)))) ∧ w0 = w_4) ?_ ?_
            · rcases Bool.eq_false_or_eq_true (decide ((48 : UInt8) ≤ e1)) with hg2 | hg2
              · refine WR.kT rfl rfl (vb_t rfl hg2) rfl rfl (OS.move (v := vU8 e1) rfl h4 ?_)
                refine WR.kT rfl rfl (vb_t rfl hg2) rfl rfl (OS.bin (a := vU8 e1) (b := vU8 (57 : UInt8)) rfl rfl (by kernel_rfl) b8_leq ?_)
                refine WR.kT rfl rfl (vb_f rfl hg1) rfl rfl (OS.pickT rfl (vb_t rfl hg2) rfl ?_)
                refine WR.nil ?_
                exact ⟨h2, h3, h4, rfl, rfl, rfl, rfl, (and_t hg2), rfl⟩
              · refine WR.gF rfl rfl (vb_f rfl hg2) rfl rfl ?_
                refine WR.gF rfl rfl (vb_f rfl hg2) rfl rfl ?_
                refine WR.kT rfl rfl (vb_f rfl hg1) rfl rfl (OS.pickF rfl (vb_f rfl hg2) rfl ?_)
                refine WR.nil ?_
                exact ⟨h2, h3, h4, rfl, rfl, rfl, rfl, (and_f hg2), rfl⟩
            · rintro f_4 _ ⟨h6, h7, h8, h9, h10, h11, h12, h13, rfl⟩
              refine WR.k rfl rfl rfl (OS.pickF rfl (vb_f h9 hg1) h13 ?_)
              refine WR.nil ?_
              exact ⟨h6, h7, h8, (or_f hg1), rfl⟩
        · rintro f_3 _ ⟨h14, h15, h16, h17, rfl⟩
          refine WR.k rfl rfl rfl (OS.move (v := vB (((decide ((97 : UInt8) ≤ e1)) && (decide (e1 ≤ (122 : UInt8)))) || ((decide ((48 : UInt8) ≤ e1)) && (decide (e1 ≤ (57 : UInt8)))))) rfl h17 ?_)
          refine WR.cut2 3 (fun f_5 w_5 => f_5 0 = vS s ∧ f_5 3 = vI i ∧ f_5 31 = vB ((((decide ((97 : UInt8) ≤ e1)) && (decide (e1 ≤ (122 : UInt8)))) || ((decide ((48 : UInt8) ≤ e1)) && (decide (e1 ≤ (57 : UInt8))))) || (decide (e1 = (45 : UInt8)))) ∧ w0 = w_5) ?_ ?_
          · rcases Bool.eq_false_or_eq_true (((decide ((97 : UInt8) ≤ e1)) && (decide (e1 ≤ (122 : UInt8)))) || ((decide ((48 : UInt8) ≤ e1)) && (decide (e1 ≤ (57 : UInt8))))) with hg3 | hg3
            · refine WR.gF rfl rfl (vb_t rfl hg3) rfl rfl ?_
              refine WR.gF rfl rfl (vb_t rfl hg3) rfl rfl ?_
              refine WR.k rfl rfl rfl (OS.pickT rfl (vb_t rfl hg3) rfl ?_)
              refine WR.nil ?_
              exact ⟨h14, h15, (or_t hg3), rfl⟩
            · refine WR.kT rfl rfl (vb_f rfl hg3) rfl rfl (OS.move (v := vU8 e1) rfl h16 ?_)
              refine WR.kT rfl rfl (vb_f rfl hg3) rfl rfl (OS.bin (a := vU8 e1) (b := vU8 (45 : UInt8)) rfl rfl (by kernel_rfl) b8_eql ?_)
              refine WR.k rfl rfl rfl (OS.pickF rfl (vb_f rfl hg3) rfl ?_)
              refine WR.nil ?_
              exact ⟨h14, h15, (or_f hg3), rfl⟩
          · rintro f_5 _ ⟨h18, h19, h20, rfl⟩
            refine WR.k rfl rfl rfl (OS.not rfl h20 ?_)
            refine WR.nil ?_
            refine WC.cond (!((((decide ((97 : UInt8) ≤ e1)) && (decide (e1 ≤ (122 : UInt8)))) || ((decide ((48 : UInt8) ≤ e1)) && (decide (e1 ≤ (57 : UInt8))))) || (decide (e1 = (45 : UInt8))))) rfl (fun hb2 => ?_) (fun hb2 => ?_)
            · rw [if_pos hb2] at hl
              refine WC.seq (WC.region ?_)
              refine WR.k rfl rfl rfl (OS.assign (v := vB false) rfl rfl ?_)
              refine WR.nil ?_
              refine WC.ret ?_
              repeat first | refine thenQ_ret ?_ | refine blkQ_ret ?_
              cases hl
              simp only [lrc] at hp
              cases hp
              exact fnQ.l1 (fn := Tryd.f44) rfl (.inl ⟨_, rfl, rfl⟩) ⟨_, rfl, (St.refl.mono (by decide))⟩
            · rw [if_neg (nt hb2)] at hl
              refine WC.skip ?_
              refine WC.region ?_
              refine WR.k rfl rfl rfl (OS.move (v := vI i) rfl h19 ?_)
              refine WR.k rfl rfl rfl (OS.bin (a := vI i) (b := vI (1 : Int)) rfl rfl rfl bI_add ?_)
              refine WR.k rfl rfl rfl (OS.assign (v := vI (W (i + (1 : Int)))) rfl rfl ?_)
              refine WR.nil ?_
              exact ⟨k, by omega, _, hl, h18, rfl, rfl⟩
    · rw [if_neg (nt hb)] at hl
      refine WC.exit ?_
      cases hl
      exact ⟨rfl, h, rfl⟩
  · rintro f_ _ ⟨rfl, h21, rfl⟩
    simp only [lrc] at hp
    refine WC.seq (WC.region ?_)
    refine WR.k rfl rfl rfl (OS.move (v := vS s) rfl h21 ?_)
    refine WR.k rfl rfl rfl (OS.lenS rfl Tryd.runUnderlying9 rfl ?_)
    refine WR.k rfl rfl rfl (OS.bin (a := vI (s.length : Int)) (b := vI (1 : Int)) rfl rfl rfl bI_geq ?_)
    refine WR.k rfl rfl rfl (OS.move (v := vB (decide ((1 : Int) ≤ (s.length : Int)))) rfl rfl ?_)
    refine WR.cut2 4 (fun f_6 w_6 => f_6 40 = vB ((decide ((1 : Int) ≤ (s.length : Int))) && (decide ((s.length : Int) ≤ (9 : Int)))) ∧ w0 = w_6) ?_ ?_
    · rcases Bool.eq_false_or_eq_true (decide ((1 : Int) ≤ (s.length : Int))) with hg4 | hg4
      · refine WR.kT rfl rfl (vb_t rfl hg4) rfl rfl (OS.move (v := vS s) rfl h21 ?_)
        refine WR.kT rfl rfl (vb_t rfl hg4) rfl rfl (OS.lenS rfl Tryd.runUnderlying9 rfl ?_)
        refine WR.kT rfl rfl (vb_t rfl hg4) rfl rfl (OS.bin (a := vI (s.length : Int)) (b := vI (9 : Int)) rfl rfl rfl bI_leq ?_)
        refine WR.k rfl rfl rfl (OS.pickT rfl (vb_t rfl hg4) rfl ?_)
        refine WR.nil ?_
        exact ⟨(and_t hg4), rfl⟩
      · refine WR.gF rfl rfl (vb_f rfl hg4) rfl rfl ?_
        refine WR.gF rfl rfl (vb_f rfl hg4) rfl rfl ?_
        refine WR.gF rfl rfl (vb_f rfl hg4) rfl rfl ?_
        refine WR.k rfl rfl rfl (OS.pickF rfl (vb_f rfl hg4) rfl ?_)
        refine WR.nil ?_
        exact ⟨(and_f hg4), rfl⟩
    · rintro f_6 _ ⟨h22, rfl⟩
      refine WR.k rfl rfl rfl (OS.assign (v := vB ((decide ((1 : Int) ≤ (s.length : Int))) && (decide ((s.length : Int) ≤ (9 : Int))))) rfl h22 ?_)
      refine WR.nil ?_
      refine WC.ret ?_
      repeat first | refine thenQ_ret ?_ | refine blkQ_ret ?_
      cases hp
      exact fnQ.l1 (fn := Tryd.f44) rfl (.inl ⟨_, rfl, rfl⟩) ⟨_, rfl, (St.refl.mono (by decide))⟩

-- (*holdfast/holdfastref13.Store).client
set_option maxHeartbeats 4000000 in
theorem W45 (K : Nat) (w0 : World) (cw : Col) (hcw : ∀ b, cw b < 40) {s : S_holdfastref13_Store} {tenant : List UInt8} {name : List UInt8} {r : Int} (hp : holdfastref13_Store_client K s tenant name = some r) {sl : Sl} {sl1 : Sl} {p_ : Value} (o : Bx 3 w0 cw p_ [sl.val, sl1.val]) (o1 : Vw E32 1 w0 cw sl.val s.c_) (o2 : Vw E35 1 w0 cw sl1.val s.a) :
    Calls Tryd.prog 45 [p_, vS tenant, vS name].toArray w0 fun e w1 => ∃ (d : Col), e = .returned (vI r) ∧ St [] w0 cw w1 d := by
  refine calls_intro Tryd.func45 rfl Tryd.ntmps45 rfl ?_
  unfold holdfastref13_Store_client at hp
  refine WC.seq (WC.region ?_)
  refine WR.k rfl rfl rfl (OS.assign (v := vI (0 : Int)) rfl rfl ?_)
  refine WR.nil ?_
  refine WC.seq ?_
  refine WC.seq (WC.region ?_)
  refine WR.k rfl rfl rfl (OS.assign (v := vI (0 : Int)) rfl rfl ?_)
  refine WR.nil ?_
  obtain ⟨q, hl, hp⟩ := bind_some hp
  refine WC.blockJ2 (fun f_ w_ => q = .go () ∧ f_ 0 = p_ ∧ w0 = w_) ?_ ?_
  · refine WC.loop (fun n => fun f_1 w_1 => ∃ (i : Int), holdfastref13_Store_client.l1 n s tenant name i = some q ∧ f_1 0 = p_ ∧ f_1 1 = vS tenant ∧ f_1 2 = vS name ∧ f_1 7 = vI i ∧ w0 = w_1) K ⟨_, hl, rfl, rfl, rfl, rfl, rfl⟩ ?_
    rintro n f_1 _ ⟨i, hl, h, h1, h2, h3, rfl⟩
    cases n with
    | zero => exact absurd hl (by simp [holdfastref13_Store_client.l1])
    | succ k =>
    rw [holdfastref13_Store_client.l1] at hl
    refine WC.seq ?_
    refine WC.seq (WC.region ?_)
    refine WR.k rfl rfl rfl (OS.move (v := vI i) rfl h3 ?_)
    refine WR.k rfl rfl rfl (OS.move (v := p_) rfl h ?_)
    refine WR.k rfl rfl rfl (OS.nilCheckBx rfl rfl o ?_)
    refine WR.k rfl rfl rfl (OS.fieldAddrBx rfl Tryd.runUnderlying77 rfl Tryd.sizeOf36 rfl rfl o ?_); intro p_1 a1
    refine WR.k rfl rfl rfl (OS.ld1 (u := sl.val) rfl Tryd.isAgg36 rfl (o.ldn a1 (sub_of rfl)) ?_)
    refine WR.k rfl rfl rfl (OS.lenSl rfl Tryd.runUnderlying36 rfl o1.isSl ?_)
    refine WR.k rfl rfl rfl (OS.bin (a := vI i) (b := vI (s.c_.length : Int)) rfl rfl rfl bI_lss ?_)
    refine WR.nil ?_
    refine WC.cond (decide (i < (s.c_.length : Int))) rfl (fun hb => ?_) (fun hb => ?_)
    · rw [if_pos hb] at hl
      refine WC.skip ?_
      refine WC.seq ?_
      refine WC.block ?_
      refine WC.seq (WC.region ?_)
      refine WR.k rfl rfl rfl (OS.move (v := p_) rfl h ?_)
      refine WR.k rfl rfl rfl (OS.nilCheckBx rfl rfl o ?_)
      refine WR.k rfl rfl rfl (OS.fieldAddrBx rfl Tryd.runUnderlying77 rfl Tryd.sizeOf36 rfl rfl o ?_); intro p_2 a2
      refine WR.k rfl rfl rfl (OS.ld1 (u := sl.val) rfl Tryd.isAgg36 rfl (o.ldn a2 (sub_of rfl)) ?_)
      refine WR.k rfl rfl rfl (OS.move (v := vI i) rfl h3 ?_)
      obtain ⟨e1, he1, hl⟩ := bind_some hl
      obtain ⟨ha, hb1, hc⟩ := gt_some he1
      refine WR.k rfl rfl rfl (OS.idx rfl Tryd.runUnderlying36 Tryd.sizeOf32 rfl o1.isSl rfl ha hb1 ?_); intro p_3 a3
      refine WR.k rfl rfl rfl (OS.fieldAddrA rfl Tryd.runUnderlying32 rfl Tryd.sizeOf9 rfl rfl a3 ?_); intro p_4 a4
      refine WR.k rfl rfl rfl (OS.ld1 (u := vS e1.Tenant) rfl Tryd.isAgg9 rfl ((o1.ld a3 hc).sub a4 (sub_of rfl)) ?_)
      refine WR.k rfl rfl rfl (OS.move (v := vS tenant) rfl h1 ?_)
      refine WR.k rfl rfl rfl (OS.bin (a := vS e1.Tenant) (b := vS tenant) rfl rfl rfl bS_eql ?_)
      refine WR.k rfl rfl rfl (OS.move (v := vB (decide (e1.Tenant = tenant))) rfl rfl ?_)
      obtain ⟨b, ht, hl⟩ := bind_some hl
      refine WR.cut2 11 (fun f_2 w_2 => f_2 0 = p_ ∧ f_2 1 = vS tenant ∧ f_2 2 = vS name ∧ f_2 7 = vI i ∧ f_2 38 = vB b ∧ w0 = w_2) ?_ ?_
      · rcases Bool.eq_false_or_eq_true (decide (e1.Tenant = tenant)) with hg | hg
        · rw [if_pos hg] at ht
          refine WR.kT rfl rfl (vb_t rfl hg) rfl rfl (OS.move (v := p_) rfl h ?_)
          refine WR.kT rfl rfl (vb_t rfl hg) rfl rfl (OS.nilCheckBx rfl rfl o ?_)
          refine WR.kT rfl rfl (vb_t rfl hg) rfl rfl (OS.fieldAddrBx rfl Tryd.runUnderlying77 rfl Tryd.sizeOf36 rfl rfl o ?_); intro p_5 a5
          refine WR.kT rfl rfl (vb_t rfl hg) rfl rfl (OS.ld1 (u := sl.val) rfl Tryd.isAgg36 rfl (o.ldn a5 (sub_of rfl)) ?_)
          refine WR.kT rfl rfl (vb_t rfl hg) rfl rfl (OS.move (v := vI i) rfl h3 ?_)
          obtain ⟨e2, he2, ht⟩ := bind_some ht
          obtain ⟨ha1, hb2, hc1⟩ := gt_some he2
          refine WR.kT rfl rfl (vb_t rfl hg) rfl rfl (OS.idx rfl Tryd.runUnderlying36 Tryd.sizeOf32 rfl o1.isSl rfl ha1 hb2 ?_); intro p_6 a6
          refine WR.kT rfl rfl (vb_t rfl hg) rfl rfl (OS.fieldAddrA rfl Tryd.runUnderlying32 rfl Tryd.sizeOf9 rfl rfl a6 ?_); intro p_7 a7
          refine WR.kT rfl rfl (vb_t rfl hg) rfl rfl (OS.ld1 (u := vS e2.Name) rfl Tryd.isAgg9 rfl ((o1.ld a6 hc1).sub a7 (sub_of rfl)) ?_)
          refine WR.kT rfl rfl (vb_t rfl hg) rfl rfl (OS.move (v := vS name) rfl h2 ?_)
          refine WR.kT rfl rfl (vb_t rfl hg) rfl rfl (OS.bin (a := vS e2.Name) (b := vS name) rfl rfl rfl bS_eql ?_)
          refine WR.k rfl rfl rfl (OS.pickT rfl (vb_t rfl hg) rfl ?_)
          cases ht
          refine WR.nil ?_
          exact ⟨h, h1, h2, h3, rfl, rfl⟩
        · rw [if_neg (nt hg)] at ht
          refine WR.gF rfl rfl (vb_f rfl hg) rfl rfl ?_
          refine WR.gF rfl rfl (vb_f rfl hg) rfl rfl ?_
          refine WR.gF rfl rfl (vb_f rfl hg) rfl rfl ?_
          refine WR.gF rfl rfl (vb_f rfl hg) rfl rfl ?_
          refine WR.gF rfl rfl (vb_f rfl hg) rfl rfl ?_
          refine WR.gF rfl rfl (vb_f rfl hg) rfl rfl ?_
          refine WR.gF rfl rfl (vb_f rfl hg) rfl rfl ?_
          refine WR.gF rfl rfl (vb_f rfl hg) rfl rfl ?_
          refine WR.gF rfl rfl (vb_f rfl hg) rfl rfl ?_
          refine WR.gF rfl rfl (vb_f rfl hg) rfl rfl ?_
          refine WR.k rfl rfl rfl (OS.pickF rfl (vb_f rfl hg) rfl ?_)
          cases ht
          refine WR.nil ?_
          exact ⟨h, h1, h2, h3, rfl, rfl⟩
      · rintro f_2 _ ⟨h4, h5, h6, h7, h8, rfl⟩
        refine WR.nil ?_
        refine WC.cond (b) h8 (fun hb3 => ?_) (fun hb3 => ?_)
        · rw [if_pos hb3] at hl
          refine WC.seq (WC.region ?_)
          refine WR.k rfl rfl rfl (OS.move (v := vI i) rfl h7 ?_)
          refine WR.k rfl rfl rfl (OS.assign (v := vI i) rfl rfl ?_)
          refine WR.nil ?_
          refine WC.ret ?_
          repeat first | refine thenQ_ret ?_ | refine blkQ_ret ?_
          cases hl
          simp only [lrc] at hp
          cases hp
          exact fnQ.l1 (fn := Tryd.f45) rfl (.inl ⟨_, rfl, rfl⟩) ⟨_, rfl, (St.refl.mono (by decide))⟩
        · rw [if_neg (nt hb3)] at hl
          refine WC.skip ?_
          refine WC.region ?_
          refine WR.k rfl rfl rfl (OS.move (v := vI i) rfl h7 ?_)
          refine WR.k rfl rfl rfl (OS.bin (a := vI i) (b := vI (1 : Int)) rfl rfl rfl bI_add ?_)
          refine WR.k rfl rfl rfl (OS.assign (v := vI (W (i + (1 : Int)))) rfl rfl ?_)
          refine WR.nil ?_
          exact ⟨k, by omega, _, hl, h4, h5, h6, rfl, rfl⟩
    · rw [if_neg (nt hb)] at hl
      refine WC.exit ?_
      cases hl
      exact ⟨rfl, h, rfl⟩
  · rintro f_ _ ⟨rfl, h9, rfl⟩
    simp only [lrc] at hp
    refine WC.seq (WC.region ?_)
    refine WR.k rfl rfl rfl (OS.assign (v := vI (-1 : Int)) rfl rfl ?_)
    refine WR.nil ?_
    refine WC.ret ?_
    repeat first | refine thenQ_ret ?_ | refine blkQ_ret ?_
    cases hp
    exact fnQ.l1 (fn := Tryd.f45) rfl (.inl ⟨_, rfl, rfl⟩) ⟨_, rfl, (St.refl.mono (by decide))⟩

-- (*holdfast/holdfastref13.Store).Clients
set_option maxHeartbeats 4000000 in
theorem W74 (K : Nat) (w0 : World) (cw : Col) (hcw : ∀ b, cw b < 40) {s : S_holdfastref13_Store} {tenant : List UInt8} {r : (List S_api_Client)} (hp : holdfastref13_Store_Clients K s tenant = some r) {sl : Sl} {sl1 : Sl} {p_ : Value} (o : Bx 3 w0 cw p_ [sl.val, sl1.val]) (o1 : Vw E32 1 w0 cw sl.val s.c_) (o2 : Vw E35 1 w0 cw sl1.val s.a) :
    Calls Tryd.prog 74 [p_, vS tenant].toArray w0 fun e w1 => ∃ (sl3 : Sl) (d : Col), e = .returned (sl3.val) ∧ St [] w0 cw w1 d ∧ Ow E32 2000 w1 d sl3.val r := by
  refine calls_intro Tryd.func74 rfl Tryd.ntmps74 rfl ?_
  unfold holdfastref13_Store_Clients at hp
  refine WC.seq (WC.region ?_)
  refine WR.k rfl rfl rfl (OS.assign (v := (.slice none 0 0)) rfl rfl ?_)
  refine WR.nil ?_
  refine WC.seq (WC.region ?_)
  refine WR.k rfl rfl rfl (OS.assign (v := (.slice none 0 0)) rfl rfl ?_)
  refine WR.nil ?_
  refine WC.seq ?_
  refine WC.seq (WC.region ?_)
  refine WR.k rfl rfl rfl (OS.assign (v := vI (0 : Int)) rfl rfl ?_)
  refine WR.nil ?_
  obtain ⟨q, hl, hp⟩ := bind_some hp
  obtain ⟨out1, hx⟩ : ∃ z, z = q := ⟨_, rfl⟩; subst hx
  refine WC.blockJ2 (fun f_ w_ => ∃ (v_1 : Value) (c_ : Col), f_ 0 = p_ ∧ f_ 5 = v_1 ∧ Ow E32 47 w_ c_ v_1 out1 ∧ St [44, 51, 53, 60] w0 cw w_ c_) ?_ ?_
  · refine WC.loop (fun n => fun f_1 w_1 => ∃ (out : List S_api_Client) (i : Int) (v_ : Value) (c_1 : Col), holdfastref13_Store_Clients.l1 K n s tenant out i = some out1 ∧ f_1 0 = p_ ∧ f_1 1 = vS tenant ∧ f_1 5 = v_ ∧ f_1 6 = vI i ∧ Ow E32 53 w_1 c_1 v_ out ∧ St [44, 51, 60] w0 cw w_1 c_1) K ⟨_, _, _, _, hl, rfl, rfl, rfl, rfl, Ow.nil, St.refl.mono (by decide)⟩ ?_
    rintro n f_1 w_1 ⟨out, i, v_, c_1, hl, h, h1, h2, h3, o3, s1⟩
    cases n with
    | zero => exact absurd hl (by simp [holdfastref13_Store_Clients.l1])
    | succ k =>
    rw [holdfastref13_Store_Clients.l1] at hl
    refine WC.seq ?_
    refine WC.seq (WC.region ?_)
    refine WR.k rfl rfl rfl (OS.move (v := p_) rfl h ?_)
    have o5 := o.keep s1 (by decide)
    refine WR.k rfl rfl rfl (OS.eqPtrS rfl (.inr ⟨rfl, rfl⟩) Tryd.underlying45 rfl o5 rfl ?_)
    refine WR.k rfl rfl rfl (OS.move (v := vB true) rfl rfl ?_)
    refine WR.kT rfl rfl rfl rfl rfl (OS.move (v := vI i) rfl h3 ?_)
    refine WR.kT rfl rfl rfl rfl rfl (OS.move (v := p_) rfl h ?_)
    refine WR.kT rfl rfl rfl rfl rfl (OS.nilCheckBx rfl rfl o5 ?_)
    refine WR.kT rfl rfl rfl rfl rfl (OS.fieldAddrBx rfl Tryd.runUnderlying77 rfl Tryd.sizeOf36 rfl rfl o5 ?_); intro p_1 a1
    refine WR.kT rfl rfl rfl rfl rfl (OS.ld1 (u := sl.val) rfl Tryd.isAgg36 rfl (o5.ldn a1 (sub_of rfl)) ?_)
    have o6 := o1.keep s1 (by decide)
    refine WR.kT rfl rfl rfl rfl rfl (OS.lenSl rfl Tryd.runUnderlying36 rfl o6.isSl ?_)
    refine WR.kT rfl rfl rfl rfl rfl (OS.bin (a := vI i) (b := vI (s.c_.length : Int)) rfl rfl rfl bI_lss ?_)
    refine WR.k rfl rfl rfl (OS.pickT rfl rfl rfl ?_)
    refine WR.nil ?_
    refine WC.cond (decide (i < (s.c_.length : Int))) rfl (fun hb => ?_) (fun hb => ?_)
    · rw [if_pos hb] at hl
      refine WC.skip ?_
      refine WC.seq ?_
      refine WC.block ?_
      refine WC.seq ?_
      refine WC.seq (WC.region ?_)
      refine WR.k rfl rfl rfl (OS.move (v := p_) rfl h ?_)
      refine WR.k rfl rfl rfl (OS.nilCheckBx rfl rfl o5 ?_)
      refine WR.k rfl rfl rfl (OS.fieldAddrBx rfl Tryd.runUnderlying77 rfl Tryd.sizeOf36 rfl rfl o5 ?_); intro p_2 a2
      refine WR.k rfl rfl rfl (OS.ld1 (u := sl.val) rfl Tryd.isAgg36 rfl (o5.ldn a2 (sub_of rfl)) ?_)
      refine WR.k rfl rfl rfl (OS.move (v := vI i) rfl h3 ?_)
      obtain ⟨e1, he1, hl⟩ := bind_some hl
      obtain ⟨ha, hb1, hc⟩ := gt_some he1
      refine WR.k rfl rfl rfl (OS.idx rfl Tryd.runUnderlying36 Tryd.sizeOf32 rfl o6.isSl rfl ha hb1 ?_); intro p_3 a3
      refine WR.k rfl rfl rfl (OS.fieldAddrA rfl Tryd.runUnderlying32 rfl Tryd.sizeOf9 rfl rfl a3 ?_); intro p_4 a4
      refine WR.k rfl rfl rfl (OS.ld1 (u := vS e1.Tenant) rfl Tryd.isAgg9 rfl ((o6.ld a3 hc).sub a4 (sub_of rfl)) ?_)
      refine WR.k rfl rfl rfl (OS.move (v := vS tenant) rfl h1 ?_)
      refine WR.k rfl rfl rfl (OS.bin (a := vS e1.Tenant) (b := vS tenant) rfl rfl rfl bS_neq ?_)
      refine WR.nil ?_
      refine WC.cond (!decide (e1.Tenant = tenant)) rfl (fun hb2 => ?_) (fun hb2 => ?_)
      · rw [if_pos hb2] at hl
        refine WC.exit ?_
        refine WC.region ?_
        refine WR.k rfl rfl rfl (OS.move (v := vI i) rfl h3 ?_)
        refine WR.k rfl rfl rfl (OS.bin (a := vI i) (b := vI (1 : Int)) rfl rfl rfl bI_add ?_)
        refine WR.k rfl rfl rfl (OS.assign (v := vI (W (i + (1 : Int)))) rfl rfl ?_)
        refine WR.nil ?_
        exact ⟨k, by omega, _, _, _, _, hl, h, h1, h2, rfl, o3, s1.mono (by decide)⟩
      · rw [if_neg (nt hb2)] at hl
        refine WC.skip ?_
        refine WC.seq (WC.region ?_)
        refine WR.k rfl rfl rfl (OS.move (v := v_) rfl h2 ?_)
        refine WR.k rfl rfl rfl (OS.lenSl rfl Tryd.runUnderlying36 rfl o3.isSl ?_)
        refine WR.k rfl rfl rfl (OS.assign (v := vI (out.length : Int)) rfl rfl ?_)
        refine WR.nil ?_
        refine WC.seq ?_
        obtain ⟨q1, hl1, hl⟩ := bind_some hl
        obtain ⟨at_1, hx⟩ : ∃ z, z = q1 := ⟨_, rfl⟩; subst hx
        refine WC.blockJ2 (fun f_2 w_2 => ∃ (c_2 : Col), f_2 0 = p_ ∧ f_2 1 = vS tenant ∧ f_2 5 = v_ ∧ f_2 6 = vI i ∧ f_2 7 = vI at_1 ∧ f_2 12 = vI i ∧ f_2 13 = p_ ∧ f_2 14 = p_ ∧ f_2 15 = p_1 ∧ f_2 16 = sl.val ∧ f_2 17 = vI (s.c_.length : Int) ∧ f_2 18 = vB (decide (i < (s.c_.length : Int))) ∧ St [] w_1 c_1 w_2 c_2) ?_ ?_
        · refine WC.loop (fun n => fun f_3 w_3 => ∃ (at_ : Int) (c_3 : Col), holdfastref13_Store_Clients.l2 n out s i at_ = some at_1 ∧ f_3 0 = p_ ∧ f_3 1 = vS tenant ∧ f_3 5 = v_ ∧ f_3 6 = vI i ∧ f_3 7 = vI at_ ∧ f_3 12 = vI i ∧ f_3 13 = p_ ∧ f_3 14 = p_ ∧ f_3 15 = p_1 ∧ f_3 16 = sl.val ∧ f_3 17 = vI (s.c_.length : Int) ∧ f_3 18 = vB (decide (i < (s.c_.length : Int))) ∧ St [] w_1 c_1 w_3 c_3) K ⟨_, _, hl1, h, h1, h2, h3, rfl, rfl, rfl, rfl, rfl, rfl, rfl, rfl, St.refl.mono (by decide)⟩ ?_
          rintro n f_3 w_3 ⟨at_, c_3, hl1, h4, h5, h6, h7, h8, h9, h10, h11, h12, h13, h14, h15, s2⟩
          cases n with
          | zero => exact absurd hl1 (by simp [holdfastref13_Store_Clients.l2])
          | succ k =>
          rw [holdfastref13_Store_Clients.l2] at hl1
          refine WC.seq ?_
          rcases Bool.eq_false_or_eq_true (decide ((0 : Int) < at_)) with hb3 | hb3
          · rw [if_pos hb3] at hl1
            have o7 := o3.keep s2 (by decide)
            obtain ⟨e2, he2, hl1⟩ := bind_some hl1
            obtain ⟨ha1, hb4, hc1⟩ := gt_some he2
            have o8 := o5.keep s2 (by decide)
            have o9 := o6.keep s2 (by decide)
            obtain ⟨e3, he3, hl1⟩ := bind_some hl1
            obtain ⟨ha2, hb5, hc2⟩ := gt_some he3
            refine WC.seq (WC.draw3 (c := c_3) ⟨19, [[], [], [], [], [], [], [], [], [], [], [], [], [], [], [], [], [], [], []], [[], [], [], [], [], [], [], [], [], [], [], [], [], [], [], [], [], [], []], [], [[], [0], [1], [2], [2], [2, 4], [2, 3, 5], [2, 6], [2, 6, 7], [2], [2, 9], [2, 10], [2, 11], [2], [2, 12, 13], [2, 14], [2, 14, 15], [2, 8, 16], [2, 17]], [3, 4, 5, 6, 7, 8, 9, 10, 11, 12, 13, 14, 15, 16, 17, 18]⟩ [[], [], [], [], [], [], [], [], [], [], [], [], [], [], [], [], [], [], []] [[34], [35], [36], [37], [38], [39], [40], [40, 41], [42], [43], [44], [45], [46], [47], [48], [48, 49], [50], [51], [52]] [fun yf yw yc => (yf 34) = vI at_, fun yf yw yc => (yf 35) = vB (decide ((0 : Int) < at_)), fun yf yw yc => (yf 36) = vB (decide ((0 : Int) < at_)), fun yf yw yc => (yf 37) = v_, fun yf yw yc => (yf 38) = vI at_, fun yf yw yc => (yf 39) = vI (W (at_ - (1 : Int))), fun yf yw yc => Adr v_ (W (at_ - (1 : Int))).toNat 4 (yf 40), fun yf yw yc => AdrP ((yf 40)) 1 1 (yf 41), fun yf yw yc => (yf 42) = vS e2.Name, fun yf yw yc => (yf 43) = p_, fun yf yw yc => (yf 44) = p_, fun yf yw yc => AdrP p_ 0 1 (yf 45), fun yf yw yc => (yf 46) = sl.val, fun yf yw yc => (yf 47) = vI i, fun yf yw yc => Adr sl.val (i).toNat 4 (yf 48), fun yf yw yc => AdrP ((yf 48)) 1 1 (yf 49), fun yf yw yc => (yf 50) = vS e3.Name, fun yf yw yc => (yf 51) = vB (!(ltS e2.Name e3.Name || decide (e2.Name = e3.Name))), fun yf yw yc => (yf 52) = vB (!(ltS e2.Name e3.Name || decide (e2.Name = e3.Name)))] hmix (by kernel_rfl) (by kernel_rfl) ⟨?_, ?_, ?_, ?_, ?_, ?_, ?_, ?_, ?_, ?_, ?_, ?_, ?_, ?_, ?_, ?_, ?_, ?_, ?_, trivial⟩ ⟨fun y1 y2 yw yc yI yw1 yc1 yh ye ys yk => by obtain ⟨ye0, -⟩ := ye; show (y2 34) = vI at_; rw [ye0]; exact yh, fun y1 y2 yw yc yI yw1 yc1 yh ye ys yk => by obtain ⟨ye0, -⟩ := ye; show (y2 35) = vB (decide ((0 : Int) < at_)); rw [ye0]; exact yh, fun y1 y2 yw yc yI yw1 yc1 yh ye ys yk => by obtain ⟨ye0, -⟩ := ye; show (y2 36) = vB (decide ((0 : Int) < at_)); rw [ye0]; exact yh, fun y1 y2 yw yc yI yw1 yc1 yh ye ys yk => by obtain ⟨ye0, -⟩ := ye; show (y2 37) = v_; rw [ye0]; exact yh, fun y1 y2 yw yc yI yw1 yc1 yh ye ys yk => by obtain ⟨ye0, -⟩ := ye; show (y2 38) = vI at_; rw [ye0]; exact yh, fun y1 y2 yw yc yI yw1 yc1 yh ye ys yk => by obtain ⟨ye0, -⟩ := ye; show (y2 39) = vI (W (at_ - (1 : Int))); rw [ye0]; exact yh, fun y1 y2 yw yc yI yw1 yc1 yh ye ys yk => by obtain ⟨ye0, -⟩ := ye; show Adr v_ (W (at_ - (1 : Int))).toNat 4 (y2 40); rw [ye0]; exact yh, fun y1 y2 yw yc yI yw1 yc1 yh ye ys yk => by obtain ⟨ye0, ye1, -⟩ := ye; show AdrP ((y2 40)) 1 1 (y2 41); rw [ye0, ye1]; exact yh, fun y1 y2 yw yc yI yw1 yc1 yh ye ys yk => by obtain ⟨ye0, -⟩ := ye; show (y2 42) = vS e2.Name; rw [ye0]; exact yh, fun y1 y2 yw yc yI yw1 yc1 yh ye ys yk => by obtain ⟨ye0, -⟩ := ye; show (y2 43) = p_; rw [ye0]; exact yh, fun y1 y2 yw yc yI yw1 yc1 yh ye ys yk => by obtain ⟨ye0, -⟩ := ye; show (y2 44) = p_; rw [ye0]; exact yh, fun y1 y2 yw yc yI yw1 yc1 yh ye ys yk => by obtain ⟨ye0, -⟩ := ye; show AdrP p_ 0 1 (y2 45); rw [ye0]; exact yh, fun y1 y2 yw yc yI yw1 yc1 yh ye ys yk => by obtain ⟨ye0, -⟩ := ye; show (y2 46) = sl.val; rw [ye0]; exact yh, fun y1 y2 yw yc yI yw1 yc1 yh ye ys yk => by obtain ⟨ye0, -⟩ := ye; show (y2 47) = vI i; rw [ye0]; exact yh, fun y1 y2 yw yc yI yw1 yc1 yh ye ys yk => by obtain ⟨ye0, -⟩ := ye; show Adr sl.val (i).toNat 4 (y2 48); rw [ye0]; exact yh, fun y1 y2 yw yc yI yw1 yc1 yh ye ys yk => by obtain ⟨ye0, ye1, -⟩ := ye; show AdrP ((y2 48)) 1 1 (y2 49); rw [ye0, ye1]; exact yh, fun y1 y2 yw yc yI yw1 yc1 yh ye ys yk => by obtain ⟨ye0, -⟩ := ye; show (y2 50) = vS e3.Name; rw [ye0]; exact yh, fun y1 y2 yw yc yI yw1 yc1 yh ye ys yk => by obtain ⟨ye0, -⟩ := ye; show (y2 51) = vB (!(ltS e2.Name e3.Name || decide (e2.Name = e3.Name))); rw [ye0]; exact yh, fun y1 y2 yw yc yI yw1 yc1 yh ye ys yk => by obtain ⟨ye0, -⟩ := ye; show (y2 52) = vB (!(ltS e2.Name e3.Name || decide (e2.Name = e3.Name))); rw [ye0]; exact yh, trivial⟩ ?_)
            · rintro f_4 w_4 c_4 hB hs ⟨-⟩ o ho; obtain rfl : _ = o := Option.some.inj ho
              exact OS.move (v := vI at_) rfl ((hB 7 (by kernel_rfl)).trans h8) ⟨_, St.refl, rfl⟩
            · rintro f_5 w_5 c_5 hB1 hs1 ⟨g, -⟩ o ho; obtain rfl : _ = o := Option.some.inj ho
              replace g : (f_5 34) = vI at_ := g
              exact OS.bin (a := vI at_) (b := vI (0 : Int)) rfl g rfl bI_gtr ⟨_, St.refl, rfl⟩
            · rintro f_6 w_6 c_6 hB2 hs2 ⟨g1, -⟩ o ho; obtain rfl : _ = o := Option.some.inj ho
              replace g1 : (f_6 35) = vB (decide ((0 : Int) < at_)) := g1
              exact OS.move (v := vB (decide ((0 : Int) < at_))) rfl g1 ⟨_, St.refl, rfl⟩
            · rintro f_7 w_7 c_7 hB3 hs3 ⟨g2, -⟩ o ho; obtain rfl : _ = o := Option.some.inj ho
              replace g2 : (f_7 36) = vB (decide ((0 : Int) < at_)) := g2
              refine ⟨_, g2, rfl, fun _ => ?_, fun h => absurd (h.symm.trans hb3) (by decide)⟩
              exact OS.move (v := v_) rfl ((hB3 5 (by kernel_rfl)).trans h6) ⟨_, St.refl, rfl⟩
            · rintro f_8 w_8 c_8 hB4 hs4 ⟨g3, -⟩ o ho; obtain rfl : _ = o := Option.some.inj ho
              replace g3 : (f_8 36) = vB (decide ((0 : Int) < at_)) := g3
              refine ⟨_, g3, rfl, fun _ => ?_, fun h => absurd (h.symm.trans hb3) (by decide)⟩
              exact OS.move (v := vI at_) rfl ((hB4 7 (by kernel_rfl)).trans h8) ⟨_, St.refl, rfl⟩
            · rintro f_9 w_9 c_9 hB5 hs5 ⟨g4, g5, -⟩ o ho; obtain rfl : _ = o := Option.some.inj ho
              replace g4 : (f_9 36) = vB (decide ((0 : Int) < at_)) := g4
              replace g5 : (f_9 38) = vI at_ := g5
              refine ⟨_, g4, rfl, fun _ => ?_, fun h => absurd (h.symm.trans hb3) (by decide)⟩
              exact OS.bin (a := vI at_) (b := vI (1 : Int)) rfl g5 rfl bI_sub ⟨_, St.refl, rfl⟩
            · rintro f_10 w_10 c_10 hB6 hs6 ⟨g6, g7, g8, -⟩ o ho; obtain rfl : _ = o := Option.some.inj ho
              replace g6 : (f_10 36) = vB (decide ((0 : Int) < at_)) := g6
              replace g7 : (f_10 37) = v_ := g7
              replace g8 : (f_10 39) = vI (W (at_ - (1 : Int))) := g8
              refine ⟨_, g6, rfl, fun _ => ?_, fun h => absurd (h.symm.trans hb3) (by decide)⟩
              have o10 := o3.keep (s2.t hs6) (by decide)
              exact OS.idx rfl Tryd.runUnderlying36 Tryd.sizeOf32 g7 o10.isSl g8 ha1 hb4 (fun _ h => ⟨_, St.refl, h⟩)
            · rintro f_11 w_11 c_11 hB7 hs7 ⟨g9, g10, -⟩ o ho; obtain rfl : _ = o := Option.some.inj ho
              replace g9 : (f_11 36) = vB (decide ((0 : Int) < at_)) := g9
              replace g10 : Adr v_ (W (at_ - (1 : Int))).toNat 4 (f_11 40) := g10
              refine ⟨_, g9, rfl, fun _ => ?_, fun h => absurd (h.symm.trans hb3) (by decide)⟩
              exact OS.fieldAddrA rfl Tryd.runUnderlying32 rfl Tryd.sizeOf9 rfl rfl g10 (fun _ h => ⟨_, St.refl, h⟩)
            · rintro f_12 w_12 c_12 hB8 hs8 ⟨g11, g12, g13, -⟩ o ho; obtain rfl : _ = o := Option.some.inj ho
              replace g11 : (f_12 36) = vB (decide ((0 : Int) < at_)) := g11
              replace g12 : Adr v_ (W (at_ - (1 : Int))).toNat 4 (f_12 40) := g12
              replace g13 : AdrP ((f_12 40)) 1 1 (f_12 41) := g13
              refine ⟨_, g11, rfl, fun _ => ?_, fun h => absurd (h.symm.trans hb3) (by decide)⟩
              have o11 := o7.keep hs8 (by decide)
              exact OS.ld1 (u := vS e2.Name) rfl Tryd.isAgg9 rfl ((o11.ld g12 hc1).sub g13 (sub_of rfl)) ⟨_, St.refl, rfl⟩
            · rintro f_13 w_13 c_13 hB9 hs9 ⟨g14, -⟩ o ho; obtain rfl : _ = o := Option.some.inj ho
              replace g14 : (f_13 36) = vB (decide ((0 : Int) < at_)) := g14
              refine ⟨_, g14, rfl, fun _ => ?_, fun h => absurd (h.symm.trans hb3) (by decide)⟩
              exact OS.move (v := p_) rfl ((hB9 0 (by kernel_rfl)).trans h4) ⟨_, St.refl, rfl⟩
            · rintro f_14 w_14 c_14 hB10 hs10 ⟨g15, g16, -⟩ o ho; obtain rfl : _ = o := Option.some.inj ho
              replace g15 : (f_14 36) = vB (decide ((0 : Int) < at_)) := g15
              replace g16 : (f_14 43) = p_ := g16
              refine ⟨_, g15, rfl, fun _ => ?_, fun h => absurd (h.symm.trans hb3) (by decide)⟩
              have o12 := o5.keep (s2.t hs10) (by decide)
              exact OS.nilCheckBx rfl g16 o12 ⟨_, St.refl, rfl⟩
            · rintro f_15 w_15 c_15 hB11 hs11 ⟨g17, g18, -⟩ o ho; obtain rfl : _ = o := Option.some.inj ho
              replace g17 : (f_15 36) = vB (decide ((0 : Int) < at_)) := g17
              replace g18 : (f_15 44) = p_ := g18
              refine ⟨_, g17, rfl, fun _ => ?_, fun h => absurd (h.symm.trans hb3) (by decide)⟩
              have o13 := o8.keep hs11 (by decide)
              exact OS.fieldAddrBx rfl Tryd.runUnderlying77 rfl Tryd.sizeOf36 rfl g18 o13 (fun _ h => ⟨_, St.refl, h⟩)
            · rintro f_16 w_16 c_16 hB12 hs12 ⟨g19, g20, -⟩ o ho; obtain rfl : _ = o := Option.some.inj ho
              replace g19 : (f_16 36) = vB (decide ((0 : Int) < at_)) := g19
              replace g20 : AdrP p_ 0 1 (f_16 45) := g20
              refine ⟨_, g19, rfl, fun _ => ?_, fun h => absurd (h.symm.trans hb3) (by decide)⟩
              have o14 := o8.keep hs12 (by decide)
              exact OS.ld1 (u := sl.val) rfl Tryd.isAgg36 rfl (o14.ldn g20 (sub_of rfl)) ⟨_, St.refl, rfl⟩
            · rintro f_17 w_17 c_17 hB13 hs13 ⟨g21, -⟩ o ho; obtain rfl : _ = o := Option.some.inj ho
              replace g21 : (f_17 36) = vB (decide ((0 : Int) < at_)) := g21
              refine ⟨_, g21, rfl, fun _ => ?_, fun h => absurd (h.symm.trans hb3) (by decide)⟩
              exact OS.move (v := vI i) rfl ((hB13 6 (by kernel_rfl)).trans h7) ⟨_, St.refl, rfl⟩
            · rintro f_18 w_18 c_18 hB14 hs14 ⟨g22, g23, g24, -⟩ o ho; obtain rfl : _ = o := Option.some.inj ho
              replace g22 : (f_18 36) = vB (decide ((0 : Int) < at_)) := g22
              replace g23 : (f_18 46) = sl.val := g23
              replace g24 : (f_18 47) = vI i := g24
              refine ⟨_, g22, rfl, fun _ => ?_, fun h => absurd (h.symm.trans hb3) (by decide)⟩
              have o15 := o6.keep (s2.t hs14) (by decide)
              exact OS.idx rfl Tryd.runUnderlying36 Tryd.sizeOf32 g23 o15.isSl g24 ha2 hb5 (fun _ h => ⟨_, St.refl, h⟩)
            · rintro f_19 w_19 c_19 hB15 hs15 ⟨g25, g26, -⟩ o ho; obtain rfl : _ = o := Option.some.inj ho
              replace g25 : (f_19 36) = vB (decide ((0 : Int) < at_)) := g25
              replace g26 : Adr sl.val (i).toNat 4 (f_19 48) := g26
              refine ⟨_, g25, rfl, fun _ => ?_, fun h => absurd (h.symm.trans hb3) (by decide)⟩
              exact OS.fieldAddrA rfl Tryd.runUnderlying32 rfl Tryd.sizeOf9 rfl rfl g26 (fun _ h => ⟨_, St.refl, h⟩)
            · rintro f_20 w_20 c_20 hB16 hs16 ⟨g27, g28, g29, -⟩ o ho; obtain rfl : _ = o := Option.some.inj ho
              replace g27 : (f_20 36) = vB (decide ((0 : Int) < at_)) := g27
              replace g28 : Adr sl.val (i).toNat 4 (f_20 48) := g28
              replace g29 : AdrP ((f_20 48)) 1 1 (f_20 49) := g29
              refine ⟨_, g27, rfl, fun _ => ?_, fun h => absurd (h.symm.trans hb3) (by decide)⟩
              have o16 := o9.keep hs16 (by decide)
              exact OS.ld1 (u := vS e3.Name) rfl Tryd.isAgg9 rfl ((o16.ld g28 hc2).sub g29 (sub_of rfl)) ⟨_, St.refl, rfl⟩
            · rintro f_21 w_21 c_21 hB17 hs17 ⟨g30, g31, g32, -⟩ o ho; obtain rfl : _ = o := Option.some.inj ho
              replace g30 : (f_21 36) = vB (decide ((0 : Int) < at_)) := g30
              replace g31 : (f_21 42) = vS e2.Name := g31
              replace g32 : (f_21 50) = vS e3.Name := g32
              refine ⟨_, g30, rfl, fun _ => ?_, fun h => absurd (h.symm.trans hb3) (by decide)⟩
              exact OS.bin (a := vS e2.Name) (b := vS e3.Name) rfl g31 g32 bS_gtr ⟨_, St.refl, rfl⟩
            · rintro f_22 w_22 c_22 hB18 hs18 ⟨g33, g34, -⟩ o ho; obtain rfl : _ = o := Option.some.inj ho
              replace g33 : (f_22 36) = vB (decide ((0 : Int) < at_)) := g33
              replace g34 : (f_22 51) = vB (!(ltS e2.Name e3.Name || decide (e2.Name = e3.Name))) := g34
              exact OS.pickT rfl (vb_t g33 hb3) g34 ⟨_, St.refl, rfl⟩
            · rintro f_23 w_23 c_23 hB19 hs19 ⟨g35, g36, g37, g38, g39, g40, g41, g42, g43, g44, g45, g46, g47, g48, g49, g50, -⟩
              replace g35 : (f_23 37) = v_ := g35
              replace g36 : (f_23 38) = vI at_ := g36
              replace g37 : (f_23 39) = vI (W (at_ - (1 : Int))) := g37
              replace g38 : Adr v_ (W (at_ - (1 : Int))).toNat 4 (f_23 40) := g38
              replace g39 : AdrP ((f_23 40)) 1 1 (f_23 41) := g39
              replace g40 : (f_23 42) = vS e2.Name := g40
              replace g41 : (f_23 43) = p_ := g41
              replace g42 : (f_23 44) = p_ := g42
              replace g43 : AdrP p_ 0 1 (f_23 45) := g43
              replace g44 : (f_23 46) = sl.val := g44
              replace g45 : (f_23 47) = vI i := g45
              replace g46 : Adr sl.val (i).toNat 4 (f_23 48) := g46
              replace g47 : AdrP ((f_23 48)) 1 1 (f_23 49) := g47
              replace g48 : (f_23 50) = vS e3.Name := g48
              replace g49 : (f_23 51) = vB (!(ltS e2.Name e3.Name || decide (e2.Name = e3.Name))) := g49
              replace g50 : (f_23 52) = vB (!(ltS e2.Name e3.Name || decide (e2.Name = e3.Name))) := g50
              have h16 := (hB19 0 (by kernel_rfl)).trans h4
              have h17 := (hB19 1 (by kernel_rfl)).trans h5
              have h18 := (hB19 5 (by kernel_rfl)).trans h6
              have h19 := (hB19 6 (by kernel_rfl)).trans h7
              have h20 := (hB19 7 (by kernel_rfl)).trans h8
              have h21 := (hB19 12 (by kernel_rfl)).trans h9
              have h22 := (hB19 13 (by kernel_rfl)).trans h10
              have h23 := (hB19 14 (by kernel_rfl)).trans h11
              have h24 := (hB19 15 (by kernel_rfl)).trans h12
              have h25 := (hB19 16 (by kernel_rfl)).trans h13
              have h26 := (hB19 17 (by kernel_rfl)).trans h14
              have h27 := (hB19 18 (by kernel_rfl)).trans h15
              refine WR.nil ?_
              refine WC.cond (!(ltS e2.Name e3.Name || decide (e2.Name = e3.Name))) g50 (fun hb6 => ?_) (fun hb6 => ?_)
              · rw [if_pos hb6] at hl1
                refine WC.skip ?_
                refine WC.block ?_
                refine WC.region ?_
                refine WR.k rfl rfl rfl (OS.move (v := vI at_) rfl h20 ?_)
                refine WR.k rfl rfl rfl (OS.bin (a := vI at_) (b := vI (1 : Int)) rfl rfl rfl bI_sub ?_)
                refine WR.k rfl rfl rfl (OS.assign (v := vI (W (at_ - (1 : Int)))) rfl rfl ?_)
                refine WR.nil ?_
                exact ⟨k, by omega, _, _, hl1, h16, h17, h18, h19, rfl, h21, h22, h23, h24, h25, h26, h27, (s2.t hs19).mono (by decide)⟩
              · rw [if_neg (nt hb6)] at hl1
                refine WC.exit ?_
                cases hl1
                exact ⟨_, h16, h17, h18, h19, h20, h21, h22, h23, h24, h25, h26, h27, (s2.t hs19).mono (by decide)⟩
          · rw [if_neg (nt hb3)] at hl1
            refine WC.seq (WC.draw3 (c := c_3) ⟨19, [[], [], [], [], [], [], [], [], [], [], [], [], [], [], [], [], [], [], []], [[], [], [], [], [], [], [], [], [], [], [], [], [], [], [], [], [], [], []], [], [[], [0], [1], [2], [2], [2], [2], [2], [2], [2], [2], [2], [2], [2], [2], [2], [2], [2], [2]], [18]⟩ [[], [], [], [], [], [], [], [], [], [], [], [], [], [], [], [], [], [], []] [[34], [35], [36], [37], [38], [39], [40], [41], [42], [43], [44], [45], [46], [47], [48], [49], [50], [51], [52]] [fun yf yw yc => (yf 34) = vI at_, fun yf yw yc => (yf 35) = vB (decide ((0 : Int) < at_)), fun yf yw yc => (yf 36) = vB (decide ((0 : Int) < at_)), fun yf yw yc => (yf 37) = undef, fun yf yw yc => (yf 38) = undef, fun yf yw yc => (yf 39) = undef, fun yf yw yc => (yf 40) = undef, fun yf yw yc => (yf 41) = undef, fun yf yw yc => (yf 42) = undef, fun yf yw yc => (yf 43) = undef, fun yf yw yc => (yf 44) = undef, fun yf yw yc => (yf 45) = undef, fun yf yw yc => (yf 46) = undef, fun yf yw yc => (yf 47) = undef, fun yf yw yc => (yf 48) = undef, fun yf yw yc => (yf 49) = undef, fun yf yw yc => (yf 50) = undef, fun yf yw yc => (yf 51) = undef, fun yf yw yc => (yf 52) = vB false] hmix (by kernel_rfl) (by kernel_rfl) ⟨?_, ?_, ?_, ?_, ?_, ?_, ?_, ?_, ?_, ?_, ?_, ?_, ?_, ?_, ?_, ?_, ?_, ?_, ?_, trivial⟩ ⟨fun y1 y2 yw yc yI yw1 yc1 yh ye ys yk => by obtain ⟨ye0, -⟩ := ye; show (y2 34) = vI at_; rw [ye0]; exact yh, fun y1 y2 yw yc yI yw1 yc1 yh ye ys yk => by obtain ⟨ye0, -⟩ := ye; show (y2 35) = vB (decide ((0 : Int) < at_)); rw [ye0]; exact yh, fun y1 y2 yw yc yI yw1 yc1 yh ye ys yk => by obtain ⟨ye0, -⟩ := ye; show (y2 36) = vB (decide ((0 : Int) < at_)); rw [ye0]; exact yh, fun y1 y2 yw yc yI yw1 yc1 yh ye ys yk => by obtain ⟨ye0, -⟩ := ye; show (y2 37) = undef; rw [ye0]; exact yh, fun y1 y2 yw yc yI yw1 yc1 yh ye ys yk => by obtain ⟨ye0, -⟩ := ye; show (y2 38) = undef; rw [ye0]; exact yh, fun y1 y2 yw yc yI yw1 yc1 yh ye ys yk => by obtain ⟨ye0, -⟩ := ye; show (y2 39) = undef; rw [ye0]; exact yh, fun y1 y2 yw yc yI yw1 yc1 yh ye ys yk => by obtain ⟨ye0, -⟩ := ye; show (y2 40) = undef; rw [ye0]; exact yh, fun y1 y2 yw yc yI yw1 yc1 yh ye ys yk => by obtain ⟨ye0, -⟩ := ye; show (y2 41) = undef; rw [ye0]; exact yh, fun y1 y2 yw yc yI yw1 yc1 yh ye ys yk => by obtain ⟨ye0, -⟩ := ye; show (y2 42) = undef; rw [ye0]; exact yh, fun y1 y2 yw yc yI yw1 yc1 yh ye ys yk => by obtain ⟨ye0, -⟩ := ye; show (y2 43) = undef; rw [ye0]; exact yh, fun y1 y2 yw yc yI yw1 yc1 yh ye ys yk => by obtain ⟨ye0, -⟩ := ye; show (y2 44) = undef; rw [ye0]; exact yh, fun y1 y2 yw yc yI yw1 yc1 yh ye ys yk => by obtain ⟨ye0, -⟩ := ye; show (y2 45) = undef; rw [ye0]; exact yh, fun y1 y2 yw yc yI yw1 yc1 yh ye ys yk => by obtain ⟨ye0, -⟩ := ye; show (y2 46) = undef; rw [ye0]; exact yh, fun y1 y2 yw yc yI yw1 yc1 yh ye ys yk => by obtain ⟨ye0, -⟩ := ye; show (y2 47) = undef; rw [ye0]; exact yh, fun y1 y2 yw yc yI yw1 yc1 yh ye ys yk => by obtain ⟨ye0, -⟩ := ye; show (y2 48) = undef; rw [ye0]; exact yh, fun y1 y2 yw yc yI yw1 yc1 yh ye ys yk => by obtain ⟨ye0, -⟩ := ye; show (y2 49) = undef; rw [ye0]; exact yh, fun y1 y2 yw yc yI yw1 yc1 yh ye ys yk => by obtain ⟨ye0, -⟩ := ye; show (y2 50) = undef; rw [ye0]; exact yh, fun y1 y2 yw yc yI yw1 yc1 yh ye ys yk => by obtain ⟨ye0, -⟩ := ye; show (y2 51) = undef; rw [ye0]; exact yh, fun y1 y2 yw yc yI yw1 yc1 yh ye ys yk => by obtain ⟨ye0, -⟩ := ye; show (y2 52) = vB false; rw [ye0]; exact yh, trivial⟩ ?_)
            · rintro f_24 w_24 c_24 hB20 hs20 ⟨-⟩ o ho; obtain rfl : _ = o := Option.some.inj ho
              exact OS.move (v := vI at_) rfl ((hB20 7 (by kernel_rfl)).trans h8) ⟨_, St.refl, rfl⟩
            · rintro f_25 w_25 c_25 hB21 hs21 ⟨g51, -⟩ o ho; obtain rfl : _ = o := Option.some.inj ho
              replace g51 : (f_25 34) = vI at_ := g51
              exact OS.bin (a := vI at_) (b := vI (0 : Int)) rfl g51 rfl bI_gtr ⟨_, St.refl, rfl⟩
            · rintro f_26 w_26 c_26 hB22 hs22 ⟨g52, -⟩ o ho; obtain rfl : _ = o := Option.some.inj ho
              replace g52 : (f_26 35) = vB (decide ((0 : Int) < at_)) := g52
              exact OS.move (v := vB (decide ((0 : Int) < at_))) rfl g52 ⟨_, St.refl, rfl⟩
            · rintro f_27 w_27 c_27 hB23 hs23 ⟨g53, -⟩ o ho; obtain rfl : _ = o := Option.some.inj ho
              replace g53 : (f_27 36) = vB (decide ((0 : Int) < at_)) := g53
              exact ⟨_, g53, rfl, fun h => absurd (h.symm.trans hb3) (by decide), fun _ => ⟨_, St.refl, rfl⟩⟩
            · rintro f_28 w_28 c_28 hB24 hs24 ⟨g54, -⟩ o ho; obtain rfl : _ = o := Option.some.inj ho
              replace g54 : (f_28 36) = vB (decide ((0 : Int) < at_)) := g54
              exact ⟨_, g54, rfl, fun h => absurd (h.symm.trans hb3) (by decide), fun _ => ⟨_, St.refl, rfl⟩⟩
            · rintro f_29 w_29 c_29 hB25 hs25 ⟨g55, -⟩ o ho; obtain rfl : _ = o := Option.some.inj ho
              replace g55 : (f_29 36) = vB (decide ((0 : Int) < at_)) := g55
              exact ⟨_, g55, rfl, fun h => absurd (h.symm.trans hb3) (by decide), fun _ => ⟨_, St.refl, rfl⟩⟩
            · rintro f_30 w_30 c_30 hB26 hs26 ⟨g56, -⟩ o ho; obtain rfl : _ = o := Option.some.inj ho
              replace g56 : (f_30 36) = vB (decide ((0 : Int) < at_)) := g56
              exact ⟨_, g56, rfl, fun h => absurd (h.symm.trans hb3) (by decide), fun _ => ⟨_, St.refl, rfl⟩⟩
            · rintro f_31 w_31 c_31 hB27 hs27 ⟨g57, -⟩ o ho; obtain rfl : _ = o := Option.some.inj ho
              replace g57 : (f_31 36) = vB (decide ((0 : Int) < at_)) := g57
              exact ⟨_, g57, rfl, fun h => absurd (h.symm.trans hb3) (by decide), fun _ => ⟨_, St.refl, rfl⟩⟩
            · rintro f_32 w_32 c_32 hB28 hs28 ⟨g58, -⟩ o ho; obtain rfl : _ = o := Option.some.inj ho
              replace g58 : (f_32 36) = vB (decide ((0 : Int) < at_)) := g58
              exact ⟨_, g58, rfl, fun h => absurd (h.symm.trans hb3) (by decide), fun _ => ⟨_, St.refl, rfl⟩⟩
            · rintro f_33 w_33 c_33 hB29 hs29 ⟨g59, -⟩ o ho; obtain rfl : _ = o := Option.some.inj ho
              replace g59 : (f_33 36) = vB (decide ((0 : Int) < at_)) := g59
              exact ⟨_, g59, rfl, fun h => absurd (h.symm.trans hb3) (by decide), fun _ => ⟨_, St.refl, rfl⟩⟩
            · rintro f_34 w_34 c_34 hB30 hs30 ⟨g60, -⟩ o ho; obtain rfl : _ = o := Option.some.inj ho
              replace g60 : (f_34 36) = vB (decide ((0 : Int) < at_)) := g60
              exact ⟨_, g60, rfl, fun h => absurd (h.symm.trans hb3) (by decide), fun _ => ⟨_, St.refl, rfl⟩⟩
            · rintro f_35 w_35 c_35 hB31 hs31 ⟨g61, -⟩ o ho; obtain rfl : _ = o := Option.some.inj ho
              replace g61 : (f_35 36) = vB (decide ((0 : Int) < at_)) := g61
              exact ⟨_, g61, rfl, fun h => absurd (h.symm.trans hb3) (by decide), fun _ => ⟨_, St.refl, rfl⟩⟩
            · rintro f_36 w_36 c_36 hB32 hs32 ⟨g62, -⟩ o ho; obtain rfl : _ = o := Option.some.inj ho
              replace g62 : (f_36 36) = vB (decide ((0 : Int) < at_)) := g62
              exact ⟨_, g62, rfl, fun h => absurd (h.symm.trans hb3) (by decide), fun _ => ⟨_, St.refl, rfl⟩⟩
            · rintro f_37 w_37 c_37 hB33 hs33 ⟨g63, -⟩ o ho; obtain rfl : _ = o := Option.some.inj ho
              replace g63 : (f_37 36) = vB (decide ((0 : Int) < at_)) := g63
              exact ⟨_, g63, rfl, fun h => absurd (h.symm.trans hb3) (by decide), fun _ => ⟨_, St.refl, rfl⟩⟩
            · rintro f_38 w_38 c_38 hB34 hs34 ⟨g64, -⟩ o ho; obtain rfl : _ = o := Option.some.inj ho
              replace g64 : (f_38 36) = vB (decide ((0 : Int) < at_)) := g64
              exact ⟨_, g64, rfl, fun h => absurd (h.symm.trans hb3) (by decide), fun _ => ⟨_, St.refl, rfl⟩⟩
            · rintro f_39 w_39 c_39 hB35 hs35 ⟨g65, -⟩ o ho; obtain rfl : _ = o := Option.some.inj ho
              replace g65 : (f_39 36) = vB (decide ((0 : Int) < at_)) := g65
              exact ⟨_, g65, rfl, fun h => absurd (h.symm.trans hb3) (by decide), fun _ => ⟨_, St.refl, rfl⟩⟩
            · rintro f_40 w_40 c_40 hB36 hs36 ⟨g66, -⟩ o ho; obtain rfl : _ = o := Option.some.inj ho
              replace g66 : (f_40 36) = vB (decide ((0 : Int) < at_)) := g66
              exact ⟨_, g66, rfl, fun h => absurd (h.symm.trans hb3) (by decide), fun _ => ⟨_, St.refl, rfl⟩⟩
            · rintro f_41 w_41 c_41 hB37 hs37 ⟨g67, -⟩ o ho; obtain rfl : _ = o := Option.some.inj ho
              replace g67 : (f_41 36) = vB (decide ((0 : Int) < at_)) := g67
              exact ⟨_, g67, rfl, fun h => absurd (h.symm.trans hb3) (by decide), fun _ => ⟨_, St.refl, rfl⟩⟩
            · rintro f_42 w_42 c_42 hB38 hs38 ⟨g68, -⟩ o ho; obtain rfl : _ = o := Option.some.inj ho
              replace g68 : (f_42 36) = vB (decide ((0 : Int) < at_)) := g68
              exact OS.pickF rfl (vb_f g68 hb3) rfl ⟨_, St.refl, rfl⟩
            · rintro f_43 w_43 c_43 hB39 hs39 ⟨g69, -⟩
              replace g69 : (f_43 52) = vB false := g69
              have h28 := (hB39 0 (by kernel_rfl)).trans h4
              have h29 := (hB39 1 (by kernel_rfl)).trans h5
              have h30 := (hB39 5 (by kernel_rfl)).trans h6
              have h31 := (hB39 6 (by kernel_rfl)).trans h7
              have h32 := (hB39 7 (by kernel_rfl)).trans h8
              have h33 := (hB39 12 (by kernel_rfl)).trans h9
              have h34 := (hB39 13 (by kernel_rfl)).trans h10
              have h35 := (hB39 14 (by kernel_rfl)).trans h11
              have h36 := (hB39 15 (by kernel_rfl)).trans h12
              have h37 := (hB39 16 (by kernel_rfl)).trans h13
              have h38 := (hB39 17 (by kernel_rfl)).trans h14
              have h39 := (hB39 18 (by kernel_rfl)).trans h15
              refine WR.nil ?_
              refine WC.condF g69 ?_
              refine WC.exit ?_
              cases hl1
              exact ⟨_, h28, h29, h30, h31, h32, h33, h34, h35, h36, h37, h38, h39, (s2.t hs39).mono (by decide)⟩
        · rintro f_2 w_2 ⟨c_2, h40, h41, h42, h43, h44, h45, h46, h47, h48, h49, h50, h51, s3⟩
          refine WC.seq (WC.region ?_)
          refine WR.k rfl rfl rfl (OS.assign (v := (.slice none 0 0)) rfl rfl ?_)
          refine WR.nil ?_
          refine WC.seq (WC.region ?_)
          refine WR.k rfl rfl rfl (OS.move (v := (.slice none 0 0)) rfl rfl ?_)
          refine WR.k rfl rfl rfl (OS.move (v := v_) rfl h42 ?_)
          refine WR.k rfl rfl rfl (OS.move (v := vI at_1) rfl h44 ?_)
          have o17 := o3.keep s3 (by decide)
          obtain ⟨ys, hys, hl⟩ := bind_some hl
          obtain ⟨ha3, hb7, hc3, hys⟩ := sub_some hys
          refine WR.k rfl rfl rfl (OS.sliceOwn (E := E32) rfl Tryd.underlying36 Tryd.sizeOf32 rfl o17 (Bd.some rfl (by omega)) (by omega) ?_); intro v_2 y
          replace y : Ow E32 53 w_2 c_2 v_2 ys := by rw [hys]; exact y
          obtain ⟨xs, hxs, hl⟩ := bind_some hl
          obtain ⟨ha4, hxs⟩ := app_some hxs
          refine WR.k rfl rfl rfl (OS.append (E := E32) (c := c_2) (i := 60) (xs := ([] : List S_api_Client)) (ys := ys) rfl Tryd.underlying36 Tryd.underlying36 (.inl rfl) I32 rfl rfl rfl rfl rfl Ow.nil y.vw.src (lim_bytes (by decide) ha4) (lim_max (b := 56) (by decide) ha4) ?_); intro v_3 w_44 c_44 o18 s4
          replace o18 : Ow E32 60 w_44 c_44 v_3 xs := by rw [hxs]; exact o18
          refine WR.k rfl rfl rfl (OS.assign (v := v_3) rfl rfl ?_)
          refine WR.nil ?_
          refine WC.seq (WC.region ?_)
          refine WR.k rfl rfl rfl (OS.move (v := v_3) rfl rfl ?_)
          refine WR.k rfl rfl rfl (OS.move (v := p_) rfl h40 ?_)
          have o19 := o5.keep (s3.t s4) (by decide)
          refine WR.k rfl rfl rfl (OS.nilCheckBx rfl rfl o19 ?_)
          refine WR.k rfl rfl rfl (OS.fieldAddrBx rfl Tryd.runUnderlying77 rfl Tryd.sizeOf36 rfl rfl o19 ?_); intro p_5 a10
          refine WR.k rfl rfl rfl (OS.ld1 (u := sl.val) rfl Tryd.isAgg36 rfl (o19.ldn a10 (sub_of rfl)) ?_)
          refine WR.k rfl rfl rfl (OS.move (v := vI i) rfl h43 ?_)
          have o20 := o6.keep (s3.t s4) (by decide)
          obtain ⟨e4, he4, hl⟩ := bind_some hl
          obtain ⟨ha5, hb8, hc4⟩ := gt_some he4
          refine WR.k rfl rfl rfl (OS.idx rfl Tryd.runUnderlying36 Tryd.sizeOf32 rfl o20.isSl rfl ha5 hb8 ?_); intro p_6 a11
          refine WR.k rfl rfl rfl (OS.ldN (us := E32.e e4) rfl Tryd.isAgg32 Tryd.sizeOf32 rfl (o20.ld a11 hc4) rfl ?_)
          obtain ⟨l2, hl2, hl⟩ := bind_some hl
          replace hl2 := (Option.some.inj hl2).symm
          refine WR.k rfl rfl rfl (OS.bslice (E := E32) (c := c_44) 61 ([e4] : List S_api_Client) [(0, .agg (E32.e e4).toArray)] rfl ⟨rfl, rfl, trivial⟩ (fun _ => by kernel_rfl) rfl (by decide) ?_); intro v_4 w_45 c_45 o21 s5
          replace o21 : Ow E32 61 w_45 c_45 v_4 l2 := by rw [hl2]; exact o21
          have o22 := o18.keep s5 (by decide)
          obtain ⟨xs1, hxs1, hl⟩ := bind_some hl
          obtain ⟨ha6, hxs1⟩ := app_some hxs1
          refine WR.k rfl rfl rfl (OS.append (E := E32) (c := c_45) (i := 60) (xs := xs) (ys := l2) rfl Tryd.underlying36 Tryd.underlying36 (.inl rfl) I32 rfl rfl rfl rfl rfl o22 o21.vw.src (lim_bytes (by decide) ha6) (lim_max (b := 56) (by decide) ha6) ?_); intro v_5 w_46 c_46 o23 s6
          replace o23 : Ow E32 60 w_46 c_46 v_5 xs1 := by rw [hxs1]; exact o23
          refine WR.k rfl rfl rfl (OS.assign (v := v_5) rfl rfl ?_)
          refine WR.nil ?_
          refine WC.region ?_
          refine WR.k rfl rfl rfl (OS.move (v := v_5) rfl rfl ?_)
          refine WR.k rfl rfl rfl (OS.move (v := v_) rfl h42 ?_)
          refine WR.k rfl rfl rfl (OS.move (v := vI at_1) rfl h44 ?_)
          have o24 := o17.keep ((s4.t s5).t s6) (by decide)
          obtain ⟨ys1, hys1, hl⟩ := bind_some hl
          obtain ⟨ha7, hb9, hc5, hys1⟩ := sub_some hys1
          refine WR.k rfl rfl rfl (OS.sliceV (E := E32) rfl Tryd.underlying36 Tryd.sizeOf32 rfl o24.vw (Bd.some rfl ha7) Bd.none rfl (by omega) (by omega) ?_); intro v_6 y1
          replace y1 : Vw E32 53 w_46 c_46 v_6 ys1 := by rw [hys1]; exact y1
          obtain ⟨xs2, hxs2, hl⟩ := bind_some hl
          obtain ⟨ha8, hxs2⟩ := app_some hxs2
          refine WR.k rfl rfl rfl (OS.append (E := E32) (c := c_46) (i := 60) (xs := xs1) (ys := ys1) rfl Tryd.underlying36 Tryd.underlying36 (.inl rfl) I32 rfl rfl rfl rfl rfl o23 y1.src (lim_bytes (by decide) ha8) (lim_max (b := 56) (by decide) ha8) ?_); intro v_7 w_47 c_47 o25 s7
          replace o25 : Ow E32 60 w_47 c_47 v_7 xs2 := by rw [hxs2]; exact o25
          refine WR.k rfl rfl rfl (OS.assign (v := v_7) rfl rfl ?_)
          refine WR.nil ?_
          refine WC.region ?_
          refine WR.k rfl rfl rfl (OS.move (v := vI i) rfl h43 ?_)
          refine WR.k rfl rfl rfl (OS.bin (a := vI i) (b := vI (1 : Int)) rfl rfl rfl bI_add ?_)
          refine WR.k rfl rfl rfl (OS.assign (v := vI (W (i + (1 : Int)))) rfl rfl ?_)
          refine WR.nil ?_
          obtain ⟨c_48, s8, o26⟩ := o25.recol 53
          exact ⟨k, by omega, _, _, _, _, hl, h40, h41, rfl, rfl, o26, ((((((s1.t s3).t s4).t s5).t s6).t s7).t s8).mono (by decide)⟩
    · rw [if_neg (nt hb)] at hl
      refine WC.exit ?_
      cases hl
      obtain ⟨c_49, s9, o27⟩ := o3.recol 47
      exact ⟨_, _, h, h2, o27, (s1.t s9).mono (by decide)⟩
  · rintro f_ w_ ⟨v_1, c_, h52, h53, o4, s10⟩
    refine WC.seq (WC.region ?_)
    refine WR.k rfl rfl rfl (OS.move (v := v_1) rfl h53 ?_)
    refine WR.k rfl rfl rfl (OS.assign (v := v_1) rfl rfl ?_)
    refine WR.nil ?_
    refine WC.ret ?_
    repeat first | refine thenQ_ret ?_ | refine blkQ_ret ?_
    obtain ⟨sl2, e5⟩ := isSlv o4.isSl; subst e5
    cases hp
    obtain ⟨c_50, s11, o28⟩ := o4.recol 2000
    exact fnQ.l1 (fn := Tryd.f74) rfl (.inl ⟨_, rfl, rfl⟩) ⟨_, _, rfl, (s10.t s11).leave hcw (by decide), o28⟩

-- (*holdfast/holdfastref13.Store).full
set_option maxHeartbeats 4000000 in
theorem W46 (K : Nat) (w0 : World) (cw : Col) (hcw : ∀ b, cw b < 40) {s : S_holdfastref13_Store} {tenant : List UInt8} {r : Bool} (hp : holdfastref13_Store_full K s tenant = some r) {sl : Sl} {sl1 : Sl} {p_ : Value} (o : Bx 3 w0 cw p_ [sl.val, sl1.val]) (o1 : Vw E32 1 w0 cw sl.val s.c_) (o2 : Vw E35 1 w0 cw sl1.val s.a) :
    Calls Tryd.prog 46 [p_, vS tenant].toArray w0 fun e w1 => ∃ (d : Col), e = .returned (vB r) ∧ St [] w0 cw w1 d := by
  refine calls_intro Tryd.func46 rfl Tryd.ntmps46 rfl ?_
  unfold holdfastref13_Store_full at hp
  refine WC.seq (WC.region ?_)
  refine WR.k rfl rfl rfl (OS.assign (v := vB false) rfl rfl ?_)
  refine WR.nil ?_
  refine WC.seq (WC.region ?_)
  refine WR.k rfl rfl rfl (OS.move (v := p_) rfl rfl ?_)
  refine WR.k rfl rfl rfl (OS.move (v := vS tenant) rfl rfl ?_)
  obtain ⟨r_, hr_, hp⟩ := bind_some hp
  refine WR.k rfl rfl rfl (OS.callF (vs := [p_, vS tenant]) rfl ⟨rfl, rfl, trivial⟩ Tryd.call74 ((W74 (sl := sl) (sl1 := sl1) K w0 (rcc [3] cw) (rcc_lt cw rfl) hr_ (o.tr (rc_tr (by decide))) (o1.tr (rc_tr rfl)) (o2.tr (rc_tr rfl))).mono ?_))
  rintro _ w_ ⟨sl2, d1, rfl, s1, o3⟩
  refine ⟨_, rfl, ?_⟩
  obtain ⟨c_, s2, o3⟩ : ∃ c_, St [] w0 cw w_ c_ ∧ Ow E32 12000 w_ c_ sl2.val r_ := ⟨_, s1.mg2 (sh := 10000) rfl, o3.tr (mg2_back s1 rfl)⟩
  refine WR.k rfl rfl rfl (OS.lenSl rfl Tryd.runUnderlying36 rfl o3.isSl ?_)
  refine WR.k rfl rfl rfl (OS.assign (v := vI (r_.length : Int)) rfl rfl ?_)
  refine WR.nil ?_
  refine WC.seq (WC.region ?_)
  refine WR.k rfl rfl rfl (OS.assign (v := vI (0 : Int)) rfl rfl ?_)
  refine WR.nil ?_
  refine WC.seq ?_
  refine WC.seq (WC.region ?_)
  refine WR.k rfl rfl rfl (OS.assign (v := vI (0 : Int)) rfl rfl ?_)
  refine WR.nil ?_
  obtain ⟨q, hl, hp⟩ := bind_some hp
  obtain ⟨tenants1, hx⟩ : ∃ z, z = q := ⟨_, rfl⟩; subst hx
  refine WC.blockJ2 (fun f_ w_1 => ∃ (c_1 : Col), f_ 0 = p_ ∧ f_ 5 = vI (r_.length : Int) ∧ f_ 6 = vI tenants1 ∧ St [] w_ c_ w_1 c_1) ?_ ?_
  · refine WC.loop (fun n => fun f_1 w_2 => ∃ (tenants : Int) (i : Int) (c_2 : Col), holdfastref13_Store_full.l1 K n s tenants i = some tenants1 ∧ f_1 0 = p_ ∧ f_1 5 = vI (r_.length : Int) ∧ f_1 6 = vI tenants ∧ f_1 7 = vI i ∧ St [] w_ c_ w_2 c_2) K ⟨_, _, _, hl, rfl, rfl, rfl, rfl, St.refl.mono (by decide)⟩ ?_
    rintro n f_1 w_2 ⟨tenants, i, c_2, hl, h, h1, h2, h3, s3⟩
    cases n with
    | zero => exact absurd hl (by simp [holdfastref13_Store_full.l1])
    | succ k =>
    rw [holdfastref13_Store_full.l1] at hl
    refine WC.seq ?_
    refine WC.seq (WC.region ?_)
    refine WR.k rfl rfl rfl (OS.move (v := vI i) rfl h3 ?_)
    refine WR.k rfl rfl rfl (OS.move (v := p_) rfl h ?_)
    have o4 := o.keep (s2.t s3) (by decide)
    refine WR.k rfl rfl rfl (OS.nilCheckBx rfl rfl o4 ?_)
    refine WR.k rfl rfl rfl (OS.fieldAddrBx rfl Tryd.runUnderlying77 rfl Tryd.sizeOf36 rfl rfl o4 ?_); intro p_1 a1
    refine WR.k rfl rfl rfl (OS.ld1 (u := sl.val) rfl Tryd.isAgg36 rfl (o4.ldn a1 (sub_of rfl)) ?_)
    have o5 := o1.keep (s2.t s3) (by decide)
    refine WR.k rfl rfl rfl (OS.lenSl rfl Tryd.runUnderlying36 rfl o5.isSl ?_)
    refine WR.k rfl rfl rfl (OS.bin (a := vI i) (b := vI (s.c_.length : Int)) rfl rfl rfl bI_lss ?_)
    refine WR.nil ?_
    refine WC.cond (decide (i < (s.c_.length : Int))) rfl (fun hb => ?_) (fun hb => ?_)
    · rw [if_pos hb] at hl
      refine WC.skip ?_
      refine WC.seq ?_
      refine WC.block ?_
      refine WC.seq (WC.region ?_)
      refine WR.k rfl rfl rfl (OS.assign (v := vB true) rfl rfl ?_)
      refine WR.nil ?_
      refine WC.seq ?_
      refine WC.seq (WC.region ?_)
      refine WR.k rfl rfl rfl (OS.assign (v := vI (0 : Int)) rfl rfl ?_)
      refine WR.nil ?_
      obtain ⟨q1, hl1, hl⟩ := bind_some hl
      obtain ⟨first1, hx⟩ : ∃ z, z = q1 := ⟨_, rfl⟩; subst hx
      refine WC.blockJ2 (fun f_2 w_3 => ∃ (c_3 : Col), f_2 0 = p_ ∧ f_2 5 = vI (r_.length : Int) ∧ f_2 6 = vI tenants ∧ f_2 7 = vI i ∧ f_2 8 = vB first1 ∧ St [] w_2 c_2 w_3 c_3) ?_ ?_
      · refine WC.loop (fun n => fun f_3 w_4 => ∃ (first : Bool) (k1 : Int) (c_4 : Col), holdfastref13_Store_full.l2 n i s first k1 = some first1 ∧ f_3 0 = p_ ∧ f_3 5 = vI (r_.length : Int) ∧ f_3 6 = vI tenants ∧ f_3 7 = vI i ∧ f_3 8 = vB first ∧ f_3 9 = vI k1 ∧ St [] w_2 c_2 w_4 c_4) K ⟨_, _, _, hl1, h, h1, h2, h3, rfl, rfl, St.refl.mono (by decide)⟩ ?_
        rintro n f_3 w_4 ⟨first, k1, c_4, hl1, h4, h5, h6, h7, h8, h9, s4⟩
        cases n with
        | zero => exact absurd hl1 (by simp [holdfastref13_Store_full.l2])
        | succ k =>
        rw [holdfastref13_Store_full.l2] at hl1
        refine WC.seq ?_
        refine WC.seq (WC.region ?_)
        refine WR.k rfl rfl rfl (OS.move (v := vI k1) rfl h9 ?_)
        refine WR.k rfl rfl rfl (OS.move (v := vI i) rfl h7 ?_)
        refine WR.k rfl rfl rfl (OS.bin (a := vI k1) (b := vI i) rfl rfl rfl bI_lss ?_)
        refine WR.nil ?_
        refine WC.cond (decide (k1 < i)) rfl (fun hb1 => ?_) (fun hb1 => ?_)
        · rw [if_pos hb1] at hl1
          refine WC.skip ?_
          refine WC.seq ?_
          refine WC.block ?_
          rcases Bool.eq_false_or_eq_true (first) with hb2 | hb2
          · rw [if_pos hb2] at hl1
            have o6 := o4.keep s4 (by decide)
            have o7 := o5.keep s4 (by decide)
            obtain ⟨e1, he1, hl1⟩ := bind_some hl1
            obtain ⟨ha, hb3, hc⟩ := gt_some he1
            obtain ⟨e2, he2, hl1⟩ := bind_some hl1
            obtain ⟨ha1, hb4, hc1⟩ := gt_some he2
            refine WC.draw3 (c := c_4) ⟨20, [[], [], [], [], [], [], [], [], [], [], [], [], [], [], [], [], [], [], [], []], [[], [], [], [], [], [], [], [], [], [], [], [], [], [], [], [], [], [], [], []], [], [[], [0], [1], [1, 2], [1, 3], [1, 4], [1], [1, 5, 6], [1, 7], [1, 7, 8], [1], [1, 10], [1, 11], [1, 12], [1], [1, 13, 14], [1, 15], [1, 15, 16], [1, 9, 17], [1, 18]], [2, 3, 4, 5, 6, 7, 8, 9, 10, 11, 12, 13, 14, 15, 16, 17, 18, 19]⟩ [[], [], [], [], [], [], [], [], [], [], [], [], [], [], [], [], [], [], [], []] [[28], [29], [30], [31], [32], [33], [34], [35], [35, 36], [37], [38], [39], [40], [41], [42], [43], [43, 44], [45], [46], [47]] [fun yf yw yc => (yf 28) = vB first, fun yf yw yc => (yf 29) = vB first, fun yf yw yc => (yf 30) = p_, fun yf yw yc => (yf 31) = p_, fun yf yw yc => AdrP p_ 0 1 (yf 32), fun yf yw yc => (yf 33) = sl.val, fun yf yw yc => (yf 34) = vI k1, fun yf yw yc => Adr sl.val (k1).toNat 4 (yf 35), fun yf yw yc => AdrP ((yf 35)) 0 1 (yf 36), fun yf yw yc => (yf 37) = vS e1.Tenant, fun yf yw yc => (yf 38) = p_, fun yf yw yc => (yf 39) = p_, fun yf yw yc => AdrP p_ 0 1 (yf 40), fun yf yw yc => (yf 41) = sl.val, fun yf yw yc => (yf 42) = vI i, fun yf yw yc => Adr sl.val (i).toNat 4 (yf 43), fun yf yw yc => AdrP ((yf 43)) 0 1 (yf 44), fun yf yw yc => (yf 45) = vS e2.Tenant, fun yf yw yc => (yf 46) = vB (!decide (e1.Tenant = e2.Tenant)), fun yf yw yc => (yf 47) = vB (!decide (e1.Tenant = e2.Tenant))] hmix (by kernel_rfl) (by kernel_rfl) ⟨?_, ?_, ?_, ?_, ?_, ?_, ?_, ?_, ?_, ?_, ?_, ?_, ?_, ?_, ?_, ?_, ?_, ?_, ?_, ?_, trivial⟩ ⟨fun y1 y2 yw yc yI yw1 yc1 yh ye ys yk => by obtain ⟨ye0, -⟩ := ye; show (y2 28) = vB first; rw [ye0]; exact yh, fun y1 y2 yw yc yI yw1 yc1 yh ye ys yk => by obtain ⟨ye0, -⟩ := ye; show (y2 29) = vB first; rw [ye0]; exact yh, fun y1 y2 yw yc yI yw1 yc1 yh ye ys yk => by obtain ⟨ye0, -⟩ := ye; show (y2 30) = p_; rw [ye0]; exact yh, fun y1 y2 yw yc yI yw1 yc1 yh ye ys yk => by obtain ⟨ye0, -⟩ := ye; show (y2 31) = p_; rw [ye0]; exact yh, fun y1 y2 yw yc yI yw1 yc1 yh ye ys yk => by obtain ⟨ye0, -⟩ := ye; show AdrP p_ 0 1 (y2 32); rw [ye0]; exact yh, fun y1 y2 yw yc yI yw1 yc1 yh ye ys yk => by obtain ⟨ye0, -⟩ := ye; show (y2 33) = sl.val; rw [ye0]; exact yh, fun y1 y2 yw yc yI yw1 yc1 yh ye ys yk => by obtain ⟨ye0, -⟩ := ye; show (y2 34) = vI k1; rw [ye0]; exact yh, fun y1 y2 yw yc yI yw1 yc1 yh ye ys yk => by obtain ⟨ye0, -⟩ := ye; show Adr sl.val (k1).toNat 4 (y2 35); rw [ye0]; exact yh, fun y1 y2 yw yc yI yw1 yc1 yh ye ys yk => by obtain ⟨ye0, ye1, -⟩ := ye; show AdrP ((y2 35)) 0 1 (y2 36); rw [ye0, ye1]; exact yh, fun y1 y2 yw yc yI yw1 yc1 yh ye ys yk => by obtain ⟨ye0, -⟩ := ye; show (y2 37) = vS e1.Tenant; rw [ye0]; exact yh, fun y1 y2 yw yc yI yw1 yc1 yh ye ys yk => by obtain ⟨ye0, -⟩ := ye; show (y2 38) = p_; rw [ye0]; exact yh, fun y1 y2 yw yc yI yw1 yc1 yh ye ys yk => by obtain ⟨ye0, -⟩ := ye; show (y2 39) = p_; rw [ye0]; exact yh, fun y1 y2 yw yc yI yw1 yc1 yh ye ys yk => by obtain ⟨ye0, -⟩ := ye; show AdrP p_ 0 1 (y2 40); rw [ye0]; exact yh, fun y1 y2 yw yc yI yw1 yc1 yh ye ys yk => by obtain ⟨ye0, -⟩ := ye; show (y2 41) = sl.val; rw [ye0]; exact yh, fun y1 y2 yw yc yI yw1 yc1 yh ye ys yk => by obtain ⟨ye0, -⟩ := ye; show (y2 42) = vI i; rw [ye0]; exact yh, fun y1 y2 yw yc yI yw1 yc1 yh ye ys yk => by obtain ⟨ye0, -⟩ := ye; show Adr sl.val (i).toNat 4 (y2 43); rw [ye0]; exact yh, fun y1 y2 yw yc yI yw1 yc1 yh ye ys yk => by obtain ⟨ye0, ye1, -⟩ := ye; show AdrP ((y2 43)) 0 1 (y2 44); rw [ye0, ye1]; exact yh, fun y1 y2 yw yc yI yw1 yc1 yh ye ys yk => by obtain ⟨ye0, -⟩ := ye; show (y2 45) = vS e2.Tenant; rw [ye0]; exact yh, fun y1 y2 yw yc yI yw1 yc1 yh ye ys yk => by obtain ⟨ye0, -⟩ := ye; show (y2 46) = vB (!decide (e1.Tenant = e2.Tenant)); rw [ye0]; exact yh, fun y1 y2 yw yc yI yw1 yc1 yh ye ys yk => by obtain ⟨ye0, -⟩ := ye; show (y2 47) = vB (!decide (e1.Tenant = e2.Tenant)); rw [ye0]; exact yh, trivial⟩ ?_
            · rintro f_4 w_5 c_5 hB hs ⟨-⟩ o ho; obtain rfl : _ = o := Option.some.inj ho
              exact OS.move (v := vB first) rfl ((hB 8 (by kernel_rfl)).trans h8) ⟨_, St.refl, rfl⟩
            · rintro f_5 w_6 c_6 hB1 hs1 ⟨g, -⟩ o ho; obtain rfl : _ = o := Option.some.inj ho
              replace g : (f_5 28) = vB first := g
              exact OS.move (v := vB first) rfl g ⟨_, St.refl, rfl⟩
            · rintro f_6 w_7 c_7 hB2 hs2 ⟨g1, -⟩ o ho; obtain rfl : _ = o := Option.some.inj ho
              replace g1 : (f_6 29) = vB first := g1
              refine ⟨_, g1, rfl, fun _ => ?_, fun h => absurd (h.symm.trans hb2) (by decide)⟩
              exact OS.move (v := p_) rfl ((hB2 0 (by kernel_rfl)).trans h4) ⟨_, St.refl, rfl⟩
            · rintro f_7 w_8 c_8 hB3 hs3 ⟨g2, g3, -⟩ o ho; obtain rfl : _ = o := Option.some.inj ho
              replace g2 : (f_7 29) = vB first := g2
              replace g3 : (f_7 30) = p_ := g3
              refine ⟨_, g2, rfl, fun _ => ?_, fun h => absurd (h.symm.trans hb2) (by decide)⟩
              have o8 := o4.keep (s4.t hs3) (by decide)
              exact OS.nilCheckBx rfl g3 o8 ⟨_, St.refl, rfl⟩
            · rintro f_8 w_9 c_9 hB4 hs4 ⟨g4, g5, -⟩ o ho; obtain rfl : _ = o := Option.some.inj ho
              replace g4 : (f_8 29) = vB first := g4
              replace g5 : (f_8 31) = p_ := g5
              refine ⟨_, g4, rfl, fun _ => ?_, fun h => absurd (h.symm.trans hb2) (by decide)⟩
              have o9 := o6.keep hs4 (by decide)
              exact OS.fieldAddrBx rfl Tryd.runUnderlying77 rfl Tryd.sizeOf36 rfl g5 o9 (fun _ h => ⟨_, St.refl, h⟩)
            · rintro f_9 w_10 c_10 hB5 hs5 ⟨g6, g7, -⟩ o ho; obtain rfl : _ = o := Option.some.inj ho
              replace g6 : (f_9 29) = vB first := g6
              replace g7 : AdrP p_ 0 1 (f_9 32) := g7
              refine ⟨_, g6, rfl, fun _ => ?_, fun h => absurd (h.symm.trans hb2) (by decide)⟩
              have o10 := o6.keep hs5 (by decide)
              exact OS.ld1 (u := sl.val) rfl Tryd.isAgg36 rfl (o10.ldn g7 (sub_of rfl)) ⟨_, St.refl, rfl⟩
            · rintro f_10 w_11 c_11 hB6 hs6 ⟨g8, -⟩ o ho; obtain rfl : _ = o := Option.some.inj ho
              replace g8 : (f_10 29) = vB first := g8
              refine ⟨_, g8, rfl, fun _ => ?_, fun h => absurd (h.symm.trans hb2) (by decide)⟩
              exact OS.move (v := vI k1) rfl ((hB6 9 (by kernel_rfl)).trans h9) ⟨_, St.refl, rfl⟩
            · rintro f_11 w_12 c_12 hB7 hs7 ⟨g9, g10, g11, -⟩ o ho; obtain rfl : _ = o := Option.some.inj ho
              replace g9 : (f_11 29) = vB first := g9
              replace g10 : (f_11 33) = sl.val := g10
              replace g11 : (f_11 34) = vI k1 := g11
              refine ⟨_, g9, rfl, fun _ => ?_, fun h => absurd (h.symm.trans hb2) (by decide)⟩
              have o11 := o5.keep (s4.t hs7) (by decide)
              exact OS.idx rfl Tryd.runUnderlying36 Tryd.sizeOf32 g10 o11.isSl g11 ha hb3 (fun _ h => ⟨_, St.refl, h⟩)
            · rintro f_12 w_13 c_13 hB8 hs8 ⟨g12, g13, -⟩ o ho; obtain rfl : _ = o := Option.some.inj ho
              replace g12 : (f_12 29) = vB first := g12
              replace g13 : Adr sl.val (k1).toNat 4 (f_12 35) := g13
              refine ⟨_, g12, rfl, fun _ => ?_, fun h => absurd (h.symm.trans hb2) (by decide)⟩
              exact OS.fieldAddrA rfl Tryd.runUnderlying32 rfl Tryd.sizeOf9 rfl rfl g13 (fun _ h => ⟨_, St.refl, h⟩)
            · rintro f_13 w_14 c_14 hB9 hs9 ⟨g14, g15, g16, -⟩ o ho; obtain rfl : _ = o := Option.some.inj ho
              replace g14 : (f_13 29) = vB first := g14
              replace g15 : Adr sl.val (k1).toNat 4 (f_13 35) := g15
              replace g16 : AdrP ((f_13 35)) 0 1 (f_13 36) := g16
              refine ⟨_, g14, rfl, fun _ => ?_, fun h => absurd (h.symm.trans hb2) (by decide)⟩
              have o12 := o7.keep hs9 (by decide)
              exact OS.ld1 (u := vS e1.Tenant) rfl Tryd.isAgg9 rfl ((o12.ld g15 hc).sub g16 (sub_of rfl)) ⟨_, St.refl, rfl⟩
            · rintro f_14 w_15 c_15 hB10 hs10 ⟨g17, -⟩ o ho; obtain rfl : _ = o := Option.some.inj ho
              replace g17 : (f_14 29) = vB first := g17
              refine ⟨_, g17, rfl, fun _ => ?_, fun h => absurd (h.symm.trans hb2) (by decide)⟩
              exact OS.move (v := p_) rfl ((hB10 0 (by kernel_rfl)).trans h4) ⟨_, St.refl, rfl⟩
            · rintro f_15 w_16 c_16 hB11 hs11 ⟨g18, g19, -⟩ o ho; obtain rfl : _ = o := Option.some.inj ho
              replace g18 : (f_15 29) = vB first := g18
              replace g19 : (f_15 38) = p_ := g19
              refine ⟨_, g18, rfl, fun _ => ?_, fun h => absurd (h.symm.trans hb2) (by decide)⟩
              have o13 := o6.keep hs11 (by decide)
              exact OS.nilCheckBx rfl g19 o13 ⟨_, St.refl, rfl⟩
            · rintro f_16 w_17 c_17 hB12 hs12 ⟨g20, g21, -⟩ o ho; obtain rfl : _ = o := Option.some.inj ho
              replace g20 : (f_16 29) = vB first := g20
              replace g21 : (f_16 39) = p_ := g21
              refine ⟨_, g20, rfl, fun _ => ?_, fun h => absurd (h.symm.trans hb2) (by decide)⟩
              have o14 := o6.keep hs12 (by decide)
              exact OS.fieldAddrBx rfl Tryd.runUnderlying77 rfl Tryd.sizeOf36 rfl g21 o14 (fun _ h => ⟨_, St.refl, h⟩)
            · rintro f_17 w_18 c_18 hB13 hs13 ⟨g22, g23, -⟩ o ho; obtain rfl : _ = o := Option.some.inj ho
              replace g22 : (f_17 29) = vB first := g22
              replace g23 : AdrP p_ 0 1 (f_17 40) := g23
              refine ⟨_, g22, rfl, fun _ => ?_, fun h => absurd (h.symm.trans hb2) (by decide)⟩
              have o15 := o6.keep hs13 (by decide)
              exact OS.ld1 (u := sl.val) rfl Tryd.isAgg36 rfl (o15.ldn g23 (sub_of rfl)) ⟨_, St.refl, rfl⟩
            · rintro f_18 w_19 c_19 hB14 hs14 ⟨g24, -⟩ o ho; obtain rfl : _ = o := Option.some.inj ho
              replace g24 : (f_18 29) = vB first := g24
              refine ⟨_, g24, rfl, fun _ => ?_, fun h => absurd (h.symm.trans hb2) (by decide)⟩
              exact OS.move (v := vI i) rfl ((hB14 7 (by kernel_rfl)).trans h7) ⟨_, St.refl, rfl⟩
            · rintro f_19 w_20 c_20 hB15 hs15 ⟨g25, g26, g27, -⟩ o ho; obtain rfl : _ = o := Option.some.inj ho
              replace g25 : (f_19 29) = vB first := g25
              replace g26 : (f_19 41) = sl.val := g26
              replace g27 : (f_19 42) = vI i := g27
              refine ⟨_, g25, rfl, fun _ => ?_, fun h => absurd (h.symm.trans hb2) (by decide)⟩
              have o16 := o7.keep hs15 (by decide)
              exact OS.idx rfl Tryd.runUnderlying36 Tryd.sizeOf32 g26 o16.isSl g27 ha1 hb4 (fun _ h => ⟨_, St.refl, h⟩)
            · rintro f_20 w_21 c_21 hB16 hs16 ⟨g28, g29, -⟩ o ho; obtain rfl : _ = o := Option.some.inj ho
              replace g28 : (f_20 29) = vB first := g28
              replace g29 : Adr sl.val (i).toNat 4 (f_20 43) := g29
              refine ⟨_, g28, rfl, fun _ => ?_, fun h => absurd (h.symm.trans hb2) (by decide)⟩
              exact OS.fieldAddrA rfl Tryd.runUnderlying32 rfl Tryd.sizeOf9 rfl rfl g29 (fun _ h => ⟨_, St.refl, h⟩)
            · rintro f_21 w_22 c_22 hB17 hs17 ⟨g30, g31, g32, -⟩ o ho; obtain rfl : _ = o := Option.some.inj ho
              replace g30 : (f_21 29) = vB first := g30
              replace g31 : Adr sl.val (i).toNat 4 (f_21 43) := g31
              replace g32 : AdrP ((f_21 43)) 0 1 (f_21 44) := g32
              refine ⟨_, g30, rfl, fun _ => ?_, fun h => absurd (h.symm.trans hb2) (by decide)⟩
              have o17 := o7.keep hs17 (by decide)
              exact OS.ld1 (u := vS e2.Tenant) rfl Tryd.isAgg9 rfl ((o17.ld g31 hc1).sub g32 (sub_of rfl)) ⟨_, St.refl, rfl⟩
            · rintro f_22 w_23 c_23 hB18 hs18 ⟨g33, g34, g35, -⟩ o ho; obtain rfl : _ = o := Option.some.inj ho
              replace g33 : (f_22 29) = vB first := g33
              replace g34 : (f_22 37) = vS e1.Tenant := g34
              replace g35 : (f_22 45) = vS e2.Tenant := g35
              refine ⟨_, g33, rfl, fun _ => ?_, fun h => absurd (h.symm.trans hb2) (by decide)⟩
              exact OS.bin (a := vS e1.Tenant) (b := vS e2.Tenant) rfl g34 g35 bS_neq ⟨_, St.refl, rfl⟩
            · rintro f_23 w_24 c_24 hB19 hs19 ⟨g36, g37, -⟩ o ho; obtain rfl : _ = o := Option.some.inj ho
              replace g36 : (f_23 29) = vB first := g36
              replace g37 : (f_23 46) = vB (!decide (e1.Tenant = e2.Tenant)) := g37
              exact OS.pickT rfl (vb_t g36 hb2) g37 ⟨_, St.refl, rfl⟩
            · rintro f_24 w_25 c_25 hB20 hs20 ⟨g38, g39, g40, g41, g42, g43, g44, g45, g46, g47, g48, g49, g50, g51, g52, g53, g54, g55, -⟩
              replace g38 : (f_24 30) = p_ := g38
              replace g39 : (f_24 31) = p_ := g39
              replace g40 : AdrP p_ 0 1 (f_24 32) := g40
              replace g41 : (f_24 33) = sl.val := g41
              replace g42 : (f_24 34) = vI k1 := g42
              replace g43 : Adr sl.val (k1).toNat 4 (f_24 35) := g43
              replace g44 : AdrP ((f_24 35)) 0 1 (f_24 36) := g44
              replace g45 : (f_24 37) = vS e1.Tenant := g45
              replace g46 : (f_24 38) = p_ := g46
              replace g47 : (f_24 39) = p_ := g47
              replace g48 : AdrP p_ 0 1 (f_24 40) := g48
              replace g49 : (f_24 41) = sl.val := g49
              replace g50 : (f_24 42) = vI i := g50
              replace g51 : Adr sl.val (i).toNat 4 (f_24 43) := g51
              replace g52 : AdrP ((f_24 43)) 0 1 (f_24 44) := g52
              replace g53 : (f_24 45) = vS e2.Tenant := g53
              replace g54 : (f_24 46) = vB (!decide (e1.Tenant = e2.Tenant)) := g54
              replace g55 : (f_24 47) = vB (!decide (e1.Tenant = e2.Tenant)) := g55
              have h10 := (hB20 0 (by kernel_rfl)).trans h4
              have h11 := (hB20 5 (by kernel_rfl)).trans h5
              have h12 := (hB20 6 (by kernel_rfl)).trans h6
              have h13 := (hB20 7 (by kernel_rfl)).trans h7
              have h14 := (hB20 9 (by kernel_rfl)).trans h9
              refine WR.k rfl rfl rfl (OS.assign (v := vB (!decide (e1.Tenant = e2.Tenant))) rfl g55 ?_)
              refine WR.nil ?_
              refine WC.region ?_
              refine WR.k rfl rfl rfl (OS.move (v := vI k1) rfl h14 ?_)
              refine WR.k rfl rfl rfl (OS.bin (a := vI k1) (b := vI (1 : Int)) rfl rfl rfl bI_add ?_)
              refine WR.k rfl rfl rfl (OS.assign (v := vI (W (k1 + (1 : Int)))) rfl rfl ?_)
              refine WR.nil ?_
              exact ⟨k, by omega, _, _, _, hl1, h10, h11, h12, h13, rfl, rfl, (s4.t hs20).mono (by decide)⟩
          · rw [if_neg (nt hb2)] at hl1
            refine WC.draw3 (c := c_4) ⟨20, [[], [], [], [], [], [], [], [], [], [], [], [], [], [], [], [], [], [], [], []], [[], [], [], [], [], [], [], [], [], [], [], [], [], [], [], [], [], [], [], []], [], [[], [0], [1], [1], [1], [1], [1], [1], [1], [1], [1], [1], [1], [1], [1], [1], [1], [1], [1], [1]], [19]⟩ [[], [], [], [], [], [], [], [], [], [], [], [], [], [], [], [], [], [], [], []] [[28], [29], [30], [31], [32], [33], [34], [35], [36], [37], [38], [39], [40], [41], [42], [43], [44], [45], [46], [47]] [fun yf yw yc => (yf 28) = vB first, fun yf yw yc => (yf 29) = vB first, fun yf yw yc => (yf 30) = undef, fun yf yw yc => (yf 31) = undef, fun yf yw yc => (yf 32) = undef, fun yf yw yc => (yf 33) = undef, fun yf yw yc => (yf 34) = undef, fun yf yw yc => (yf 35) = undef, fun yf yw yc => (yf 36) = undef, fun yf yw yc => (yf 37) = undef, fun yf yw yc => (yf 38) = undef, fun yf yw yc => (yf 39) = undef, fun yf yw yc => (yf 40) = undef, fun yf yw yc => (yf 41) = undef, fun yf yw yc => (yf 42) = undef, fun yf yw yc => (yf 43) = undef, fun yf yw yc => (yf 44) = undef, fun yf yw yc => (yf 45) = undef, fun yf yw yc => (yf 46) = undef, fun yf yw yc => (yf 47) = vB false] hmix (by kernel_rfl) (by kernel_rfl) ⟨?_, ?_, ?_, ?_, ?_, ?_, ?_, ?_, ?_, ?_, ?_, ?_, ?_, ?_, ?_, ?_, ?_, ?_, ?_, ?_, trivial⟩ ⟨fun y1 y2 yw yc yI yw1 yc1 yh ye ys yk => by obtain ⟨ye0, -⟩ := ye; show (y2 28) = vB first; rw [ye0]; exact yh, fun y1 y2 yw yc yI yw1 yc1 yh ye ys yk => by obtain ⟨ye0, -⟩ := ye; show (y2 29) = vB first; rw [ye0]; exact yh, fun y1 y2 yw yc yI yw1 yc1 yh ye ys yk => by obtain ⟨ye0, -⟩ := ye; show (y2 30) = undef; rw [ye0]; exact yh, fun y1 y2 yw yc yI yw1 yc1 yh ye ys yk => by obtain ⟨ye0, -⟩ := ye; show (y2 31) = undef; rw [ye0]; exact yh, fun y1 y2 yw yc yI yw1 yc1 yh ye ys yk => by obtain ⟨ye0, -⟩ := ye; show (y2 32) = undef; rw [ye0]; exact yh, fun y1 y2 yw yc yI yw1 yc1 yh ye ys yk => by obtain ⟨ye0, -⟩ := ye; show (y2 33) = undef; rw [ye0]; exact yh, fun y1 y2 yw yc yI yw1 yc1 yh ye ys yk => by obtain ⟨ye0, -⟩ := ye; show (y2 34) = undef; rw [ye0]; exact yh, fun y1 y2 yw yc yI yw1 yc1 yh ye ys yk => by obtain ⟨ye0, -⟩ := ye; show (y2 35) = undef; rw [ye0]; exact yh, fun y1 y2 yw yc yI yw1 yc1 yh ye ys yk => by obtain ⟨ye0, -⟩ := ye; show (y2 36) = undef; rw [ye0]; exact yh, fun y1 y2 yw yc yI yw1 yc1 yh ye ys yk => by obtain ⟨ye0, -⟩ := ye; show (y2 37) = undef; rw [ye0]; exact yh, fun y1 y2 yw yc yI yw1 yc1 yh ye ys yk => by obtain ⟨ye0, -⟩ := ye; show (y2 38) = undef; rw [ye0]; exact yh, fun y1 y2 yw yc yI yw1 yc1 yh ye ys yk => by obtain ⟨ye0, -⟩ := ye; show (y2 39) = undef; rw [ye0]; exact yh, fun y1 y2 yw yc yI yw1 yc1 yh ye ys yk => by obtain ⟨ye0, -⟩ := ye; show (y2 40) = undef; rw [ye0]; exact yh, fun y1 y2 yw yc yI yw1 yc1 yh ye ys yk => by obtain ⟨ye0, -⟩ := ye; show (y2 41) = undef; rw [ye0]; exact yh, fun y1 y2 yw yc yI yw1 yc1 yh ye ys yk => by obtain ⟨ye0, -⟩ := ye; show (y2 42) = undef; rw [ye0]; exact yh, fun y1 y2 yw yc yI yw1 yc1 yh ye ys yk => by obtain ⟨ye0, -⟩ := ye; show (y2 43) = undef; rw [ye0]; exact yh, fun y1 y2 yw yc yI yw1 yc1 yh ye ys yk => by obtain ⟨ye0, -⟩ := ye; show (y2 44) = undef; rw [ye0]; exact yh, fun y1 y2 yw yc yI yw1 yc1 yh ye ys yk => by obtain ⟨ye0, -⟩ := ye; show (y2 45) = undef; rw [ye0]; exact yh, fun y1 y2 yw yc yI yw1 yc1 yh ye ys yk => by obtain ⟨ye0, -⟩ := ye; show (y2 46) = undef; rw [ye0]; exact yh, fun y1 y2 yw yc yI yw1 yc1 yh ye ys yk => by obtain ⟨ye0, -⟩ := ye; show (y2 47) = vB false; rw [ye0]; exact yh, trivial⟩ ?_
            · rintro f_25 w_26 c_26 hB21 hs21 ⟨-⟩ o ho; obtain rfl : _ = o := Option.some.inj ho
              exact OS.move (v := vB first) rfl ((hB21 8 (by kernel_rfl)).trans h8) ⟨_, St.refl, rfl⟩
            · rintro f_26 w_27 c_27 hB22 hs22 ⟨g56, -⟩ o ho; obtain rfl : _ = o := Option.some.inj ho
              replace g56 : (f_26 28) = vB first := g56
              exact OS.move (v := vB first) rfl g56 ⟨_, St.refl, rfl⟩
            · rintro f_27 w_28 c_28 hB23 hs23 ⟨g57, -⟩ o ho; obtain rfl : _ = o := Option.some.inj ho
              replace g57 : (f_27 29) = vB first := g57
              exact ⟨_, g57, rfl, fun h => absurd (h.symm.trans hb2) (by decide), fun _ => ⟨_, St.refl, rfl⟩⟩
            · rintro f_28 w_29 c_29 hB24 hs24 ⟨g58, -⟩ o ho; obtain rfl : _ = o := Option.some.inj ho
              replace g58 : (f_28 29) = vB first := g58
              exact ⟨_, g58, rfl, fun h => absurd (h.symm.trans hb2) (by decide), fun _ => ⟨_, St.refl, rfl⟩⟩
            · rintro f_29 w_30 c_30 hB25 hs25 ⟨g59, -⟩ o ho; obtain rfl : _ = o := Option.some.inj ho
              replace g59 : (f_29 29) = vB first := g59
              exact ⟨_, g59, rfl, fun h => absurd (h.symm.trans hb2) (by decide), fun _ => ⟨_, St.refl, rfl⟩⟩
            · rintro f_30 w_31 c_31 hB26 hs26 ⟨g60, -⟩ o ho; obtain rfl : _ = o := Option.some.inj ho
              replace g60 : (f_30 29) = vB first := g60
              exact ⟨_, g60, rfl, fun h => absurd (h.symm.trans hb2) (by decide), fun _ => ⟨_, St.refl, rfl⟩⟩
            · rintro f_31 w_32 c_32 hB27 hs27 ⟨g61, -⟩ o ho; obtain rfl : _ = o := Option.some.inj ho
              replace g61 : (f_31 29) = vB first := g61
              exact ⟨_, g61, rfl, fun h => absurd (h.symm.trans hb2) (by decide), fun _ => ⟨_, St.refl, rfl⟩⟩
            · rintro f_32 w_33 c_33 hB28 hs28 ⟨g62, -⟩ o ho; obtain rfl : _ = o := Option.some.inj ho
              replace g62 : (f_32 29) = vB first := g62
              exact ⟨_, g62, rfl, fun h => absurd (h.symm.trans hb2) (by decide), fun _ => ⟨_, St.refl, rfl⟩⟩
            · rintro f_33 w_34 c_34 hB29 hs29 ⟨g63, -⟩ o ho; obtain rfl : _ = o := Option.some.inj ho
              replace g63 : (f_33 29) = vB first := g63
              exact ⟨_, g63, rfl, fun h => absurd (h.symm.trans hb2) (by decide), fun _ => ⟨_, St.refl, rfl⟩⟩
            · rintro f_34 w_35 c_35 hB30 hs30 ⟨g64, -⟩ o ho; obtain rfl : _ = o := Option.some.inj ho
              replace g64 : (f_34 29) = vB first := g64
              exact ⟨_, g64, rfl, fun h => absurd (h.symm.trans hb2) (by decide), fun _ => ⟨_, St.refl, rfl⟩⟩
            · rintro f_35 w_36 c_36 hB31 hs31 ⟨g65, -⟩ o ho; obtain rfl : _ = o := Option.some.inj ho
              replace g65 : (f_35 29) = vB first := g65
              exact ⟨_, g65, rfl, fun h => absurd (h.symm.trans hb2) (by decide), fun _ => ⟨_, St.refl, rfl⟩⟩
            · rintro f_36 w_37 c_37 hB32 hs32 ⟨g66, -⟩ o ho; obtain rfl : _ = o := Option.some.inj ho
              replace g66 : (f_36 29) = vB first := g66
              exact ⟨_, g66, rfl, fun h => absurd (h.symm.trans hb2) (by decide), fun _ => ⟨_, St.refl, rfl⟩⟩
            · rintro f_37 w_38 c_38 hB33 hs33 ⟨g67, -⟩ o ho; obtain rfl : _ = o := Option.some.inj ho
              replace g67 : (f_37 29) = vB first := g67
              exact ⟨_, g67, rfl, fun h => absurd (h.symm.trans hb2) (by decide), fun _ => ⟨_, St.refl, rfl⟩⟩
            · rintro f_38 w_39 c_39 hB34 hs34 ⟨g68, -⟩ o ho; obtain rfl : _ = o := Option.some.inj ho
              replace g68 : (f_38 29) = vB first := g68
              exact ⟨_, g68, rfl, fun h => absurd (h.symm.trans hb2) (by decide), fun _ => ⟨_, St.refl, rfl⟩⟩
            · rintro f_39 w_40 c_40 hB35 hs35 ⟨g69, -⟩ o ho; obtain rfl : _ = o := Option.some.inj ho
              replace g69 : (f_39 29) = vB first := g69
              exact ⟨_, g69, rfl, fun h => absurd (h.symm.trans hb2) (by decide), fun _ => ⟨_, St.refl, rfl⟩⟩
            · rintro f_40 w_41 c_41 hB36 hs36 ⟨g70, -⟩ o ho; obtain rfl : _ = o := Option.some.inj ho
              replace g70 : (f_40 29) = vB first := g70
              exact ⟨_, g70, rfl, fun h => absurd (h.symm.trans hb2) (by decide), fun _ => ⟨_, St.refl, rfl⟩⟩
            · rintro f_41 w_42 c_42 hB37 hs37 ⟨g71, -⟩ o ho; obtain rfl : _ = o := Option.some.inj ho
              replace g71 : (f_41 29) = vB first := g71
              exact ⟨_, g71, rfl, fun h => absurd (h.symm.trans hb2) (by decide), fun _ => ⟨_, St.refl, rfl⟩⟩
            · rintro f_42 w_43 c_43 hB38 hs38 ⟨g72, -⟩ o ho; obtain rfl : _ = o := Option.some.inj ho
              replace g72 : (f_42 29) = vB first := g72
              exact ⟨_, g72, rfl, fun h => absurd (h.symm.trans hb2) (by decide), fun _ => ⟨_, St.refl, rfl⟩⟩
            · rintro f_43 w_44 c_44 hB39 hs39 ⟨g73, -⟩ o ho; obtain rfl : _ = o := Option.some.inj ho
              replace g73 : (f_43 29) = vB first := g73
              exact ⟨_, g73, rfl, fun h => absurd (h.symm.trans hb2) (by decide), fun _ => ⟨_, St.refl, rfl⟩⟩
            · rintro f_44 w_45 c_45 hB40 hs40 ⟨g74, -⟩ o ho; obtain rfl : _ = o := Option.some.inj ho
              replace g74 : (f_44 29) = vB first := g74
              exact OS.pickF rfl (vb_f g74 hb2) rfl ⟨_, St.refl, rfl⟩
            · rintro f_45 w_46 c_46 hB41 hs41 ⟨g75, -⟩
              replace g75 : (f_45 47) = vB false := g75
              have h15 := (hB41 0 (by kernel_rfl)).trans h4
              have h16 := (hB41 5 (by kernel_rfl)).trans h5
              have h17 := (hB41 6 (by kernel_rfl)).trans h6
              have h18 := (hB41 7 (by kernel_rfl)).trans h7
              have h19 := (hB41 9 (by kernel_rfl)).trans h9
              refine WR.k rfl rfl rfl (OS.assign (v := vB false) rfl g75 ?_)
              refine WR.nil ?_
              refine WC.region ?_
              refine WR.k rfl rfl rfl (OS.move (v := vI k1) rfl h19 ?_)
              refine WR.k rfl rfl rfl (OS.bin (a := vI k1) (b := vI (1 : Int)) rfl rfl rfl bI_add ?_)
              refine WR.k rfl rfl rfl (OS.assign (v := vI (W (k1 + (1 : Int)))) rfl rfl ?_)
              refine WR.nil ?_
              exact ⟨k, by omega, _, _, _, hl1, h15, h16, h17, h18, rfl, rfl, (s4.t hs41).mono (by decide)⟩
        · rw [if_neg (nt hb1)] at hl1
          refine WC.exit ?_
          cases hl1
          exact ⟨_, h4, h5, h6, h7, h8, s4.mono (by decide)⟩
      · rintro f_2 w_3 ⟨c_3, h20, h21, h22, h23, h24, s5⟩
        refine WC.seq (WC.region ?_)
        refine WR.k rfl rfl rfl (OS.move (v := vB first1) rfl h24 ?_)
        refine WR.nil ?_
        refine WC.cond (first1) rfl (fun hb5 => ?_) (fun hb5 => ?_)
        · rw [if_pos hb5] at hl
          refine WC.region ?_
          refine WR.k rfl rfl rfl (OS.move (v := vI tenants) rfl h22 ?_)
          refine WR.k rfl rfl rfl (OS.bin (a := vI tenants) (b := vI (1 : Int)) rfl rfl rfl bI_add ?_)
          refine WR.k rfl rfl rfl (OS.assign (v := vI (W (tenants + (1 : Int)))) rfl rfl ?_)
          refine WR.nil ?_
          refine WC.region ?_
          refine WR.k rfl rfl rfl (OS.move (v := vI i) rfl h23 ?_)
          refine WR.k rfl rfl rfl (OS.bin (a := vI i) (b := vI (1 : Int)) rfl rfl rfl bI_add ?_)
          refine WR.k rfl rfl rfl (OS.assign (v := vI (W (i + (1 : Int)))) rfl rfl ?_)
          refine WR.nil ?_
          exact ⟨k, by omega, _, _, _, hl, h20, h21, rfl, rfl, (s3.t s5).mono (by decide)⟩
        · rw [if_neg (nt hb5)] at hl
          refine WC.skip ?_
          refine WC.region ?_
          refine WR.k rfl rfl rfl (OS.move (v := vI i) rfl h23 ?_)
          refine WR.k rfl rfl rfl (OS.bin (a := vI i) (b := vI (1 : Int)) rfl rfl rfl bI_add ?_)
          refine WR.k rfl rfl rfl (OS.assign (v := vI (W (i + (1 : Int)))) rfl rfl ?_)
          refine WR.nil ?_
          exact ⟨k, by omega, _, _, _, hl, h20, h21, h22, rfl, (s3.t s5).mono (by decide)⟩
    · rw [if_neg (nt hb)] at hl
      refine WC.exit ?_
      cases hl
      exact ⟨_, h, h1, h2, s3.mono (by decide)⟩
  · rintro f_ w_1 ⟨c_1, h25, h26, h27, s6⟩
    refine WC.seq (WC.region ?_)
    refine WR.k rfl rfl rfl (OS.move (v := vI (r_.length : Int)) rfl h26 ?_)
    refine WR.k rfl rfl rfl (OS.bin (a := vI (r_.length : Int)) (b := vI (4 : Int)) rfl rfl rfl bI_geq ?_)
    refine WR.k rfl rfl rfl (OS.move (v := vB (decide ((4 : Int) ≤ (r_.length : Int)))) rfl rfl ?_)
    refine WR.cut2 7 (fun f_46 w_47 => f_46 0 = p_ ∧ f_46 60 = vB ((decide ((4 : Int) ≤ (r_.length : Int))) || ((decide ((r_.length : Int) = (0 : Int))) && (decide ((4 : Int) ≤ tenants1)))) ∧ w_1 = w_47) ?_ ?_
    · rcases Bool.eq_false_or_eq_true (decide ((4 : Int) ≤ (r_.length : Int))) with hg | hg
      · refine WR.gF rfl rfl (vb_t rfl hg) rfl rfl ?_
        refine WR.gF rfl rfl (vb_t rfl hg) rfl rfl ?_
        refine WR.gF rfl rfl (vb_t rfl hg) rfl rfl ?_
        refine WR.gN rfl rfl rfl rfl rfl ?_
        refine WR.gN rfl rfl rfl rfl rfl ?_
        refine WR.gF rfl rfl (vb_t rfl hg) rfl rfl ?_
        refine WR.k rfl rfl rfl (OS.pickT rfl (vb_t rfl hg) rfl ?_)
        refine WR.nil ?_
        exact ⟨h25, (or_t hg), rfl⟩
      · refine WR.kT rfl rfl (vb_f rfl hg) rfl rfl (OS.move (v := vI (r_.length : Int)) rfl h26 ?_)
        refine WR.kT rfl rfl (vb_f rfl hg) rfl rfl (OS.bin (a := vI (r_.length : Int)) (b := vI (0 : Int)) rfl rfl rfl bI_eql ?_)
        refine WR.kT rfl rfl (vb_f rfl hg) rfl rfl (OS.move (v := vB (decide ((r_.length : Int) = (0 : Int)))) rfl rfl ?_)
        refine WR.cut2 3 (fun f_47 w_48 => f_47 0 = p_ ∧ f_47 53 = vB (decide ((4 : Int) ≤ (r_.length : Int))) ∧ f_47 59 = vB ((decide ((r_.length : Int) = (0 : Int))) && (decide ((4 : Int) ≤ tenants1))) ∧ w_1 = w_48) ?_ ?_
        · rcases Bool.eq_false_or_eq_true (decide ((r_.length : Int) = (0 : Int))) with hg1 | hg1
          · refine WR.kT rfl rfl (vb_t rfl hg1) rfl rfl (OS.move (v := vI tenants1) rfl h27 ?_)
            refine WR.kT rfl rfl (vb_t rfl hg1) rfl rfl (OS.bin (a := vI tenants1) (b := vI (4 : Int)) rfl rfl rfl bI_geq ?_)
            refine WR.kT rfl rfl (vb_f rfl hg) rfl rfl (OS.pickT rfl (vb_t rfl hg1) rfl ?_)
            refine WR.nil ?_
            exact ⟨h25, rfl, (and_t hg1), rfl⟩
          · refine WR.gF rfl rfl (vb_f rfl hg1) rfl rfl ?_
            refine WR.gF rfl rfl (vb_f rfl hg1) rfl rfl ?_
            refine WR.kT rfl rfl (vb_f rfl hg) rfl rfl (OS.pickF rfl (vb_f rfl hg1) rfl ?_)
            refine WR.nil ?_
            exact ⟨h25, rfl, (and_f hg1), rfl⟩
        · rintro f_47 _ ⟨h28, h29, h30, rfl⟩
          refine WR.k rfl rfl rfl (OS.pickF rfl (vb_f h29 hg) h30 ?_)
          refine WR.nil ?_
          exact ⟨h28, (or_f hg), rfl⟩
    · rintro f_46 _ ⟨h31, h32, rfl⟩
      refine WR.k rfl rfl rfl (OS.assign (v := vB ((decide ((4 : Int) ≤ (r_.length : Int))) || ((decide ((r_.length : Int) = (0 : Int))) && (decide ((4 : Int) ≤ tenants1))))) rfl h32 ?_)
      refine WR.nil ?_
      refine WC.ret ?_
      repeat first | refine thenQ_ret ?_ | refine blkQ_ret ?_
      cases hp
      exact fnQ.l1 (fn := Tryd.f46) rfl (.inl ⟨_, rfl, rfl⟩) ⟨_, rfl, (s2.t s6).leave hcw (by decide)⟩

-- (*holdfast/holdfastref13.Store).Register
set_option maxHeartbeats 4000000 in
theorem W30 (K : Nat) (w0 : World) (cw : Col) (hcw : ∀ b, cw b < 40) {s : S_holdfastref13_Store} {c_ : S_api_Client} {r : Int × S_holdfastref13_Store} (hp : holdfastref13_Store_Register K s c_ = some r) {sl : Sl} {sl1 : Sl} {p_ : Value} (o : Bx 3 w0 cw p_ [sl.val, sl1.val]) (o1 : Vw E32 1 w0 cw sl.val s.c_) (o2 : Vw E35 1 w0 cw sl1.val s.a) :
    Calls Tryd.prog 30 [p_, .agg (E32.e c_).toArray].toArray w0 fun e w1 => ∃ (sl3 : Sl) (sl4 : Sl) (d : Col), e = .returned (vI r.1) ∧ St [3] w0 cw w1 d ∧ Bx 3 w1 d p_ [sl3.val, sl4.val] ∧ Vw E32 1 w1 d sl3.val r.2.c_ ∧ Vw E35 1 w1 d sl4.val r.2.a := by
  refine calls_intro Tryd.func30 rfl Tryd.ntmps30 rfl ?_
  unfold holdfastref13_Store_Register at hp
  refine WC.seq (WC.region ?_)
  refine WR.k rfl rfl rfl (OS.boxBx (us := [vS c_.Tenant, vS c_.Name, vS c_.Redirect, vU8 c_.Scopes]) (c := cw) 40 rfl rfl rfl ?_); intro p_1 w_ c_1 o3 s1
  refine WR.k rfl rfl rfl (OS.assign (v := vI (0 : Int)) rfl rfl ?_)
  refine WR.nil ?_
  refine WC.seq ?_
  refine WC.block ?_
  refine WC.seq (WC.region ?_)
  refine WR.k rfl rfl rfl (OS.move (v := p_) rfl rfl ?_)
  have o4 := o.keep s1 (by decide)
  refine WR.k rfl rfl rfl (OS.eqPtrS rfl (.inl ⟨rfl, rfl⟩) Tryd.underlying45 rfl o4 rfl ?_)
  refine WR.k rfl rfl rfl (OS.assign (v := vB false) rfl rfl ?_)
  refine WR.nil ?_
  refine WC.condF rfl ?_
  refine WC.seq (WC.region ?_)
  refine WR.k rfl rfl rfl (OS.fieldAddrBx rfl Tryd.runUnderlying32 rfl Tryd.sizeOf9 rfl rfl o3 ?_); intro p_2 a1
  refine WR.k rfl rfl rfl (OS.ld1 (u := vS c_.Tenant) rfl Tryd.isAgg9 rfl (o3.ldn a1 (sub_of rfl)) ?_)
  obtain ⟨r_, hr_, hp⟩ := bind_some hp
  refine WR.k rfl rfl rfl (OS.callF (vs := [vS c_.Tenant]) rfl ⟨rfl, trivial⟩ Tryd.call44 ((W44 K w_ (rcc [] c_1) (rcc_lt c_1 rfl) hr_).mono ?_))
  rintro _ w_1 ⟨d1, rfl, s2⟩
  refine ⟨_, rfl, ?_⟩
  obtain ⟨c_2, s3⟩ : ∃ c_2, St [] w_ c_1 w_1 c_2 := ⟨_, s2.mg2 (sh := 10000) rfl⟩
  refine WR.k rfl rfl rfl (OS.not rfl rfl ?_)
  refine WR.k rfl rfl rfl (OS.move (v := vB (!r_)) rfl rfl ?_)
  obtain ⟨b, ht, hp⟩ := bind_some hp
  refine WR.cut2 5 (fun f_ w_2 => ∃ (c_3 : Col), f_ 0 = p_ ∧ f_ 3 = p_1 ∧ f_ 19 = vB b ∧ St [] w_1 c_2 w_2 c_3) ?_ ?_
  · rcases Bool.eq_false_or_eq_true (!r_) with hg | hg
    · rw [if_pos hg] at ht
      refine WR.gF rfl rfl (vb_t rfl hg) rfl rfl ?_
      refine WR.gF rfl rfl (vb_t rfl hg) rfl rfl ?_
      refine WR.gF rfl rfl (vb_t rfl hg) rfl rfl ?_
      refine WR.gF rfl rfl (vb_t rfl hg) rfl rfl ?_
      refine WR.k rfl rfl rfl (OS.pickT rfl (vb_t rfl hg) rfl ?_)
      cases ht
      refine WR.nil ?_
      exact ⟨_, rfl, rfl, rfl, St.refl.mono (by decide)⟩
    · rw [if_neg (nt hg)] at ht
      have o5 := o3.keep s3 (by decide)
      refine WR.kT rfl rfl (vb_f rfl hg) rfl rfl (OS.fieldAddrBx rfl Tryd.runUnderlying32 rfl Tryd.sizeOf9 rfl rfl o5 ?_); intro p_3 a2
      refine WR.kT rfl rfl (vb_f rfl hg) rfl rfl (OS.ld1 (u := vS c_.Name) rfl Tryd.isAgg9 rfl (o5.ldn a2 (sub_of rfl)) ?_)
      obtain ⟨r_1, hr_1, ht⟩ := bind_some ht
      refine WR.kT rfl rfl (vb_f rfl hg) rfl rfl (OS.callF (vs := [vS c_.Name]) rfl ⟨rfl, trivial⟩ Tryd.call44 ((W44 K w_1 (rcc [] c_2) (rcc_lt c_2 rfl) hr_1).mono ?_))
      rintro _ w_3 ⟨d2, rfl, s4⟩
      refine ⟨_, rfl, ?_⟩
      obtain ⟨c_4, s5⟩ : ∃ c_4, St [] w_1 c_2 w_3 c_4 := ⟨_, s4.mg2 (sh := 30000) rfl⟩
      refine WR.kT rfl rfl (vb_f rfl hg) rfl rfl (OS.not rfl rfl ?_)
      refine WR.k rfl rfl rfl (OS.pickF rfl (vb_f rfl hg) rfl ?_)
      cases ht
      refine WR.nil ?_
      exact ⟨_, rfl, rfl, rfl, s5.mono (by decide)⟩
  · rintro f_ w_2 ⟨c_3, h, h1, h2, s6⟩
    refine WR.k rfl rfl rfl (OS.assign (v := vB b) rfl h2 ?_)
    refine WR.nil ?_
    refine WC.cond (b) rfl (fun hb => ?_) (fun hb => ?_)
    · rw [if_pos hb] at hp
      refine WC.seq (WC.region ?_)
      refine WR.k rfl rfl rfl (OS.assign (v := vI (8 : Int)) rfl rfl ?_)
      refine WR.nil ?_
      refine WC.ret ?_
      repeat first | refine thenQ_ret ?_ | refine blkQ_ret ?_
      cases hp
      have o6 := o4.keep (s3.t s6) (by decide)
      have o7 := o1.keep ((s1.t s3).t s6) (by decide)
      have o8 := o2.keep ((s1.t s3).t s6) (by decide)
      exact fnQ.l1 (fn := Tryd.f30) rfl (.inl ⟨_, rfl, rfl⟩) ⟨_, _, _, rfl, ((s1.t s3).t s6).leave hcw (by decide), o6, o7, o8⟩
    · rw [if_neg (nt hb)] at hp
      refine WC.seq (WC.region ?_)
      have o9 := o3.keep (s3.t s6) (by decide)
      refine WR.k rfl rfl rfl (OS.fieldAddrBx rfl Tryd.runUnderlying32 rfl Tryd.sizeOf9 rfl h1 o9 ?_); intro p_4 a3
      refine WR.k rfl rfl rfl (OS.ld1 (u := vS c_.Redirect) rfl Tryd.isAgg9 rfl (o9.ldn a3 (sub_of rfl)) ?_)
      refine WR.k rfl rfl rfl (OS.lenS rfl Tryd.runUnderlying9 rfl ?_)
      refine WR.k rfl rfl rfl (OS.bin (a := vI (c_.Redirect.length : Int)) (b := vI (24 : Int)) rfl rfl rfl bI_gtr ?_)
      refine WR.k rfl rfl rfl (OS.assign (v := vB (decide ((24 : Int) < (c_.Redirect.length : Int)))) rfl rfl ?_)
      refine WR.nil ?_
      refine WC.cond (decide ((24 : Int) < (c_.Redirect.length : Int))) rfl (fun hb1 => ?_) (fun hb1 => ?_)
      · rw [if_pos hb1] at hp
        refine WC.seq (WC.region ?_)
        refine WR.k rfl rfl rfl (OS.assign (v := vI (6 : Int)) rfl rfl ?_)
        refine WR.nil ?_
        refine WC.ret ?_
        repeat first | refine thenQ_ret ?_ | refine blkQ_ret ?_
        cases hp
        have o10 := o4.keep (s3.t s6) (by decide)
        have o11 := o1.keep ((s1.t s3).t s6) (by decide)
        have o12 := o2.keep ((s1.t s3).t s6) (by decide)
        exact fnQ.l1 (fn := Tryd.f30) rfl (.inl ⟨_, rfl, rfl⟩) ⟨_, _, _, rfl, ((s1.t s3).t s6).leave hcw (by decide), o10, o11, o12⟩
      · rw [if_neg (nt hb1)] at hp
        refine WC.seq (WC.region ?_)
        refine WR.k rfl rfl rfl (OS.move (v := p_) rfl h ?_)
        refine WR.k rfl rfl rfl (OS.fieldAddrBx rfl Tryd.runUnderlying32 rfl Tryd.sizeOf9 rfl h1 o9 ?_); intro p_5 a4
        refine WR.k rfl rfl rfl (OS.ld1 (u := vS c_.Tenant) rfl Tryd.isAgg9 rfl (o9.ldn a4 (sub_of rfl)) ?_)
        refine WR.k rfl rfl rfl (OS.fieldAddrBx rfl Tryd.runUnderlying32 rfl Tryd.sizeOf9 rfl h1 o9 ?_); intro p_6 a5
        refine WR.k rfl rfl rfl (OS.ld1 (u := vS c_.Name) rfl Tryd.isAgg9 rfl (o9.ldn a5 (sub_of rfl)) ?_)
        have o13 := o4.keep (s3.t s6) (by decide)
        have o14 := o1.keep ((s1.t s3).t s6) (by decide)
        have o15 := o2.keep ((s1.t s3).t s6) (by decide)
        obtain ⟨r_2, hr_2, hp⟩ := bind_some hp
        refine WR.k rfl rfl rfl (OS.callF (vs := [p_, vS c_.Tenant, vS c_.Name]) rfl ⟨rfl, rfl, rfl, trivial⟩ Tryd.call45 ((W45 (sl := sl) (sl1 := sl1) K w_2 (rcc [3] c_3) (rcc_lt c_3 rfl) hr_2 (o13.tr (rc_tr (by decide))) (o14.tr (rc_tr rfl)) (o15.tr (rc_tr rfl))).mono ?_))
        rintro _ w_4 ⟨d3, rfl, s7⟩
        refine ⟨_, rfl, ?_⟩
        obtain ⟨c_5, s8⟩ : ∃ c_5, St [] w_2 c_3 w_4 c_5 := ⟨_, s7.mg2 (sh := 40000) rfl⟩
        refine WR.k rfl rfl rfl (OS.bin (a := vI r_2) (b := vI (0 : Int)) rfl rfl rfl bI_geq ?_)
        refine WR.k rfl rfl rfl (OS.assign (v := vB (decide ((0 : Int) ≤ r_2))) rfl rfl ?_)
        refine WR.nil ?_
        refine WC.cond (decide ((0 : Int) ≤ r_2)) rfl (fun hb2 => ?_) (fun hb2 => ?_)
        · rw [if_pos hb2] at hp
          refine WC.seq (WC.region ?_)
          refine WR.k rfl rfl rfl (OS.assign (v := vI (5 : Int)) rfl rfl ?_)
          refine WR.nil ?_
          refine WC.ret ?_
          repeat first | refine thenQ_ret ?_ | refine blkQ_ret ?_
          cases hp
          have o16 := o13.keep s8 (by decide)
          have o17 := o14.keep s8 (by decide)
          have o18 := o15.keep s8 (by decide)
          exact fnQ.l1 (fn := Tryd.f30) rfl (.inl ⟨_, rfl, rfl⟩) ⟨_, _, _, rfl, (((s1.t s3).t s6).t s8).leave hcw (by decide), o16, o17, o18⟩
        · rw [if_neg (nt hb2)] at hp
          refine WC.seq (WC.region ?_)
          refine WR.k rfl rfl rfl (OS.move (v := p_) rfl h ?_)
          have o19 := o9.keep s8 (by decide)
          refine WR.k rfl rfl rfl (OS.fieldAddrBx rfl Tryd.runUnderlying32 rfl Tryd.sizeOf9 rfl h1 o19 ?_); intro p_7 a6
          refine WR.k rfl rfl rfl (OS.ld1 (u := vS c_.Tenant) rfl Tryd.isAgg9 rfl (o19.ldn a6 (sub_of rfl)) ?_)
          have o20 := o13.keep s8 (by decide)
          have o21 := o14.keep s8 (by decide)
          have o22 := o15.keep s8 (by decide)
          obtain ⟨r_3, hr_3, hp⟩ := bind_some hp
          refine WR.k rfl rfl rfl (OS.callF (vs := [p_, vS c_.Tenant]) rfl ⟨rfl, rfl, trivial⟩ Tryd.call46 ((W46 (sl := sl) (sl1 := sl1) K w_4 (rcc [3] c_5) (rcc_lt c_5 rfl) hr_3 (o20.tr (rc_tr (by decide))) (o21.tr (rc_tr rfl)) (o22.tr (rc_tr rfl))).mono ?_))
          rintro _ w_5 ⟨d4, rfl, s9⟩
          refine ⟨_, rfl, ?_⟩
          obtain ⟨c_6, s10⟩ : ∃ c_6, St [] w_4 c_5 w_5 c_6 := ⟨_, s9.mg2 (sh := 50000) rfl⟩
          refine WR.k rfl rfl rfl (OS.assign (v := vB r_3) rfl rfl ?_)
          refine WR.nil ?_
          refine WC.cond (r_3) rfl (fun hb3 => ?_) (fun hb3 => ?_)
          · rw [if_pos hb3] at hp
            refine WC.seq (WC.region ?_)
            refine WR.k rfl rfl rfl (OS.assign (v := vI (24 : Int)) rfl rfl ?_)
            refine WR.nil ?_
            refine WC.ret ?_
            repeat first | refine thenQ_ret ?_ | refine blkQ_ret ?_
            cases hp
            have o23 := o20.keep s10 (by decide)
            have o24 := o21.keep s10 (by decide)
            have o25 := o22.keep s10 (by decide)
            exact fnQ.l1 (fn := Tryd.f30) rfl (.inl ⟨_, rfl, rfl⟩) ⟨_, _, _, rfl, ((((s1.t s3).t s6).t s8).t s10).leave hcw (by decide), o23, o24, o25⟩
          · rw [if_neg (nt hb3)] at hp
            refine WC.skip ?_
            refine WC.seq (WC.region ?_)
            refine WR.k rfl rfl rfl (OS.assign (v := (.slice none 0 0)) rfl rfl ?_)
            refine WR.nil ?_
            refine WC.seq (WC.region ?_)
            refine WR.k rfl rfl rfl (OS.move (v := (.slice none 0 0)) rfl rfl ?_)
            refine WR.k rfl rfl rfl (OS.move (v := p_) rfl h ?_)
            have o26 := o20.keep s10 (by decide)
            refine WR.k rfl rfl rfl (OS.nilCheckBx rfl rfl o26 ?_)
            refine WR.k rfl rfl rfl (OS.fieldAddrBx rfl Tryd.runUnderlying77 rfl Tryd.sizeOf36 rfl rfl o26 ?_); intro p_8 a7
            refine WR.k rfl rfl rfl (OS.ld1 (u := sl.val) rfl Tryd.isAgg36 rfl (o26.ldn a7 (sub_of rfl)) ?_)
            have o27 := o21.keep s10 (by decide)
            obtain ⟨xs, hxs, hp⟩ := bind_some hp
            obtain ⟨ha, hxs⟩ := app_some hxs
            refine WR.k rfl rfl rfl (OS.append (E := E32) (c := c_6) (i := 41) (xs := ([] : List S_api_Client)) (ys := s.c_) rfl Tryd.underlying36 Tryd.underlying36 (.inl rfl) I32 rfl rfl rfl rfl rfl Ow.nil o27.src (lim_bytes (by decide) ha) (lim_max (b := 56) (by decide) ha) ?_); intro v_ w_6 c_7 o28 s11
            replace o28 : Ow E32 41 w_6 c_7 v_ xs := by rw [hxs]; exact o28
            refine WR.k rfl rfl rfl (OS.assign (v := v_) rfl rfl ?_)
            refine WR.nil ?_
            refine WC.seq (WC.region ?_)
            refine WR.k rfl rfl rfl (OS.move (v := p_) rfl h ?_)
            refine WR.k rfl rfl rfl (OS.move (v := v_) rfl rfl ?_)
            have o29 := o19.keep (s10.t s11) (by decide)
            refine WR.k rfl rfl rfl (OS.ldN (us := [vS c_.Tenant, vS c_.Name, vS c_.Redirect, vU8 c_.Scopes]) rfl Tryd.isAgg32 Tryd.sizeOf32 h1 o29.ldAll rfl ?_)
            obtain ⟨l, hl, hp⟩ := bind_some hp
            replace hl := (Option.some.inj hl).symm
            refine WR.k rfl rfl rfl (OS.bslice (E := E32) (c := c_7) 42 ([c_] : List S_api_Client) [(0, .agg (E32.e c_).toArray)] rfl ⟨rfl, rfl, trivial⟩ (fun _ => by kernel_rfl) rfl (by decide) ?_); intro v_1 w_7 c_8 o30 s12
            replace o30 : Ow E32 42 w_7 c_8 v_1 l := by rw [hl]; exact o30
            have o31 := o28.keep s12 (by decide)
            obtain ⟨xs1, hxs1, hp⟩ := bind_some hp
            obtain ⟨ha1, hxs1⟩ := app_some hxs1
            refine WR.k rfl rfl rfl (OS.append (E := E32) (c := c_8) (i := 41) (xs := xs) (ys := l) rfl Tryd.underlying36 Tryd.underlying36 (.inl rfl) I32 rfl rfl rfl rfl rfl o31 o30.vw.src (lim_bytes (by decide) ha1) (lim_max (b := 56) (by decide) ha1) ?_); intro v_2 w_8 c_9 o32 s13
            replace o32 : Ow E32 41 w_8 c_9 v_2 xs1 := by rw [hxs1]; exact o32
            have o33 := o26.keep ((s11.t s12).t s13) (by decide)
            refine WR.k rfl rfl rfl (OS.nilCheckBx rfl rfl o33 ?_)
            refine WR.k rfl rfl rfl (OS.fieldAddrBx rfl Tryd.runUnderlying77 rfl Tryd.sizeOf36 rfl rfl o33 ?_); intro p_9 a8
            obtain ⟨sl2, e1⟩ := isSlv o32.isSl; subst e1
            refine WR.k0 rfl rfl (OS.stBxAt (v := sl2.val) (vs := [sl2.val]) (ws := [sl2.val, sl1.val]) rfl Tryd.sizeOf36 rfl rfl rfl o33 a8 rfl (Nat.le_of_ble_eq_true rfl) (one_of rfl) rfl ?_); intro w_9 o34 s14
            refine WR.nil ?_
            refine WC.seq (WC.region ?_)
            refine WR.k rfl rfl rfl (OS.assign (v := vI (0 : Int)) rfl rfl ?_)
            refine WR.nil ?_
            refine WC.ret ?_
            repeat first | refine thenQ_ret ?_ | refine blkQ_ret ?_
            cases hp
            have o36 := o32.keep s14 (by decide)
            obtain ⟨c_10, s15, o35⟩ := o36.recol 1
            have o37 := o34.keep s15 (by decide)
            have o38 := o22.keep (((((s10.t s11).t s12).t s13).t s14).t s15) (by decide)
            exact fnQ.l1 (fn := Tryd.f30) rfl (.inl ⟨_, rfl, rfl⟩) ⟨_, _, _, rfl, (((((((((s1.t s3).t s6).t s8).t s10).t s11).t s12).t s13).t s14).t s15).leave hcw (by decide), o37, o35.vw, o38⟩

-- (*holdfast/holdfastref13.Store).Narrow
set_option maxHeartbeats 4000000 in
theorem W31 (K : Nat) (w0 : World) (cw : Col) (hcw : ∀ b, cw b < 40) {s : S_holdfastref13_Store} {tenant : List UInt8} {name : List UInt8} {scopes : UInt8} {r : UInt8 × Int × S_holdfastref13_Store} (hp : holdfastref13_Store_Narrow K s tenant name scopes = some r) {sl : Sl} {sl1 : Sl} {p_ : Value} (o : Bx 3 w0 cw p_ [sl.val, sl1.val]) (o1 : Vw E32 1 w0 cw sl.val s.c_) (o2 : Vw E35 1 w0 cw sl1.val s.a) :
    Calls Tryd.prog 31 [p_, vS tenant, vS name, vU8 scopes].toArray w0 fun e w1 => ∃ (sl4 : Sl) (sl5 : Sl) (d : Col), e = .returned (.tuple #[vU8 r.1, vI r.2.1]) ∧ St [3] w0 cw w1 d ∧ Bx 3 w1 d p_ [sl4.val, sl5.val] ∧ Vw E32 1 w1 d sl4.val r.2.2.c_ ∧ Vw E35 1 w1 d sl5.val r.2.2.a := by
  refine calls_intro Tryd.func31 rfl Tryd.ntmps31 rfl ?_
  unfold holdfastref13_Store_Narrow at hp
  refine WC.seq (WC.region ?_)
  refine WR.k rfl rfl rfl (OS.assign (v := vU8 (0 : UInt8)) rfl (by kernel_rfl) ?_)
  refine WR.k rfl rfl rfl (OS.assign (v := vI (0 : Int)) rfl rfl ?_)
  refine WR.nil ?_
  refine WC.seq ?_
  refine WC.seq (WC.region ?_)
  refine WR.k rfl rfl rfl (OS.move (v := p_) rfl rfl ?_)
  refine WR.k rfl rfl rfl (OS.eqPtrS rfl (.inl ⟨rfl, rfl⟩) Tryd.underlying45 rfl o rfl ?_)
  refine WR.nil ?_
  refine WC.condF rfl ?_
  refine WC.skip ?_
  refine WC.seq (WC.region ?_)
  refine WR.k rfl rfl rfl (OS.move (v := p_) rfl rfl ?_)
  refine WR.k rfl rfl rfl (OS.move (v := vS tenant) rfl rfl ?_)
  refine WR.k rfl rfl rfl (OS.move (v := vS name) rfl rfl ?_)
  obtain ⟨r_, hr_, hp⟩ := bind_some hp
  refine WR.k rfl rfl rfl (OS.callF (vs := [p_, vS tenant, vS name]) rfl ⟨rfl, rfl, rfl, trivial⟩ Tryd.call45 ((W45 (sl := sl) (sl1 := sl1) K w0 (rcc [3] cw) (rcc_lt cw rfl) hr_ (o.tr (rc_tr (by decide))) (o1.tr (rc_tr rfl)) (o2.tr (rc_tr rfl))).mono ?_))
  rintro _ w_ ⟨d1, rfl, s1⟩
  refine ⟨_, rfl, ?_⟩
  obtain ⟨c_, s2⟩ : ∃ c_, St [] w0 cw w_ c_ := ⟨_, s1.mg2 (sh := 10000) rfl⟩
  refine WR.k rfl rfl rfl (OS.assign (v := vI r_) rfl rfl ?_)
  refine WR.nil ?_
  refine WC.seq ?_
  refine WC.seq (WC.region ?_)
  refine WR.k rfl rfl rfl (OS.move (v := vI r_) rfl rfl ?_)
  refine WR.k rfl rfl rfl (OS.bin (a := vI r_) (b := vI (0 : Int)) rfl rfl rfl bI_lss ?_)
  refine WR.nil ?_
  refine WC.cond (decide (r_ < (0 : Int))) rfl (fun hb => ?_) (fun hb => ?_)
  · rw [if_pos hb] at hp
    refine WC.seq (WC.region ?_)
    refine WR.k rfl rfl rfl (OS.assign (v := vU8 (0 : UInt8)) rfl (by kernel_rfl) ?_)
    refine WR.k rfl rfl rfl (OS.assign (v := vI (4 : Int)) rfl rfl ?_)
    refine WR.nil ?_
    refine WC.ret ?_
    repeat first | refine thenQ_ret ?_ | refine blkQ_ret ?_
    cases hp
    have o3 := o.keep s2 (by decide)
    have o4 := o1.keep s2 (by decide)
    have o5 := o2.keep s2 (by decide)
    exact fnQ.ls (fn := Tryd.f31) (rs := [.tmp 8, .tmp 9]) (vs := [vU8 (0 : UInt8), vI (4 : Int)]) rfl ⟨(.inl ⟨_, rfl, rfl⟩), (.inl ⟨_, rfl, rfl⟩), trivial⟩ ⟨_, _, _, rfl, s2.leave hcw (by decide), o3, o4, o5⟩ (by simp)
  · rw [if_neg (nt hb)] at hp
    refine WC.skip ?_
    refine WC.seq (WC.region ?_)
    refine WR.k rfl rfl rfl (OS.assign (v := (.slice none 0 0)) rfl rfl ?_)
    refine WR.nil ?_
    refine WC.seq (WC.region ?_)
    refine WR.k rfl rfl rfl (OS.move (v := (.slice none 0 0)) rfl rfl ?_)
    refine WR.k rfl rfl rfl (OS.move (v := p_) rfl rfl ?_)
    have o6 := o.keep s2 (by decide)
    refine WR.k rfl rfl rfl (OS.nilCheckBx rfl rfl o6 ?_)
    refine WR.k rfl rfl rfl (OS.fieldAddrBx rfl Tryd.runUnderlying77 rfl Tryd.sizeOf36 rfl rfl o6 ?_); intro p_1 a1
    refine WR.k rfl rfl rfl (OS.ld1 (u := sl.val) rfl Tryd.isAgg36 rfl (o6.ldn a1 (sub_of rfl)) ?_)
    have o7 := o1.keep s2 (by decide)
    obtain ⟨xs, hxs, hp⟩ := bind_some hp
    obtain ⟨ha, hxs⟩ := app_some hxs
    refine WR.k rfl rfl rfl (OS.append (E := E32) (c := c_) (i := 40) (xs := ([] : List S_api_Client)) (ys := s.c_) rfl Tryd.underlying36 Tryd.underlying36 (.inl rfl) I32 rfl rfl rfl rfl rfl Ow.nil o7.src (lim_bytes (by decide) ha) (lim_max (b := 56) (by decide) ha) ?_); intro v_ w_1 c_1 o8 s3
    replace o8 : Ow E32 40 w_1 c_1 v_ xs := by rw [hxs]; exact o8
    refine WR.k rfl rfl rfl (OS.assign (v := v_) rfl rfl ?_)
    refine WR.nil ?_
    refine WC.seq (WC.region ?_)
    refine WR.k rfl rfl rfl (OS.move (v := v_) rfl rfl ?_)
    refine WR.k rfl rfl rfl (OS.move (v := vI r_) rfl rfl ?_)
    refine WR.k rfl rfl rfl (OS.move (v := v_) rfl rfl ?_)
    refine WR.k rfl rfl rfl (OS.move (v := vI r_) rfl rfl ?_)
    obtain ⟨e1, he1, hp⟩ := bind_some hp
    obtain ⟨ha1, hb1, hc⟩ := gt_some he1
    refine WR.k rfl rfl rfl (OS.idx rfl Tryd.runUnderlying36 Tryd.sizeOf32 rfl o8.isSl rfl ha1 hb1 ?_); intro p_2 a2
    refine WR.k rfl rfl rfl (OS.fieldAddrA rfl Tryd.runUnderlying32 rfl Tryd.sizeOf30 rfl rfl a2 ?_); intro p_3 a3
    refine WR.k rfl rfl rfl (OS.ld1 (u := vU8 e1.Scopes) rfl Tryd.isAgg30 rfl ((o8.ld a2 hc).sub a3 (sub_of rfl)) ?_)
    refine WR.k rfl rfl rfl (OS.move (v := vU8 scopes) rfl rfl ?_)
    refine WR.k rfl rfl rfl (OS.bin (a := vU8 e1.Scopes) (b := vU8 scopes) rfl rfl rfl b8_and ?_)
    obtain ⟨e2, he2, hp⟩ := bind_some hp
    obtain ⟨ha2, hb2, hc1⟩ := gt_some he2
    refine WR.k rfl rfl rfl (OS.idx rfl Tryd.runUnderlying36 Tryd.sizeOf32 rfl o8.isSl rfl ha2 hb2 ?_); intro p_4 a4
    refine WR.k rfl rfl rfl (OS.fieldAddrA rfl Tryd.runUnderlying32 rfl Tryd.sizeOf30 rfl rfl a4 ?_); intro p_5 a5
    obtain ⟨xs1, hxs1, hp⟩ := bind_some hp
    replace hxs1 := (Option.some.inj hxs1).symm
    refine WR.k0 rfl rfl (OS.stOwnAt (u := vU8 (e1.Scopes &&& scopes)) (vs := [vU8 (e1.Scopes &&& scopes)]) (x' := (⟨e2.Tenant, e2.Name, e2.Redirect, e1.Scopes &&& scopes⟩ : S_api_Client)) rfl Tryd.sizeOf30 rfl rfl rfl o8 a4 a5 hc1 rfl (Nat.le_of_ble_eq_true rfl) (one_of rfl) rfl ?_); intro w_2 o9 s4
    replace o9 : Ow E32 40 w_2 c_1 v_ xs1 := by rw [hxs1]; exact o9
    refine WR.nil ?_
    refine WC.seq (WC.region ?_)
    refine WR.k rfl rfl rfl (OS.move (v := p_) rfl rfl ?_)
    refine WR.k rfl rfl rfl (OS.move (v := v_) rfl rfl ?_)
    have o10 := o6.keep (s3.t s4) (by decide)
    refine WR.k rfl rfl rfl (OS.nilCheckBx rfl rfl o10 ?_)
    refine WR.k rfl rfl rfl (OS.fieldAddrBx rfl Tryd.runUnderlying77 rfl Tryd.sizeOf36 rfl rfl o10 ?_); intro p_6 a6
    obtain ⟨sl2, e3⟩ := isSlv o9.isSl; subst e3
    refine WR.k0 rfl rfl (OS.stBxAt (v := sl2.val) (vs := [sl2.val]) (ws := [sl2.val, sl1.val]) rfl Tryd.sizeOf36 rfl rfl rfl o10 a6 rfl (Nat.le_of_ble_eq_true rfl) (one_of rfl) rfl ?_); intro w_3 o11 s5
    refine WR.nil ?_
    refine WC.seq (WC.region ?_)
    refine WR.k rfl rfl rfl (OS.assign (v := (.slice none 0 0)) rfl rfl ?_)
    refine WR.nil ?_
    refine WC.seq (WC.region ?_)
    refine WR.k rfl rfl rfl (OS.move (v := (.slice none 0 0)) rfl rfl ?_)
    refine WR.k rfl rfl rfl (OS.move (v := p_) rfl rfl ?_)
    refine WR.k rfl rfl rfl (OS.nilCheckBx rfl rfl o11 ?_)
    refine WR.k rfl rfl rfl (OS.fieldAddrBx rfl Tryd.runUnderlying77 rfl Tryd.sizeOf38 rfl rfl o11 ?_); intro p_7 a7
    refine WR.k rfl rfl rfl (OS.ld1 (u := sl1.val) rfl Tryd.isAgg38 rfl (o11.ldn a7 (sub_of rfl)) ?_)
    have o12 := o2.keep (((s2.t s3).t s4).t s5) (by decide)
    obtain ⟨xs2, hxs2, hp⟩ := bind_some hp
    obtain ⟨ha3, hxs2⟩ := app_some hxs2
    refine WR.k rfl rfl rfl (OS.append (E := E35) (c := c_1) (i := 41) (xs := ([] : List S_api_Consent)) (ys := s.a) rfl Tryd.underlying38 Tryd.underlying38 (.inl rfl) I35 rfl rfl rfl rfl rfl Ow.nil o12.src (lim_bytes (by decide) ha3) (lim_max (b := 56) (by decide) ha3) ?_); intro v_1 w_4 c_2 o13 s6
    replace o13 : Ow E35 41 w_4 c_2 v_1 xs2 := by rw [hxs2]; exact o13
    refine WR.k rfl rfl rfl (OS.assign (v := v_1) rfl rfl ?_)
    refine WR.nil ?_
    refine WC.seq ?_
    refine WC.seq (WC.region ?_)
    refine WR.k rfl rfl rfl (OS.assign (v := vI (0 : Int)) rfl rfl ?_)
    refine WR.nil ?_
    obtain ⟨q, hl, hp⟩ := bind_some hp
    obtain ⟨a9, hx⟩ : ∃ z, z = q := ⟨_, rfl⟩; subst hx
    refine WC.blockJ2 (fun f_ w_5 => ∃ (c_3 : Col), f_ 0 = p_ ∧ f_ 10 = vI r_ ∧ f_ 11 = sl2.val ∧ f_ 12 = v_1 ∧ Ow E35 41 w_5 c_3 v_1 a9 ∧ St [41] w_4 c_2 w_5 c_3) ?_ ?_
    · refine WC.loop (fun n => fun f_1 w_6 => ∃ (a8 : List S_api_Consent) (k1 : Int) (c_4 : Col), holdfastref13_Store_Narrow.l1 n tenant name scopes a8 k1 = some a9 ∧ f_1 0 = p_ ∧ f_1 1 = vS tenant ∧ f_1 2 = vS name ∧ f_1 3 = vU8 scopes ∧ f_1 10 = vI r_ ∧ f_1 11 = sl2.val ∧ f_1 12 = v_1 ∧ f_1 13 = vI k1 ∧ Ow E35 41 w_6 c_4 v_1 a8 ∧ St [41] w_4 c_2 w_6 c_4) K ⟨_, _, _, hl, rfl, rfl, rfl, rfl, rfl, rfl, rfl, rfl, o13, St.refl.mono (by decide)⟩ ?_
      rintro n f_1 w_6 ⟨a8, k1, c_4, hl, h, h1, h2, h3, h4, h5, h6, h7, o14, s7⟩
      cases n with
      | zero => exact absurd hl (by simp [holdfastref13_Store_Narrow.l1])
      | succ k =>
      rw [holdfastref13_Store_Narrow.l1] at hl
      refine WC.seq ?_
      refine WC.seq (WC.region ?_)
      refine WR.k rfl rfl rfl (OS.move (v := vI k1) rfl h7 ?_)
      refine WR.k rfl rfl rfl (OS.move (v := v_1) rfl h6 ?_)
      refine WR.k rfl rfl rfl (OS.lenSl rfl Tryd.runUnderlying38 rfl o14.isSl ?_)
      refine WR.k rfl rfl rfl (OS.bin (a := vI k1) (b := vI (a8.length : Int)) rfl rfl rfl bI_lss ?_)
      refine WR.nil ?_
      refine WC.cond (decide (k1 < (a8.length : Int))) rfl (fun hb3 => ?_) (fun hb3 => ?_)
      · rw [if_pos hb3] at hl
        refine WC.skip ?_
        refine WC.seq ?_
        refine WC.block ?_
        refine WC.seq (WC.region ?_)
        refine WR.k rfl rfl rfl (OS.move (v := v_1) rfl h6 ?_)
        refine WR.k rfl rfl rfl (OS.move (v := vI k1) rfl h7 ?_)
        obtain ⟨e4, he4, hl⟩ := bind_some hl
        obtain ⟨ha4, hb4, hc2⟩ := gt_some he4
        refine WR.k rfl rfl rfl (OS.idx rfl Tryd.runUnderlying38 Tryd.sizeOf35 rfl o14.isSl rfl ha4 hb4 ?_); intro p_8 a10
        refine WR.k rfl rfl rfl (OS.fieldAddrA rfl Tryd.runUnderlying35 rfl Tryd.sizeOf26 rfl rfl a10 ?_); intro p_9 a11
        refine WR.k rfl rfl rfl (OS.fieldAddrP rfl Tryd.runUnderlying26 rfl Tryd.sizeOf9 rfl rfl a11 ?_); intro p_10 a12
        refine WR.k rfl rfl rfl (OS.ld1 (u := vS e4.Owner.Tenant) rfl Tryd.isAgg9 rfl ((o14.ld a10 hc2).sub a12 (sub_of rfl)) ?_)
        refine WR.k rfl rfl rfl (OS.move (v := vS tenant) rfl h1 ?_)
        refine WR.k rfl rfl rfl (OS.bin (a := vS e4.Owner.Tenant) (b := vS tenant) rfl rfl rfl bS_eql ?_)
        refine WR.k rfl rfl rfl (OS.move (v := vB (decide (e4.Owner.Tenant = tenant))) rfl rfl ?_)
        obtain ⟨b, ht, hl⟩ := bind_some hl
        refine WR.cut2 8 (fun f_2 w_7 => f_2 0 = p_ ∧ f_2 1 = vS tenant ∧ f_2 2 = vS name ∧ f_2 3 = vU8 scopes ∧ f_2 10 = vI r_ ∧ f_2 11 = sl2.val ∧ f_2 12 = v_1 ∧ f_2 13 = vI k1 ∧ f_2 71 = vB b ∧ w_6 = w_7) ?_ ?_
        · rcases Bool.eq_false_or_eq_true (decide (e4.Owner.Tenant = tenant)) with hg | hg
          · rw [if_pos hg] at ht
            refine WR.kT rfl rfl (vb_t rfl hg) rfl rfl (OS.move (v := v_1) rfl h6 ?_)
            refine WR.kT rfl rfl (vb_t rfl hg) rfl rfl (OS.move (v := vI k1) rfl h7 ?_)
            obtain ⟨e5, he5, ht⟩ := bind_some ht
            obtain ⟨ha5, hb5, hc3⟩ := gt_some he5
            refine WR.kT rfl rfl (vb_t rfl hg) rfl rfl (OS.idx rfl Tryd.runUnderlying38 Tryd.sizeOf35 rfl o14.isSl rfl ha5 hb5 ?_); intro p_11 a13
            refine WR.kT rfl rfl (vb_t rfl hg) rfl rfl (OS.fieldAddrA rfl Tryd.runUnderlying35 rfl Tryd.sizeOf9 rfl rfl a13 ?_); intro p_12 a14
            refine WR.kT rfl rfl (vb_t rfl hg) rfl rfl (OS.ld1 (u := vS e5.Client) rfl Tryd.isAgg9 rfl ((o14.ld a13 hc3).sub a14 (sub_of rfl)) ?_)
            refine WR.kT rfl rfl (vb_t rfl hg) rfl rfl (OS.move (v := vS name) rfl h2 ?_)
            refine WR.kT rfl rfl (vb_t rfl hg) rfl rfl (OS.bin (a := vS e5.Client) (b := vS name) rfl rfl rfl bS_eql ?_)
            refine WR.k rfl rfl rfl (OS.pickT rfl (vb_t rfl hg) rfl ?_)
            cases ht
            refine WR.nil ?_
            exact ⟨h, h1, h2, h3, h4, h5, h6, h7, rfl, rfl⟩
          · rw [if_neg (nt hg)] at ht
            refine WR.gF rfl rfl (vb_f rfl hg) rfl rfl ?_
            refine WR.gF rfl rfl (vb_f rfl hg) rfl rfl ?_
            refine WR.gF rfl rfl (vb_f rfl hg) rfl rfl ?_
            refine WR.gF rfl rfl (vb_f rfl hg) rfl rfl ?_
            refine WR.gF rfl rfl (vb_f rfl hg) rfl rfl ?_
            refine WR.gF rfl rfl (vb_f rfl hg) rfl rfl ?_
            refine WR.gF rfl rfl (vb_f rfl hg) rfl rfl ?_
            refine WR.k rfl rfl rfl (OS.pickF rfl (vb_f rfl hg) rfl ?_)
            cases ht
            refine WR.nil ?_
            exact ⟨h, h1, h2, h3, h4, h5, h6, h7, rfl, rfl⟩
        · rintro f_2 _ ⟨h8, h9, h10, h11, h12, h13, h14, h15, h16, rfl⟩
          refine WR.nil ?_
          refine WC.cond (b) h16 (fun hb6 => ?_) (fun hb6 => ?_)
          · rw [if_pos hb6] at hl
            refine WC.region ?_
            refine WR.k rfl rfl rfl (OS.move (v := v_1) rfl h14 ?_)
            refine WR.k rfl rfl rfl (OS.move (v := vI k1) rfl h15 ?_)
            refine WR.k rfl rfl rfl (OS.move (v := v_1) rfl h14 ?_)
            refine WR.k rfl rfl rfl (OS.move (v := vI k1) rfl h15 ?_)
            obtain ⟨e6, he6, hl⟩ := bind_some hl
            obtain ⟨ha6, hb7, hc4⟩ := gt_some he6
            refine WR.k rfl rfl rfl (OS.idx rfl Tryd.runUnderlying38 Tryd.sizeOf35 rfl o14.isSl rfl ha6 hb7 ?_); intro p_13 a15
            refine WR.k rfl rfl rfl (OS.fieldAddrA rfl Tryd.runUnderlying35 rfl Tryd.sizeOf30 rfl rfl a15 ?_); intro p_14 a16
            refine WR.k rfl rfl rfl (OS.ld1 (u := vU8 e6.Scopes) rfl Tryd.isAgg30 rfl ((o14.ld a15 hc4).sub a16 (sub_of rfl)) ?_)
            refine WR.k rfl rfl rfl (OS.move (v := vU8 scopes) rfl h11 ?_)
            refine WR.k rfl rfl rfl (OS.bin (a := vU8 e6.Scopes) (b := vU8 scopes) rfl rfl rfl b8_and ?_)
            obtain ⟨e7, he7, hl⟩ := bind_some hl
            obtain ⟨ha7, hb8, hc5⟩ := gt_some he7
            refine WR.k rfl rfl rfl (OS.idx rfl Tryd.runUnderlying38 Tryd.sizeOf35 rfl o14.isSl rfl ha7 hb8 ?_); intro p_15 a17
            refine WR.k rfl rfl rfl (OS.fieldAddrA rfl Tryd.runUnderlying35 rfl Tryd.sizeOf30 rfl rfl a17 ?_); intro p_16 a18
            obtain ⟨a19, ha19, hl⟩ := bind_some hl
            replace ha19 := (Option.some.inj ha19).symm
            refine WR.k0 rfl rfl (OS.stOwnAt (u := vU8 (e6.Scopes &&& scopes)) (vs := [vU8 (e6.Scopes &&& scopes)]) (x' := (⟨e7.Owner, e7.Client, e6.Scopes &&& scopes⟩ : S_api_Consent)) rfl Tryd.sizeOf30 rfl rfl rfl o14 a17 a18 hc5 rfl (Nat.le_of_ble_eq_true rfl) (one_of rfl) rfl ?_); intro w_8 o16 s8
            replace o16 : Ow E35 41 w_8 c_4 v_1 a19 := by rw [ha19]; exact o16
            refine WR.nil ?_
            refine WC.region ?_
            refine WR.k rfl rfl rfl (OS.move (v := vI k1) rfl h15 ?_)
            refine WR.k rfl rfl rfl (OS.bin (a := vI k1) (b := vI (1 : Int)) rfl rfl rfl bI_add ?_)
            refine WR.k rfl rfl rfl (OS.assign (v := vI (W (k1 + (1 : Int)))) rfl rfl ?_)
            refine WR.nil ?_
            exact ⟨k, by omega, _, _, _, hl, h8, h9, h10, h11, h12, h13, h14, rfl, o16, (s7.t s8).mono (by decide)⟩
          · rw [if_neg (nt hb6)] at hl
            refine WC.skip ?_
            refine WC.region ?_
            refine WR.k rfl rfl rfl (OS.move (v := vI k1) rfl h15 ?_)
            refine WR.k rfl rfl rfl (OS.bin (a := vI k1) (b := vI (1 : Int)) rfl rfl rfl bI_add ?_)
            refine WR.k rfl rfl rfl (OS.assign (v := vI (W (k1 + (1 : Int)))) rfl rfl ?_)
            refine WR.nil ?_
            exact ⟨k, by omega, _, _, _, hl, h8, h9, h10, h11, h12, h13, h14, rfl, o14, s7.mono (by decide)⟩
      · rw [if_neg (nt hb3)] at hl
        refine WC.exit ?_
        cases hl
        exact ⟨_, h, h4, h5, h6, o14, s7.mono (by decide)⟩
    · rintro f_ w_5 ⟨c_3, h17, h18, h19, h20, o15, s9⟩
      refine WC.seq (WC.region ?_)
      refine WR.k rfl rfl rfl (OS.move (v := p_) rfl h17 ?_)
      refine WR.k rfl rfl rfl (OS.move (v := v_1) rfl h20 ?_)
      have o17 := o11.keep (s6.t s9) (by decide)
      refine WR.k rfl rfl rfl (OS.nilCheckBx rfl rfl o17 ?_)
      refine WR.k rfl rfl rfl (OS.fieldAddrBx rfl Tryd.runUnderlying77 rfl Tryd.sizeOf38 rfl rfl o17 ?_); intro p_17 a20
      obtain ⟨sl3, e8⟩ := isSlv o15.isSl; subst e8
      refine WR.k0 rfl rfl (OS.stBxAt (v := sl3.val) (vs := [sl3.val]) (ws := [sl2.val, sl3.val]) rfl Tryd.sizeOf38 rfl rfl rfl o17 a20 rfl (Nat.le_of_ble_eq_true rfl) (one_of rfl) rfl ?_); intro w_9 o18 s10
      refine WR.nil ?_
      refine WC.seq (WC.region ?_)
      refine WR.k rfl rfl rfl (OS.move (v := sl2.val) rfl h19 ?_)
      refine WR.k rfl rfl rfl (OS.move (v := vI r_) rfl h18 ?_)
      have o19 := o9.keep (((s5.t s6).t s9).t s10) (by decide)
      obtain ⟨e9, he9, hp⟩ := bind_some hp
      obtain ⟨ha8, hb9, hc6⟩ := gt_some he9
      refine WR.k rfl rfl rfl (OS.idx rfl Tryd.runUnderlying36 Tryd.sizeOf32 rfl o19.isSl rfl ha8 hb9 ?_); intro p_18 a21
      refine WR.k rfl rfl rfl (OS.fieldAddrA rfl Tryd.runUnderlying32 rfl Tryd.sizeOf30 rfl rfl a21 ?_); intro p_19 a22
      refine WR.k rfl rfl rfl (OS.ld1 (u := vU8 e9.Scopes) rfl Tryd.isAgg30 rfl ((o19.ld a21 hc6).sub a22 (sub_of rfl)) ?_)
      refine WR.k rfl rfl rfl (OS.assign (v := vU8 e9.Scopes) rfl rfl ?_)
      refine WR.k rfl rfl rfl (OS.assign (v := vI (0 : Int)) rfl rfl ?_)
      refine WR.nil ?_
      refine WC.ret ?_
      repeat first | refine thenQ_ret ?_ | refine blkQ_ret ?_
      cases hp
      obtain ⟨c_6, s11, o20⟩ := o19.recol 1
      have o22 := o15.keep (s10.t s11) (by decide)
      obtain ⟨c_7, s12, o21⟩ := o22.recol 1
      have o23 := o18.keep (s11.t s12) (by decide)
      have o24 := o20.keep s12 (by decide)
      exact fnQ.ls (fn := Tryd.f31) (rs := [.tmp 8, .tmp 9]) (vs := [vU8 e9.Scopes, vI (0 : Int)]) rfl ⟨(.inl ⟨_, rfl, rfl⟩), (.inl ⟨_, rfl, rfl⟩), trivial⟩ ⟨_, _, _, rfl, ((((((((s2.t s3).t s4).t s5).t s6).t s9).t s10).t s11).t s12).leave hcw (by decide), o23, o24.vw, o21.vw⟩ (by simp)

-- (*holdfast/grant.Store).Drop$1
set_option maxHeartbeats 4000000 in
theorem W38 (K : Nat) (w0 : World) (cw : Col) (hcw : ∀ b, cw b < 40) {u : S_grant_use} {x_ : UInt8} {x2 : List UInt8} {x3 : List UInt8} {r : Bool} (hp : grant_Store_Drop_1 K u x_ x2 x3 = some r) {i : Nat} (hi : i ≤ 1) {p_ : Value} (o : Bx i w0 cw p_ [vS x2]) {i1 : Nat} (hi1 : i1 ≤ 1) {p_1 : Value} (o1 : Bx i1 w0 cw p_1 [vS x3]) :
    Calls Tryd.prog 38 [.agg (E67.e u).toArray, vU8 x_, p_, p_1].toArray w0 fun e w1 => ∃ (d : Col), e = .returned (vB r) ∧ St [] w0 cw w1 d := by
  refine calls_intro Tryd.func38 rfl Tryd.ntmps38 rfl ?_
  unfold grant_Store_Drop_1 at hp
  refine WC.seq (WC.region ?_)
  refine WR.k rfl rfl rfl (OS.boxBx (us := [vS u.Owner.Tenant, vS u.Owner.User, vS u.client]) (c := cw) 40 rfl rfl rfl ?_); intro p_2 w_ c_ o2 s
  refine WR.k rfl rfl rfl (OS.assign (v := vB false) rfl rfl ?_)
  refine WR.nil ?_
  refine WC.seq (WC.region ?_)
  refine WR.k rfl rfl rfl (OS.fieldAddrBx rfl Tryd.runUnderlying67 rfl Tryd.sizeOf26 rfl rfl o2 ?_); intro p_3 a1
  refine WR.k rfl rfl rfl (OS.fieldAddrP rfl Tryd.runUnderlying26 rfl Tryd.sizeOf9 rfl rfl a1 ?_); intro p_4 a2
  refine WR.k rfl rfl rfl (OS.ld1 (u := vS u.Owner.Tenant) rfl Tryd.isAgg9 rfl (o2.ldn a2 (sub_of rfl)) ?_)
  have o3 := o.keep s (nin hi (by decide))
  refine WR.k rfl rfl rfl (OS.ld1 (u := vS x2) rfl Tryd.isAgg9 rfl o3.ldAll ?_)
  refine WR.k rfl rfl rfl (OS.bin (a := vS u.Owner.Tenant) (b := vS x2) rfl rfl rfl bS_eql ?_)
  refine WR.k rfl rfl rfl (OS.move (v := vB (decide (u.Owner.Tenant = x2))) rfl rfl ?_)
  refine WR.cut2 5 (fun f_ w_1 => f_ 17 = vB ((decide (u.Owner.Tenant = x2)) && (decide (u.client = x3))) ∧ w_ = w_1) ?_ ?_
  · rcases Bool.eq_false_or_eq_true (decide (u.Owner.Tenant = x2)) with hg | hg
    · refine WR.kT rfl rfl (vb_t rfl hg) rfl rfl (OS.fieldAddrBx rfl Tryd.runUnderlying67 rfl Tryd.sizeOf9 rfl rfl o2 ?_); intro p_5 a3
      refine WR.kT rfl rfl (vb_t rfl hg) rfl rfl (OS.ld1 (u := vS u.client) rfl Tryd.isAgg9 rfl (o2.ldn a3 (sub_of rfl)) ?_)
      have o4 := o1.keep s (nin hi1 (by decide))
      refine WR.kT rfl rfl (vb_t rfl hg) rfl rfl (OS.ld1 (u := vS x3) rfl Tryd.isAgg9 rfl o4.ldAll ?_)
      refine WR.kT rfl rfl (vb_t rfl hg) rfl rfl (OS.bin (a := vS u.client) (b := vS x3) rfl rfl rfl bS_eql ?_)
      refine WR.k rfl rfl rfl (OS.pickT rfl (vb_t rfl hg) rfl ?_)
      refine WR.nil ?_
      exact ⟨(and_t hg), rfl⟩
    · refine WR.gF rfl rfl (vb_f rfl hg) rfl rfl ?_
      refine WR.gF rfl rfl (vb_f rfl hg) rfl rfl ?_
      refine WR.gF rfl rfl (vb_f rfl hg) rfl rfl ?_
      refine WR.gF rfl rfl (vb_f rfl hg) rfl rfl ?_
      refine WR.k rfl rfl rfl (OS.pickF rfl (vb_f rfl hg) rfl ?_)
      refine WR.nil ?_
      exact ⟨(and_f hg), rfl⟩
  · rintro f_ _ ⟨h, rfl⟩
    refine WR.k rfl rfl rfl (OS.assign (v := vB ((decide (u.Owner.Tenant = x2)) && (decide (u.client = x3)))) rfl h ?_)
    refine WR.nil ?_
    refine WC.ret ?_
    repeat first | refine thenQ_ret ?_ | refine blkQ_ret ?_
    cases hp
    exact fnQ.l1 (fn := Tryd.f38) rfl (.inl ⟨_, rfl, rfl⟩) ⟨_, rfl, s.leave hcw (by decide)⟩

-- maps.DeleteFunc[map[holdfast/grant.use]holdfast/api.Scopes,holdfast/grant.use,holdfast/api.Scopes]
set_option maxHeartbeats 4000000 in
theorem W28f38 (K : Nat) (w0 : World) (cw : Col) (hcw : ∀ b, cw b < 40) {m : List (S_grant_use × UInt8)} {cap : List UInt8} {cap1 : List UInt8} {r : (List (S_grant_use × UInt8))} (hp : api_Scopes_f38 K m cap cap1 = some r) {b : Nat} (o : Mp kv67 (VR.flat vv30) 3 w0 cw (.map (some b)) m) {i : Nat} (hi : i ≤ 1) {p_ : Value} (o1 : Bx i w0 cw p_ [vS cap]) {i1 : Nat} (hi1 : i1 ≤ 1) {p_1 : Value} (o2 : Bx i1 w0 cw p_1 [vS cap1]) :
    Calls Tryd.prog 28 [(.map (some b)), .func (.func 38) #[] [p_, p_1].toArray].toArray w0 fun e w1 => ∃ (d : Col), e = .returned (.tuple #[]) ∧ St [3] w0 cw w1 d ∧ Mp kv67 (VR.flat vv30) 3 w1 d (.map (some b)) r := by
  refine calls_intro Tryd.func28 rfl Tryd.ntmps28 rfl ?_
  unfold api_Scopes_f38 at hp
  refine WC.seq (WC.region ?_)
  refine WR.k rfl rfl rfl (OS.move (v := (.map (some b))) rfl rfl ?_)
  refine WR.k rfl rfl rfl (OS.range (c := cw) 40 rfl Tryd.runUnderlying57 rfl o ?_); intro p_2 w_ c_ o3 s
  refine WR.nil ?_
  obtain ⟨kf, hkf, hM⟩ := mrngK_name hp
  replace hM : Mqk (api_Scopes_f38.m1 K cap cap1 : S_grant_use × UInt8 → (List (S_grant_use × UInt8)) → Option (Lr Unit (List (S_grant_use × UInt8)))) m m kf := hM
  refine WC.blockJ2 (fun f_ w_1 => ∃ (m1 : List (S_grant_use × UInt8)) (c_1 : Col), kf (.go m1) ∧ f_ 0 = (.map (some b)) ∧ Mp kv67 (VR.flat vv30) 3 w_1 c_1 (.map (some b)) m1 ∧ St [3, 40, 41, 42, 43, 44] w_ c_ w_1 c_1) ?_ ?_
  · refine WC.loop (fun n => fun f_1 w_2 => ∃ (m1 : List (S_grant_use × UInt8)) (left : List (S_grant_use × UInt8)) (c_2 : Col), Mqk (api_Scopes_f38.m1 K cap cap1 : S_grant_use × UInt8 → (List (S_grant_use × UInt8)) → Option (Lr Unit (List (S_grant_use × UInt8)))) left m1 kf ∧ n = left.length ∧ f_1 0 = (.map (some b)) ∧ f_1 1 = .func (.func 38) #[] [p_, p_1].toArray ∧ f_1 7 = p_2 ∧ MpI kv67 (VR.flat vv30) 3 40 w_2 c_2 (.map (some b)) p_2 m1 left ∧ St [3, 40, 41, 42, 43, 44] w_ c_ w_2 c_2) m.length ⟨_, _, _, hM, rfl, rfl, rfl, rfl, o3, St.refl.mono (by decide)⟩ ?_
    rintro n f_1 w_2 ⟨m1, left, c_2, hM1, hn, h, h1, h2, o4, s1⟩
    refine WC.seq (WC.region ?_)
    refine WR.k rfl rfl rfl (OS.next rfl K67 h2 o4 (by decide) (by decide) (fun hl => ?_) (fun l k1 u l1 v_ w_3 hsp hnk hu o5 o6 s2 => ?_))
    · refine WR.k rfl rfl rfl (OS.extract (v := vB false) rfl rfl rfl ?_)
      refine WR.nil ?_
      refine WC.seq ?_
      refine WC.condF rfl ?_
      refine WC.exit ?_
      have o7 := o4.mp
      exact ⟨_, _, hM1.done hl, h, o7, s1.mono (by decide)⟩
    · obtain rfl := hu
      obtain ⟨b1, hb, hgo, hret⟩ := hM1.step hsp
      unfold api_Scopes_f38.m1 at hb
      dsimp only at hb
      refine WR.k rfl rfl rfl (OS.extract (v := vB true) rfl rfl rfl ?_)
      refine WR.nil ?_
      refine WC.seq ?_
      refine WC.condT rfl ?_
      refine WC.skip ?_
      refine WC.block ?_
      refine WC.seq (WC.region ?_)
      refine WR.k rfl rfl rfl (OS.entry rfl h2 o6 ?_)
      refine WR.k rfl rfl rfl (OS.extract (v := .agg (E67.e k1).toArray) rfl rfl rfl ?_)
      refine WR.k rfl rfl rfl (OS.extract (v := vU8 u) rfl rfl rfl ?_)
      refine WR.k rfl rfl rfl (OS.allocBx (us := [vS ([] : List UInt8), vS ([] : List UInt8), vS ([] : List UInt8)]) (c := c_2) 44 rfl Tryd.zeroValue67 rfl ?_); intro p_3 w_4 c_3 o8 s3
      refine WR.k0 rfl rfl (OS.stBxAll (v := .agg (E67.e k1).toArray) (ws := [vS k1.Owner.Tenant, vS k1.Owner.User, vS k1.client]) rfl Tryd.sizeOf67 rfl rfl rfl o8 rfl rfl (one_of rfl) ?_); intro w_5 o9 s4
      refine WR.k rfl rfl rfl (OS.assign (v := vU8 u) rfl rfl ?_)
      refine WR.nil ?_
      refine WC.seq (WC.region ?_)
      refine WR.k rfl rfl rfl (OS.move (v := .func (.func 38) #[] [p_, p_1].toArray) rfl h1 ?_)
      refine WR.k rfl rfl rfl (OS.ldN (us := [vS k1.Owner.Tenant, vS k1.Owner.User, vS k1.client]) rfl Tryd.isAgg67 Tryd.sizeOf67 rfl o9.ldAll rfl ?_)
      refine WR.k rfl rfl rfl (OS.move (v := vU8 u) rfl rfl ?_)
      have o10 := o1.keep ((((s.t s1).t s2).t s3).t s4) (nin hi (by decide))
      have o11 := o2.keep ((((s.t s1).t s2).t s3).t s4) (nin hi1 (by decide))
      obtain ⟨r_, hr_, hb⟩ := bind_some hb
      refine WR.k rfl rfl rfl (OS.callClo (vs := [.agg (E67.e k1).toArray, vU8 u]) (cs := [p_, p_1]) rfl rfl ⟨rfl, rfl, trivial⟩ Tryd.call38 ((W38 (i := i) (i1 := i1) K w_5 (rcc [] c_3) (rcc_lt c_3 rfl) hr_ hi (o10.tr (rc_tr (rc_low hi rfl))) hi1 (o11.tr (rc_tr (rc_low hi1 rfl)))).mono ?_))
      rintro _ w_6 ⟨d1, rfl, s5⟩
      refine ⟨_, rfl, ?_⟩
      obtain ⟨c_4, s6⟩ : ∃ c_4, St [] w_5 c_3 w_6 c_4 := ⟨_, s5.mg2 (sh := 40000) rfl⟩
      refine WR.nil ?_
      refine WC.cond (r_) rfl (fun hb1 => ?_) (fun hb1 => ?_)
      · rw [if_pos hb1] at hb
        refine WC.region ?_
        refine WR.k rfl rfl rfl (OS.move (v := (.map (some b))) rfl h ?_)
        have o12 := o9.keep s6 (by decide)
        refine WR.k rfl rfl rfl (OS.ldN (us := [vS k1.Owner.Tenant, vS k1.Owner.User, vS k1.client]) rfl Tryd.isAgg67 Tryd.sizeOf67 rfl o12.ldAll rfl ?_)
        have o13 := o5.keep ((s3.t s4).t s6) (by decide) (by decide) (by decide)
        obtain ⟨m2, hm2, hb⟩ := bind_some hb
        replace hm2 := (Option.some.inj hm2).symm
        refine WR.k0 rfl rfl (OS.mapDelI (a := k1) rfl K67 Tryd.underlying57 rfl rfl o13 hnk (by decide) (by decide) ?_); intro w_7 o14 s7
        replace o14 : MpI kv67 (VR.flat vv30) 3 40 w_7 c_4 (.map (some b)) p_2 m2 (l ++ l1) := by rw [hm2]; exact o14
        refine WR.nil ?_
        cases hb
        exact ⟨(l ++ l1).length, (by rw [hn, hsp]; simp only [List.length_append, List.length_cons]; omega), ⟨_, _, _, hgo _ rfl, rfl, h, h1, h2, o14, (((((s1.t s2).t s3).t s4).t s6).t s7).mono (by decide)⟩⟩
      · rw [if_neg (nt hb1)] at hb
        refine WC.skip ?_
        cases hb
        have o15 := o5.keep ((s3.t s4).t s6) (by decide) (by decide) (by decide)
        exact ⟨(l ++ l1).length, (by rw [hn, hsp]; simp only [List.length_append, List.length_cons]; omega), ⟨_, _, _, hgo _ rfl, rfl, h, h1, h2, o15, ((((s1.t s2).t s3).t s4).t s6).mono (by decide)⟩⟩
  · rintro f_ w_1 ⟨m1, c_1, hq, h3, o4, s8⟩
    replace hp := hkf _ hq; simp only [lrc] at hp
    cases hp
    exact fnQ.lsN (fn := Tryd.f28) rfl ⟨_, rfl, (s.t s8).leave hcw (by decide), o4⟩

-- (*holdfast/grant.Store).Drop
set_option maxHeartbeats 4000000 in
theorem W18 (K : Nat) (w0 : World) (cw : Col) (hcw : ∀ b, cw b < 40) {s : S_grant_Store} {tenant : List UInt8} {client : List UInt8} {r : Int × S_grant_Store} (hp : grant_Store_Drop K s tenant client = some r) {b : Nat} {b1 : Nat} {p_ : Value} (o : Bx 3 w0 cw p_ [(.map (some b)), (.map (some b1))]) (o1 : Mp kv64 (VR.flat vv32) 4 w0 cw (.map (some b)) s.clients) (o2 : Mp kv67 (VR.flat vv30) 5 w0 cw (.map (some b1)) s.consents) :
    Calls Tryd.prog 18 [p_, vS tenant, vS client].toArray w0 fun e w1 => ∃ (b2 : Nat) (b3 : Nat) (d : Col), e = .returned (vI r.1) ∧ St [3, 4, 5] w0 cw w1 d ∧ Bx 3 w1 d p_ [(.map (some b2)), (.map (some b3))] ∧ Mp kv64 (VR.flat vv32) 4 w1 d (.map (some b2)) r.2.clients ∧ Mp kv67 (VR.flat vv30) 5 w1 d (.map (some b3)) r.2.consents := by
  refine calls_intro Tryd.func18 rfl Tryd.ntmps18 rfl ?_
  unfold grant_Store_Drop at hp
  refine WC.seq (WC.region ?_)
  refine WR.k rfl rfl rfl (OS.boxBx (us := [vS tenant]) (c := cw) 40 rfl rfl rfl ?_); intro p_1 w_ c_ o3 s1
  refine WR.k rfl rfl rfl (OS.boxBx (us := [vS client]) (c := c_) 41 rfl rfl rfl ?_); intro p_2 w_1 c_1 o4 s2
  refine WR.k rfl rfl rfl (OS.assign (v := vI (0 : Int)) rfl rfl ?_)
  refine WR.nil ?_
  refine WC.seq (WC.region ?_)
  refine WR.k rfl rfl rfl (OS.move (v := p_) rfl rfl ?_)
  have o5 := o3.keep s2 (by decide)
  refine WR.k rfl rfl rfl (OS.ld1 (u := vS tenant) rfl Tryd.isAgg9 rfl o5.ldAll ?_)
  refine WR.k rfl rfl rfl (OS.ld1 (u := vS client) rfl Tryd.isAgg9 rfl o4.ldAll ?_)
  have o6 := o.keep (s1.t s2) (by decide)
  have o7 := o1.keep (s1.t s2) (by decide) (by decide)
  have o8 := o2.keep (s1.t s2) (by decide) (by decide)
  obtain ⟨r_, hr_, hp⟩ := bind_some hp
  refine WR.k rfl rfl rfl (OS.callF (vs := [p_, vS tenant, vS client]) rfl ⟨rfl, rfl, rfl, trivial⟩ Tryd.call22 ((W22 K w_1 (rcc [3, 4, 5] c_1) (rcc_lt c_1 rfl) hr_ (o6.tr (rc_tr (by decide))) (o7.tr (rc_tr (by decide))) (o8.tr (rc_tr (by decide)))).mono ?_))
  rintro _ w_2 ⟨d1, rfl, s3⟩
  refine ⟨_, rfl, ?_⟩
  obtain ⟨c_2, s4⟩ : ∃ c_2, St [] w_1 c_1 w_2 c_2 := ⟨_, s3.mg2 (sh := 10000) rfl⟩
  refine WR.k rfl rfl rfl (OS.move (v := .tuple #[.agg (E32.e r_.1).toArray, vI r_.2]) rfl rfl ?_)
  refine WR.k rfl rfl rfl (OS.extract (v := .agg (E32.e r_.1).toArray) rfl rfl rfl ?_)
  refine WR.k rfl rfl rfl (OS.extract (v := vI r_.2) rfl rfl rfl ?_)
  refine WR.k rfl rfl rfl (OS.allocBx (us := [vS ([] : List UInt8), vS ([] : List UInt8), vS ([] : List UInt8), vU8 (0 : UInt8)]) (c := c_2) 42 rfl Tryd.zeroValue32 rfl ?_); intro p_3 w_3 c_3 o9 s5
  refine WR.k0 rfl rfl (OS.stBxAll (v := .agg (E32.e r_.1).toArray) (ws := [vS r_.1.Tenant, vS r_.1.Name, vS r_.1.Redirect, vU8 r_.1.Scopes]) rfl Tryd.sizeOf32 rfl rfl rfl o9 rfl rfl (one_of rfl) ?_); intro w_4 o10 s6
  refine WR.k rfl rfl rfl (OS.assign (v := vI r_.2) rfl rfl ?_)
  refine WR.nil ?_
  refine WC.seq ?_
  refine WC.seq (WC.region ?_)
  refine WR.k rfl rfl rfl (OS.move (v := vI r_.2) rfl rfl ?_)
  refine WR.k rfl rfl rfl (OS.bin (a := vI r_.2) (b := vI (0 : Int)) rfl rfl rfl bI_eql ?_)
  refine WR.nil ?_
  refine WC.endJ (fun f_ w_5 => ∃ (x : List (S_grant_name × S_api_Client)) (x1 : List (S_grant_use × UInt8)) (c_4 : Col), grant_Store_Drop.j1 K r_ x x1 = some r ∧ f_ 0 = p_ ∧ f_ 8 = vI r_.2 ∧ Mp kv64 (VR.flat vv32) 4 w_5 c_4 (.map (some b)) x ∧ Mp kv67 (VR.flat vv30) 5 w_5 c_4 (.map (some b1)) x1 ∧ Bx 3 w_5 c_4 p_ [(.map (some b)), (.map (some b1))] ∧ St [4, 5] w_4 c_3 w_5 c_4) ?_ ?_
  · refine WC.cond (decide (r_.2 = (0 : Int))) rfl (fun hb => ?_) (fun hb => ?_)
    · rw [if_pos hb] at hp
      have o14 := o6.keep ((s4.t s5).t s6) (by decide)
      have o15 := o5.keep ((s4.t s5).t s6) (by decide)
      have o16 := o4.keep ((s4.t s5).t s6) (by decide)
      refine WC.seq (WC.draw3 (c := c_3) ⟨7, [[], [], [], [], [], [], []], [[], [], [], [], [], [], []], [], [[], [0], [1], [2], [], [], [4, 5]], [3, 6]⟩ [[], [], [], [], [], [], []] [[18], [19], [20], [21], [22], [23], [24]] [fun yf yw yc => (yf 18) = p_, fun yf yw yc => (yf 19) = p_, fun yf yw yc => AdrP p_ 0 1 (yf 20), fun yf yw yc => (yf 21) = (.map (some b)), fun yf yw yc => (yf 22) = vS tenant, fun yf yw yc => (yf 23) = vS client, fun yf yw yc => (yf 24) = .agg (E64.e (⟨tenant, client⟩ : S_grant_name)).toArray] hmix (by kernel_rfl) (by kernel_rfl) ⟨?_, ?_, ?_, ?_, ?_, ?_, ?_, trivial⟩ ⟨fun y1 y2 yw yc yI yw1 yc1 yh ye ys yk => by obtain ⟨ye0, -⟩ := ye; show (y2 18) = p_; rw [ye0]; exact yh, fun y1 y2 yw yc yI yw1 yc1 yh ye ys yk => by obtain ⟨ye0, -⟩ := ye; show (y2 19) = p_; rw [ye0]; exact yh, fun y1 y2 yw yc yI yw1 yc1 yh ye ys yk => by obtain ⟨ye0, -⟩ := ye; show AdrP p_ 0 1 (y2 20); rw [ye0]; exact yh, fun y1 y2 yw yc yI yw1 yc1 yh ye ys yk => by obtain ⟨ye0, -⟩ := ye; show (y2 21) = (.map (some b)); rw [ye0]; exact yh, fun y1 y2 yw yc yI yw1 yc1 yh ye ys yk => by obtain ⟨ye0, -⟩ := ye; show (y2 22) = vS tenant; rw [ye0]; exact yh, fun y1 y2 yw yc yI yw1 yc1 yh ye ys yk => by obtain ⟨ye0, -⟩ := ye; show (y2 23) = vS client; rw [ye0]; exact yh, fun y1 y2 yw yc yI yw1 yc1 yh ye ys yk => by obtain ⟨ye0, -⟩ := ye; show (y2 24) = .agg (E64.e (⟨tenant, client⟩ : S_grant_name)).toArray; rw [ye0]; exact yh, trivial⟩ ?_)
      · rintro f_1 w_6 c_5 hB hs ⟨-⟩ o ho; obtain rfl : _ = o := Option.some.inj ho
        exact OS.move (v := p_) rfl ((hB 0 (by kernel_rfl)).trans (show _ = p_ from rfl)) ⟨_, St.refl, rfl⟩
      · rintro f_2 w_7 c_6 hB1 hs1 ⟨g, -⟩ o ho; obtain rfl : _ = o := Option.some.inj ho
        replace g : (f_2 18) = p_ := g
        have o17 := o6.keep (((s4.t s5).t s6).t hs1) (by decide)
        exact OS.nilCheckBx rfl g o17 ⟨_, St.refl, rfl⟩
      · rintro f_3 w_8 c_7 hB2 hs2 ⟨g1, -⟩ o ho; obtain rfl : _ = o := Option.some.inj ho
        replace g1 : (f_3 19) = p_ := g1
        have o18 := o14.keep hs2 (by decide)
        exact OS.fieldAddrBx rfl Tryd.runUnderlying59 rfl Tryd.sizeOf56 rfl g1 o18 (fun _ h => ⟨_, St.refl, h⟩)
      · rintro f_4 w_9 c_8 hB3 hs3 ⟨g2, -⟩ o ho; obtain rfl : _ = o := Option.some.inj ho
        replace g2 : AdrP p_ 0 1 (f_4 20) := g2
        have o19 := o14.keep hs3 (by decide)
        exact OS.ld1 (u := (.map (some b))) rfl Tryd.isAgg56 rfl (o19.ldn g2 (sub_of rfl)) ⟨_, St.refl, rfl⟩
      · rintro f_5 w_10 c_9 hB4 hs4 ⟨-⟩ o ho; obtain rfl : _ = o := Option.some.inj ho
        have o20 := o5.keep (((s4.t s5).t s6).t hs4) (by decide)
        exact OS.ld1 (u := vS tenant) rfl Tryd.isAgg9 ((hB4 4 (by kernel_rfl)).trans (show _ = p_1 from rfl)) o20.ldAll ⟨_, St.refl, rfl⟩
      · rintro f_6 w_11 c_10 hB5 hs5 ⟨-⟩ o ho; obtain rfl : _ = o := Option.some.inj ho
        have o21 := o4.keep (((s4.t s5).t s6).t hs5) (by decide)
        exact OS.ld1 (u := vS client) rfl Tryd.isAgg9 ((hB5 5 (by kernel_rfl)).trans (show _ = p_2 from rfl)) o21.ldAll ⟨_, St.refl, rfl⟩
      · rintro f_7 w_12 c_11 hB6 hs6 ⟨g3, g4, -⟩ o ho; obtain rfl : _ = o := Option.some.inj ho
        replace g3 : (f_7 22) = vS tenant := g3
        replace g4 : (f_7 23) = vS client := g4
        exact OS.build (v := .agg (E64.e (⟨tenant, client⟩ : S_grant_name)).toArray) [(0, vS tenant), (1, vS client)] rfl ⟨rfl, g3, rfl, g4, trivial⟩ (fun _ => by kernel_rfl) ⟨_, St.refl, rfl⟩
      · rintro f_8 w_13 c_12 hB7 hs7 ⟨g5, g6, -⟩
        replace g5 : (f_8 21) = (.map (some b)) := g5
        replace g6 : (f_8 24) = .agg (E64.e (⟨tenant, client⟩ : S_grant_name)).toArray := g6
        have h := (hB7 0 (by kernel_rfl)).trans (show _ = p_ from rfl)
        have h1 := (hB7 4 (by kernel_rfl)).trans (show _ = p_1 from rfl)
        have h2 := (hB7 5 (by kernel_rfl)).trans (show _ = p_2 from rfl)
        have h3 := (hB7 8 (by kernel_rfl)).trans (show _ = vI r_.2 from rfl)
        have o22 := o7.keep (((s4.t s5).t s6).t hs7) (by decide) (by decide)
        obtain ⟨m, hm, hp⟩ := bind_some hp
        replace hm := (Option.some.inj hm).symm
        refine WR.k0 rfl rfl (OS.mapDel (a := (⟨tenant, client⟩ : S_grant_name)) rfl K64 Tryd.underlying56 g5 g6 o22 (by decide) ?_); intro w_14 o23 s7
        replace o23 : Mp kv64 (VR.flat vv32) 4 w_14 c_12 (.map (some b)) m := by rw [hm]; exact o23
        refine WR.nil ?_
        refine WC.region ?_
        refine WR.k rfl rfl rfl (OS.move (v := p_) rfl h ?_)
        have o24 := o14.keep (hs7.t s7) (by decide)
        refine WR.k rfl rfl rfl (OS.nilCheckBx rfl rfl o24 ?_)
        refine WR.k rfl rfl rfl (OS.fieldAddrBx rfl Tryd.runUnderlying59 rfl Tryd.sizeOf57 rfl rfl o24 ?_); intro p_4 a2
        refine WR.k rfl rfl rfl (OS.ld1 (u := (.map (some b1))) rfl Tryd.isAgg57 rfl (o24.ldn a2 (sub_of rfl)) ?_)
        refine WR.k rfl rfl rfl (OS.makeFunc (vs := [p_1, p_2]) rfl ⟨h1, h2, trivial⟩ ?_)
        have o25 := o8.keep ((((s4.t s5).t s6).t hs7).t s7) (by decide) (by decide)
        have o26 := o15.keep (hs7.t s7) (by decide)
        have o27 := o16.keep (hs7.t s7) (by decide)
        obtain ⟨r_1, hr_1, hp⟩ := bind_some hp
        refine WR.k rfl rfl rfl (OS.callF (vs := [(.map (some b1)), .func (.func 38) #[] [p_1, p_2].toArray]) rfl ⟨rfl, rfl, trivial⟩ Tryd.call28 ((W28f38 (i := 0) (i1 := 0) K w_14 (rcc [5] c_12) (rcc_lt c_12 rfl) hr_1 (o25.tr (rc_tr (by decide))) (by decide) (o26.tr (rc_tr (by decide))) (by decide) (o27.tr (rc_tr (by decide)))).mono ?_))
        rintro _ w_15 ⟨d2, rfl, s8, o28⟩
        refine ⟨_, rfl, ?_⟩
        obtain ⟨c_13, s9, o28⟩ : ∃ c_13, St [5] w_14 c_12 w_15 c_13 ∧ Mp kv67 (VR.flat vv30) 5 w_15 c_13 (.map (some b1)) r_1 := ⟨_, s8.mg2 (sh := 30000) rfl, o28.tr (mg2_back s8 rfl)⟩
        refine WR.nil ?_
        have o29 := o23.keep s9 (by decide) (by decide)
        have o30 := o24.keep s9 (by decide)
        exact ⟨_, _, _, hp, h, h3, o29, o28, o30, ((hs7.t s7).t s9).mono (by decide)⟩
    · rw [if_neg (nt hb)] at hp
      refine WC.skip ?_
      have o31 := o7.keep ((s4.t s5).t s6) (by decide) (by decide)
      have o32 := o8.keep ((s4.t s5).t s6) (by decide) (by decide)
      have o33 := o6.keep ((s4.t s5).t s6) (by decide)
      exact ⟨_, _, _, hp, rfl, rfl, o31, o32, o33, St.refl.mono (by decide)⟩
  · rintro f_ w_5 ⟨x, x1, c_4, hp, h4, h5, o12, o13, o11, s10⟩
    unfold grant_Store_Drop.j1 at hp
    refine WC.seq (WC.region ?_)
    refine WR.k rfl rfl rfl (OS.move (v := vI r_.2) rfl h5 ?_)
    refine WR.k rfl rfl rfl (OS.assign (v := vI r_.2) rfl rfl ?_)
    refine WR.nil ?_
    refine WC.ret ?_
    repeat first | refine thenQ_ret ?_ | refine blkQ_ret ?_
    cases hp
    exact fnQ.l1 (fn := Tryd.f18) rfl (.inl ⟨_, rfl, rfl⟩) ⟨_, _, _, rfl, (((((s1.t s2).t s4).t s5).t s6).t s10).leave hcw (by decide), o11, o12, o13⟩
end Go.Proofs.YtjgbakieogadfaaDoor
