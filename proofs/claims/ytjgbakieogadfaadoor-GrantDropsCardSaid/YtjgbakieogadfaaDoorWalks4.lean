import Derived.Test.YtjgbakieogadfaaDoorWalks3
namespace Go.Proofs.YtjgbakieogadfaaDoor
open Go Go.Proofs L
set_option linter.unusedVariables false

-- holdfast/holdfastlaw13.GrantNarrow
set_option maxHeartbeats 4000000 in
theorem W4 (K : Nat) (w0 : World) (cw : Col) (hcw : ∀ b, cw b < 40) {l : List S_holdfastlaw13_Deed} {x : S_holdfastlaw13_Deed} {r : Bool} (hp : holdfastlaw13_GrantNarrow K l x = some r) {i : Nat} (hi : i ≤ 1) {v_ : Value} (o : Vw E44 i w0 cw v_ l) :
    Calls Tryd.prog 4 [v_, .agg (E44.e x).toArray].toArray w0 fun e w1 => ∃ (d : Col), e = .returned (vB r) ∧ St [] w0 cw w1 d := by
  refine calls_intro Tryd.func4 rfl Tryd.ntmps4 rfl ?_
  unfold holdfastlaw13_GrantNarrow at hp
  refine WC.seq (WC.region ?_)
  refine WR.k rfl rfl rfl (OS.boxBx (us := [vI x.Kind, vS x.Owner.Tenant, vS x.Owner.User, vS x.Client, vS x.Redirect, vU8 x.Scopes]) (c := cw) 40 rfl rfl rfl ?_); intro p_ w_ c_ o1 s
  refine WR.k rfl rfl rfl (OS.assign (v := vB false) rfl rfl ?_)
  refine WR.nil ?_
  refine WC.seq (WC.region ?_)
  obtain ⟨r_, hr_, hp⟩ := bind_some hp
  refine WR.k rfl rfl rfl (OS.callF (vs := []) rfl trivial Tryd.call6 ((W6 K w_ (rcc [] c_) (rcc_lt c_ rfl) hr_).mono ?_))
  rintro _ w_1 ⟨p_1, b, b1, d1, rfl, s1, o2, o3, o4⟩
  refine ⟨_, rfl, ?_⟩
  obtain ⟨c_1, s2, o2, o3, o4⟩ : ∃ c_1, St [] w_ c_ w_1 c_1 ∧ Bx 12000 w_1 c_1 p_1 [(.map (some b)), (.map (some b1))] ∧ Mp kv64 (VR.flat vv32) 12001 w_1 c_1 (.map (some b)) r_.clients ∧ Mp kv67 (VR.flat vv30) 12002 w_1 c_1 (.map (some b1)) r_.consents := ⟨_, s1.mg2 (sh := 10000) rfl, o2.tr (mg2_back s1 rfl), o3.tr (mg2_back s1 rfl), o4.tr (mg2_back s1 rfl)⟩
  obtain ⟨r_1, hr_1, hp⟩ := bind_some hp
  refine WR.k rfl rfl rfl (OS.callF (vs := []) rfl trivial Tryd.call13 ((W13 K w_1 (rcc [] c_1) (rcc_lt c_1 rfl) hr_1).mono ?_))
  rintro _ w_2 ⟨p_2, sl, sl1, d2, rfl, s3, o5, o6, o7⟩
  refine ⟨_, rfl, ?_⟩
  obtain ⟨c_2, s4, o5, o6, o7⟩ : ∃ c_2, St [] w_1 c_1 w_2 c_2 ∧ Bx 22000 w_2 c_2 p_2 [sl.val, sl1.val] ∧ Ow E32 22001 w_2 c_2 sl.val r_1.c_ ∧ Ow E35 22002 w_2 c_2 sl1.val r_1.a := ⟨_, s3.mg2 (sh := 20000) rfl, o5.tr (mg2_back s3 rfl), o6.tr (mg2_back s3 rfl), o7.tr (mg2_back s3 rfl)⟩
  refine WR.k rfl rfl rfl (OS.assign (v := p_1) rfl rfl ?_)
  refine WR.k rfl rfl rfl (OS.assign (v := p_2) rfl rfl ?_)
  refine WR.nil ?_
  refine WC.seq ?_
  refine WC.seq (WC.region ?_)
  obtain ⟨r_2, hr_2, hp⟩ := bind_some hp
  refine WR.k rfl rfl rfl (OS.callF (vs := []) rfl trivial Tryd.call7 ((W7 K w_2 (rcc [] c_2) (rcc_lt c_2 rfl) hr_2).mono ?_))
  rintro _ w_3 ⟨d3, rfl, s5⟩
  refine ⟨_, rfl, ?_⟩
  obtain ⟨c_3, s6⟩ : ∃ c_3, St [] w_2 c_2 w_3 c_3 := ⟨_, s5.mg2 (sh := 30000) rfl⟩
  refine WR.k rfl rfl rfl (OS.not rfl rfl ?_)
  refine WR.nil ?_
  refine WC.cond (!r_2) rfl (fun hb => ?_) (fun hb => ?_)
  · rw [if_pos hb] at hp
    refine WC.seq (WC.region ?_)
    refine WR.k rfl rfl rfl (OS.assign (v := vB false) rfl rfl ?_)
    refine WR.nil ?_
    refine WC.ret ?_
    repeat first | refine thenQ_ret ?_ | refine blkQ_ret ?_
    cases hp
    exact fnQ.l1 (fn := Tryd.f4) rfl (.inl ⟨_, rfl, rfl⟩) ⟨_, rfl, (((s.t s2).t s4).t s6).leave hcw (by decide)⟩
  · rw [if_neg (nt hb)] at hp
    refine WC.skip ?_
    refine WC.seq ?_
    refine WC.seq (WC.region ?_)
    refine WR.k rfl rfl rfl (OS.assign (v := vI (0 : Int)) rfl rfl ?_)
    refine WR.nil ?_
    obtain ⟨q, hl, hp⟩ := bind_some hp
    obtain ⟨x5, x6⟩ := q; dsimp only at hp
    refine WC.blockJ2 (fun f_ w_4 => ∃ (b4 : Nat) (b5 : Nat) (c_4 : Col), f_ 3 = p_ ∧ f_ 5 = p_1 ∧ Mp kv64 (VR.flat vv32) 12001 w_4 c_4 (.map (some b4)) x5 ∧ Mp kv67 (VR.flat vv30) 12002 w_4 c_4 (.map (some b5)) x6 ∧ Bx 12000 w_4 c_4 p_1 [(.map (some b4)), (.map (some b5))] ∧ St [12000, 12001, 12002, 22000, 22001, 22002] w_3 c_3 w_4 c_4) ?_ ?_
    · have o18 := o6.keep s6 (by decide)
      obtain ⟨c_6, s7, o17⟩ := o18.recol 1
      have o20 := o7.keep (s6.t s7) (by decide)
      obtain ⟨c_7, s8, o19⟩ := o20.recol 1
      have o21 := o3.keep (((s4.t s6).t s7).t s8) (by decide) (by decide)
      have o22 := o4.keep (((s4.t s6).t s7).t s8) (by decide) (by decide)
      have o23 := o2.keep (((s4.t s6).t s7).t s8) (by decide)
      have o24 := o17.keep s8 (by decide)
      have o25 := o5.keep ((s6.t s7).t s8) (by decide)
      refine WC.loop (fun n => fun f_1 w_5 => ∃ (x1 : List (S_grant_name × S_api_Client)) (x2 : List (S_grant_use × UInt8)) (x3 : List S_api_Client) (x4 : List S_api_Consent) (i1 : Int) (b2 : Nat) (b3 : Nat) (v_1 : Value) (v_2 : Value) (c_5 : Col), holdfastlaw13_GrantNarrow.l1 K n l x1 x2 x3 x4 i1 = some (x5, x6) ∧ f_1 0 = v_ ∧ f_1 3 = p_ ∧ f_1 5 = p_1 ∧ f_1 6 = p_2 ∧ f_1 7 = vI i1 ∧ Mp kv64 (VR.flat vv32) 12001 w_5 c_5 (.map (some b2)) x1 ∧ Mp kv67 (VR.flat vv30) 12002 w_5 c_5 (.map (some b3)) x2 ∧ Bx 12000 w_5 c_5 p_1 [(.map (some b2)), (.map (some b3))] ∧ Vw E32 1 w_5 c_5 v_1 x3 ∧ Vw E35 1 w_5 c_5 v_2 x4 ∧ Bx 22000 w_5 c_5 p_2 [v_1, v_2] ∧ St [12000, 12001, 12002, 22000, 22001, 22002] w_3 c_3 w_5 c_5) K ⟨_, _, _, _, _, _, _, _, _, _, hl, rfl, rfl, rfl, rfl, rfl, o21, o22, o23, o24.vw, o19.vw, o25, (s7.t s8).mono (by decide)⟩ ?_
      rintro n f_1 w_5 ⟨x1, x2, x3, x4, i1, b2, b3, v_1, v_2, c_5, hl, h, h1, h2, h3, h4, o9, o10, o8, o12, o13, o11, s9⟩
      cases n with
      | zero => exact absurd hl (by simp [holdfastlaw13_GrantNarrow.l1])
      | succ k =>
      rw [holdfastlaw13_GrantNarrow.l1] at hl
      refine WC.seq ?_
      refine WC.seq (WC.region ?_)
      refine WR.k rfl rfl rfl (OS.move (v := vI i1) rfl h4 ?_)
      refine WR.k rfl rfl rfl (OS.move (v := v_) rfl h ?_)
      have o26 := o.keep ((((s.t s2).t s4).t s6).t s9) (nin hi (by decide))
      refine WR.k rfl rfl rfl (OS.lenSl rfl Tryd.runUnderlying42 rfl o26.isSl ?_)
      refine WR.k rfl rfl rfl (OS.bin (a := vI i1) (b := vI (l.length : Int)) rfl rfl rfl bI_lss ?_)
      refine WR.k rfl rfl rfl (OS.move (v := vB (decide (i1 < (l.length : Int)))) rfl rfl ?_)
      refine WR.cut2 3 (fun f_2 w_6 => f_2 0 = v_ ∧ f_2 3 = p_ ∧ f_2 5 = p_1 ∧ f_2 6 = p_2 ∧ f_2 7 = vI i1 ∧ f_2 23 = vB ((decide (i1 < (l.length : Int))) && (decide (i1 < (80 : Int)))) ∧ w_5 = w_6) ?_ ?_
      · rcases Bool.eq_false_or_eq_true (decide (i1 < (l.length : Int))) with hg | hg
        · refine WR.kT rfl rfl (vb_t rfl hg) rfl rfl (OS.move (v := vI i1) rfl h4 ?_)
          refine WR.kT rfl rfl (vb_t rfl hg) rfl rfl (OS.bin (a := vI i1) (b := vI (80 : Int)) rfl rfl rfl bI_lss ?_)
          refine WR.k rfl rfl rfl (OS.pickT rfl (vb_t rfl hg) rfl ?_)
          refine WR.nil ?_
          exact ⟨h, h1, h2, h3, h4, (and_t hg), rfl⟩
        · refine WR.gF rfl rfl (vb_f rfl hg) rfl rfl ?_
          refine WR.gF rfl rfl (vb_f rfl hg) rfl rfl ?_
          refine WR.k rfl rfl rfl (OS.pickF rfl (vb_f rfl hg) rfl ?_)
          refine WR.nil ?_
          exact ⟨h, h1, h2, h3, h4, (and_f hg), rfl⟩
      · rintro f_2 _ ⟨h5, h6, h7, h8, h9, h10, rfl⟩
        refine WR.nil ?_
        refine WC.cond ((decide (i1 < (l.length : Int))) && (decide (i1 < (80 : Int)))) h10 (fun hb1 => ?_) (fun hb1 => ?_)
        · rw [if_pos hb1] at hl
          refine WC.skip ?_
          refine WC.seq ?_
          refine WC.block ?_
          refine WC.region ?_
          refine WR.k rfl rfl rfl (OS.move (v := p_1) rfl h7 ?_)
          refine WR.k rfl rfl rfl (OS.move (v := p_2) rfl h8 ?_)
          refine WR.k rfl rfl rfl (OS.move (v := v_) rfl h5 ?_)
          refine WR.k rfl rfl rfl (OS.move (v := vI i1) rfl h9 ?_)
          obtain ⟨e1, he1, hl⟩ := bind_some hl
          obtain ⟨ha, hb2, hc⟩ := gt_some he1
          refine WR.k rfl rfl rfl (OS.idx rfl Tryd.runUnderlying42 Tryd.sizeOf44 rfl o26.isSl rfl ha hb2 ?_); intro p_3 a1
          refine WR.k rfl rfl rfl (OS.ldN (us := E44.e e1) rfl Tryd.isAgg44 Tryd.sizeOf44 rfl (o26.ld a1 hc) rfl ?_)
          obtain ⟨sl2, e2⟩ := isSlv o12.isSl; subst e2
          obtain ⟨sl3, e3⟩ := isSlv o13.isSl; subst e3
          obtain ⟨r_3, hr_3, hl⟩ := bind_some hl
          refine WR.k rfl rfl rfl (OS.callF (vs := [p_1, p_2, .agg (E44.e e1).toArray]) rfl ⟨rfl, rfl, rfl, trivial⟩ Tryd.call14 ((W14 (sl := sl2) (sl1 := sl3) K w_5 (rcc [12000, 12001, 12002, 22000] c_5) (rcc_lt c_5 rfl) hr_3 (o8.tr (rc_tr (by decide))) (o9.tr (rc_tr (by decide))) (o10.tr (rc_tr (by decide))) (o11.tr (rc_tr (by decide))) (o12.tr (rc_tr rfl)) (o13.tr (rc_tr rfl))).mono ?_))
          rintro _ w_7 ⟨b6, b7, sl4, sl5, d4, rfl, s10, o27, o28, o29, o30, o31, o32⟩
          refine ⟨_, rfl, ?_⟩
          obtain ⟨c_9, s11, o27, o28, o29, o30, o31, o32⟩ : ∃ c_9, St [12000, 12001, 12002, 22000] w_5 c_5 w_7 c_9 ∧ Bx 12000 w_7 c_9 p_1 [(.map (some b6)), (.map (some b7))] ∧ Mp kv64 (VR.flat vv32) 12001 w_7 c_9 (.map (some b6)) r_3.2.1.clients ∧ Mp kv67 (VR.flat vv30) 12002 w_7 c_9 (.map (some b7)) r_3.2.1.consents ∧ Bx 22000 w_7 c_9 p_2 [sl4.val, sl5.val] ∧ Vw E32 1 w_7 c_9 sl4.val r_3.2.2.c_ ∧ Vw E35 1 w_7 c_9 sl5.val r_3.2.2.a := ⟨_, s10.mg2 (sh := 70000) rfl, o27.tr (mg2_back s10 rfl), o28.tr (mg2_back s10 rfl), o29.tr (mg2_back s10 rfl), o30.tr (mg2_back s10 rfl), o31.tr (mg2_back s10 rfl), o32.tr (mg2_back s10 rfl)⟩
          refine WR.nil ?_
          refine WC.region ?_
          refine WR.k rfl rfl rfl (OS.move (v := vI i1) rfl h9 ?_)
          refine WR.k rfl rfl rfl (OS.bin (a := vI i1) (b := vI (1 : Int)) rfl rfl rfl bI_add ?_)
          refine WR.k rfl rfl rfl (OS.assign (v := vI (W (i1 + (1 : Int)))) rfl rfl ?_)
          refine WR.nil ?_
          exact ⟨k, by omega, _, _, _, _, _, _, _, _, _, _, hl, h5, h6, h7, h8, rfl, o28, o29, o27, o31, o32, o30, (s9.t s11).mono (by decide)⟩
        · rw [if_neg (nt hb1)] at hl
          refine WC.exit ?_
          cases hl
          exact ⟨_, _, _, h6, h7, o9, o10, o8, s9.mono (by decide)⟩
    · rintro f_ w_4 ⟨b4, b5, c_4, h11, h12, o15, o16, o14, s12⟩
      refine WC.seq (WC.region ?_)
      refine WR.k rfl rfl rfl (OS.move (v := p_1) rfl h12 ?_)
      have o33 := o1.keep (((s2.t s4).t s6).t s12) (by decide)
      refine WR.k rfl rfl rfl (OS.fieldAddrBx rfl Tryd.runUnderlying44 rfl Tryd.sizeOf26 rfl h11 o33 ?_); intro p_4 a2
      refine WR.k rfl rfl rfl (OS.ldN (us := [vS x.Owner.Tenant, vS x.Owner.User]) rfl Tryd.isAgg26 Tryd.sizeOf26 rfl (o33.ldn a2 (sub_of rfl)) rfl ?_)
      refine WR.k rfl rfl rfl (OS.fieldAddrBx rfl Tryd.runUnderlying44 rfl Tryd.sizeOf9 rfl h11 o33 ?_); intro p_5 a3
      refine WR.k rfl rfl rfl (OS.ld1 (u := vS x.Client) rfl Tryd.isAgg9 rfl (o33.ldn a3 (sub_of rfl)) ?_)
      obtain ⟨r_4, hr_4, hp⟩ := bind_some hp
      refine WR.k rfl rfl rfl (OS.callF (vs := [p_1, .agg (E26.e x.Owner).toArray, vS x.Client]) rfl ⟨rfl, rfl, rfl, trivial⟩ Tryd.call15 ((W15 K w_4 (rcc [12000, 12001, 12002] c_4) (rcc_lt c_4 rfl) hr_4 (o14.tr (rc_tr (by decide))) (o15.tr (rc_tr (by decide))) (o16.tr (rc_tr (by decide)))).mono ?_))
      rintro _ w_8 ⟨d5, rfl, s13⟩
      refine ⟨_, rfl, ?_⟩
      obtain ⟨c_10, s14⟩ : ∃ c_10, St [] w_4 c_4 w_8 c_10 := ⟨_, s13.mg2 (sh := 80000) rfl⟩
      refine WR.k rfl rfl rfl (OS.move (v := .tuple #[.agg (E35.e r_4.1).toArray, vI r_4.2]) rfl rfl ?_)
      refine WR.k rfl rfl rfl (OS.extract (v := .agg (E35.e r_4.1).toArray) rfl rfl rfl ?_)
      refine WR.k rfl rfl rfl (OS.extract (v := vI r_4.2) rfl rfl rfl ?_)
      refine WR.k rfl rfl rfl (OS.allocBx (us := [vS ([] : List UInt8), vS ([] : List UInt8), vS ([] : List UInt8), vU8 (0 : UInt8)]) (c := c_10) 44 rfl Tryd.zeroValue35 rfl ?_); intro p_6 w_9 c_11 o34 s15
      refine WR.k0 rfl rfl (OS.stBxAll (v := .agg (E35.e r_4.1).toArray) (ws := [vS r_4.1.Owner.Tenant, vS r_4.1.Owner.User, vS r_4.1.Client, vU8 r_4.1.Scopes]) rfl Tryd.sizeOf35 rfl rfl rfl o34 rfl rfl (one_of rfl) ?_); intro w_10 o35 s16
      refine WR.k rfl rfl rfl (OS.assign (v := vI r_4.2) rfl rfl ?_)
      refine WR.nil ?_
      refine WC.seq (WC.region ?_)
      refine WR.k rfl rfl rfl (OS.move (v := p_1) rfl h12 ?_)
      have o36 := o33.keep ((s14.t s15).t s16) (by decide)
      refine WR.k rfl rfl rfl (OS.fieldAddrBx rfl Tryd.runUnderlying44 rfl Tryd.sizeOf26 rfl h11 o36 ?_); intro p_7 a4
      refine WR.k rfl rfl rfl (OS.fieldAddrP rfl Tryd.runUnderlying26 rfl Tryd.sizeOf9 rfl rfl a4 ?_); intro p_8 a5
      refine WR.k rfl rfl rfl (OS.ld1 (u := vS x.Owner.Tenant) rfl Tryd.isAgg9 rfl (o36.ldn a5 (sub_of rfl)) ?_)
      refine WR.k rfl rfl rfl (OS.fieldAddrBx rfl Tryd.runUnderlying44 rfl Tryd.sizeOf9 rfl h11 o36 ?_); intro p_9 a6
      refine WR.k rfl rfl rfl (OS.ld1 (u := vS x.Client) rfl Tryd.isAgg9 rfl (o36.ldn a6 (sub_of rfl)) ?_)
      have o37 := o14.keep ((s14.t s15).t s16) (by decide)
      have o38 := o15.keep ((s14.t s15).t s16) (by decide) (by decide)
      have o39 := o16.keep ((s14.t s15).t s16) (by decide) (by decide)
      obtain ⟨r_5, hr_5, hp⟩ := bind_some hp
      refine WR.k rfl rfl rfl (OS.callF (vs := [p_1, vS x.Owner.Tenant, vS x.Client]) rfl ⟨rfl, rfl, rfl, trivial⟩ Tryd.call16 ((W16 K w_10 (rcc [12000, 12001, 12002] c_11) (rcc_lt c_11 rfl) hr_5 (o37.tr (rc_tr (by decide))) (o38.tr (rc_tr (by decide))) (o39.tr (rc_tr (by decide)))).mono ?_))
      rintro _ w_11 ⟨d6, rfl, s17⟩
      refine ⟨_, rfl, ?_⟩
      obtain ⟨c_12, s18⟩ : ∃ c_12, St [] w_10 c_11 w_11 c_12 := ⟨_, s17.mg2 (sh := 90000) rfl⟩
      refine WR.k rfl rfl rfl (OS.move (v := .tuple #[.agg (E32.e r_5.1).toArray, vI r_5.2]) rfl rfl ?_)
      refine WR.k rfl rfl rfl (OS.extract (v := .agg (E32.e r_5.1).toArray) rfl rfl rfl ?_)
      refine WR.k rfl rfl rfl (OS.extract (v := vI r_5.2) rfl rfl rfl ?_)
      refine WR.k rfl rfl rfl (OS.allocBx (us := [vS ([] : List UInt8), vS ([] : List UInt8), vS ([] : List UInt8), vU8 (0 : UInt8)]) (c := c_12) 45 rfl Tryd.zeroValue32 rfl ?_); intro p_10 w_12 c_13 o40 s19
      refine WR.k0 rfl rfl (OS.stBxAll (v := .agg (E32.e r_5.1).toArray) (ws := [vS r_5.1.Tenant, vS r_5.1.Name, vS r_5.1.Redirect, vU8 r_5.1.Scopes]) rfl Tryd.sizeOf32 rfl rfl rfl o40 rfl rfl (one_of rfl) ?_); intro w_13 o41 s20
      refine WR.k rfl rfl rfl (OS.assign (v := vI r_5.2) rfl rfl ?_)
      refine WR.nil ?_
      refine WC.seq ?_
      refine WC.seq (WC.region ?_)
      refine WR.k rfl rfl rfl (OS.move (v := vI r_4.2) rfl rfl ?_)
      refine WR.k rfl rfl rfl (OS.bin (a := vI r_4.2) (b := vI (0 : Int)) rfl rfl rfl bI_eql ?_)
      refine WR.k rfl rfl rfl (OS.move (v := vB (decide (r_4.2 = (0 : Int)))) rfl rfl ?_)
      refine WR.cut2 13 (fun f_3 w_14 => f_3 3 = p_ ∧ f_3 5 = p_1 ∧ f_3 8 = p_6 ∧ f_3 9 = vI r_4.2 ∧ f_3 10 = p_10 ∧ f_3 11 = vI r_5.2 ∧ f_3 67 = vB ((decide (r_4.2 = (0 : Int))) && ((!decide (r_5.2 = (0 : Int))) || (!decide (r_4.1.Scopes &&& r_5.1.Scopes = r_4.1.Scopes)))) ∧ w_13 = w_14) ?_ ?_
      · rcases Bool.eq_false_or_eq_true (decide (r_4.2 = (0 : Int))) with hg1 | hg1
        · refine WR.kT rfl rfl (vb_t rfl hg1) rfl rfl (OS.move (v := vI r_5.2) rfl rfl ?_)
          refine WR.kT rfl rfl (vb_t rfl hg1) rfl rfl (OS.bin (a := vI r_5.2) (b := vI (0 : Int)) rfl rfl rfl bI_neq ?_)
          refine WR.kT rfl rfl (vb_t rfl hg1) rfl rfl (OS.move (v := vB (!decide (r_5.2 = (0 : Int)))) rfl rfl ?_)
          refine WR.cut2 9 (fun f_4 w_15 => f_4 3 = p_ ∧ f_4 5 = p_1 ∧ f_4 8 = p_6 ∧ f_4 9 = vI r_4.2 ∧ f_4 10 = p_10 ∧ f_4 11 = vI r_5.2 ∧ f_4 54 = vB (decide (r_4.2 = (0 : Int))) ∧ f_4 66 = vB ((!decide (r_5.2 = (0 : Int))) || (!decide (r_4.1.Scopes &&& r_5.1.Scopes = r_4.1.Scopes))) ∧ w_13 = w_15) ?_ ?_
          · rcases Bool.eq_false_or_eq_true (!decide (r_5.2 = (0 : Int))) with hg2 | hg2
            · refine WR.gF rfl rfl (vb_t rfl hg2) rfl rfl ?_
              refine WR.gF rfl rfl (vb_t rfl hg2) rfl rfl ?_
              refine WR.gF rfl rfl (vb_t rfl hg2) rfl rfl ?_
              refine WR.gF rfl rfl (vb_t rfl hg2) rfl rfl ?_
              refine WR.gF rfl rfl (vb_t rfl hg2) rfl rfl ?_
              refine WR.gF rfl rfl (vb_t rfl hg2) rfl rfl ?_
              refine WR.gF rfl rfl (vb_t rfl hg2) rfl rfl ?_
              refine WR.gF rfl rfl (vb_t rfl hg2) rfl rfl ?_
              refine WR.kT rfl rfl (vb_t rfl hg1) rfl rfl (OS.pickT rfl (vb_t rfl hg2) rfl ?_)
              refine WR.nil ?_
              exact ⟨h11, h12, rfl, rfl, rfl, rfl, rfl, (or_t hg2), rfl⟩
            · have o42 := o35.keep ((s18.t s19).t s20) (by decide)
              refine WR.kT rfl rfl (vb_f rfl hg2) rfl rfl (OS.fieldAddrBx rfl Tryd.runUnderlying35 rfl Tryd.sizeOf30 rfl rfl o42 ?_); intro p_11 a7
              refine WR.kT rfl rfl (vb_f rfl hg2) rfl rfl (OS.ld1 (u := vU8 r_4.1.Scopes) rfl Tryd.isAgg30 rfl (o42.ldn a7 (sub_of rfl)) ?_)
              refine WR.kT rfl rfl (vb_f rfl hg2) rfl rfl (OS.fieldAddrBx rfl Tryd.runUnderlying32 rfl Tryd.sizeOf30 rfl rfl o41 ?_); intro p_12 a8
              refine WR.kT rfl rfl (vb_f rfl hg2) rfl rfl (OS.ld1 (u := vU8 r_5.1.Scopes) rfl Tryd.isAgg30 rfl (o41.ldn a8 (sub_of rfl)) ?_)
              refine WR.kT rfl rfl (vb_f rfl hg2) rfl rfl (OS.bin (a := vU8 r_4.1.Scopes) (b := vU8 r_5.1.Scopes) rfl rfl rfl b8_and ?_)
              refine WR.kT rfl rfl (vb_f rfl hg2) rfl rfl (OS.fieldAddrBx rfl Tryd.runUnderlying35 rfl Tryd.sizeOf30 rfl rfl o42 ?_); intro p_13 a9
              refine WR.kT rfl rfl (vb_f rfl hg2) rfl rfl (OS.ld1 (u := vU8 r_4.1.Scopes) rfl Tryd.isAgg30 rfl (o42.ldn a9 (sub_of rfl)) ?_)
              refine WR.kT rfl rfl (vb_f rfl hg2) rfl rfl (OS.bin (a := vU8 (r_4.1.Scopes &&& r_5.1.Scopes)) (b := vU8 r_4.1.Scopes) rfl rfl rfl b8_neq ?_)
              refine WR.kT rfl rfl (vb_t rfl hg1) rfl rfl (OS.pickF rfl (vb_f rfl hg2) rfl ?_)
              refine WR.nil ?_
              exact ⟨h11, h12, rfl, rfl, rfl, rfl, rfl, (or_f hg2), rfl⟩
          · rintro f_4 _ ⟨h13, h14, h15, h16, h17, h18, h19, h20, rfl⟩
            refine WR.k rfl rfl rfl (OS.pickT rfl (vb_t h19 hg1) h20 ?_)
            refine WR.nil ?_
            exact ⟨h13, h14, h15, h16, h17, h18, (and_t hg1), rfl⟩
        · refine WR.gF rfl rfl (vb_f rfl hg1) rfl rfl ?_
          refine WR.gF rfl rfl (vb_f rfl hg1) rfl rfl ?_
          refine WR.gF rfl rfl (vb_f rfl hg1) rfl rfl ?_
          refine WR.gN rfl rfl rfl rfl rfl ?_
          refine WR.gN rfl rfl rfl rfl rfl ?_
          refine WR.gN rfl rfl rfl rfl rfl ?_
          refine WR.gN rfl rfl rfl rfl rfl ?_
          refine WR.gN rfl rfl rfl rfl rfl ?_
          refine WR.gN rfl rfl rfl rfl rfl ?_
          refine WR.gN rfl rfl rfl rfl rfl ?_
          refine WR.gN rfl rfl rfl rfl rfl ?_
          refine WR.gF rfl rfl (vb_f rfl hg1) rfl rfl ?_
          refine WR.k rfl rfl rfl (OS.pickF rfl (vb_f rfl hg1) rfl ?_)
          refine WR.nil ?_
          exact ⟨h11, h12, rfl, rfl, rfl, rfl, (and_f hg1), rfl⟩
      · rintro f_3 _ ⟨h21, h22, h23, h24, h25, h26, h27, rfl⟩
        refine WR.nil ?_
        refine WC.cond ((decide (r_4.2 = (0 : Int))) && ((!decide (r_5.2 = (0 : Int))) || (!decide (r_4.1.Scopes &&& r_5.1.Scopes = r_4.1.Scopes)))) h27 (fun hb3 => ?_) (fun hb3 => ?_)
        · rw [if_pos hb3] at hp
          refine WC.seq (WC.region ?_)
          refine WR.k rfl rfl rfl (OS.assign (v := vB false) rfl rfl ?_)
          refine WR.nil ?_
          refine WC.ret ?_
          repeat first | refine thenQ_ret ?_ | refine blkQ_ret ?_
          cases hp
          exact fnQ.l1 (fn := Tryd.f4) rfl (.inl ⟨_, rfl, rfl⟩) ⟨_, rfl, ((((((((((s.t s2).t s4).t s6).t s12).t s14).t s15).t s16).t s18).t s19).t s20).leave hcw (by decide)⟩
        · rw [if_neg (nt hb3)] at hp
          refine WC.skip ?_
          refine WC.seq (WC.region ?_)
          refine WR.k rfl rfl rfl (OS.move (v := p_1) rfl h22 ?_)
          have o43 := o36.keep ((s18.t s19).t s20) (by decide)
          refine WR.k rfl rfl rfl (OS.fieldAddrBx rfl Tryd.runUnderlying44 rfl Tryd.sizeOf26 rfl h21 o43 ?_); intro p_14 a10
          refine WR.k rfl rfl rfl (OS.ldN (us := [vS x.Owner.Tenant, vS x.Owner.User]) rfl Tryd.isAgg26 Tryd.sizeOf26 rfl (o43.ldn a10 (sub_of rfl)) rfl ?_)
          refine WR.k rfl rfl rfl (OS.fieldAddrBx rfl Tryd.runUnderlying44 rfl Tryd.sizeOf9 rfl h21 o43 ?_); intro p_15 a11
          refine WR.k rfl rfl rfl (OS.ld1 (u := vS x.Client) rfl Tryd.isAgg9 rfl (o43.ldn a11 (sub_of rfl)) ?_)
          refine WR.k rfl rfl rfl (OS.fieldAddrBx rfl Tryd.runUnderlying44 rfl Tryd.sizeOf9 rfl h21 o43 ?_); intro p_16 a12
          refine WR.k rfl rfl rfl (OS.ld1 (u := vS x.Redirect) rfl Tryd.isAgg9 rfl (o43.ldn a12 (sub_of rfl)) ?_)
          refine WR.k rfl rfl rfl (OS.fieldAddrBx rfl Tryd.runUnderlying44 rfl Tryd.sizeOf30 rfl h21 o43 ?_); intro p_17 a13
          refine WR.k rfl rfl rfl (OS.ld1 (u := vU8 x.Scopes) rfl Tryd.isAgg30 rfl (o43.ldn a13 (sub_of rfl)) ?_)
          have o44 := o37.keep ((s18.t s19).t s20) (by decide)
          have o45 := o38.keep ((s18.t s19).t s20) (by decide) (by decide)
          have o46 := o39.keep ((s18.t s19).t s20) (by decide) (by decide)
          obtain ⟨r_6, hr_6, hp⟩ := bind_some hp
          refine WR.k rfl rfl rfl (OS.callF (vs := [p_1, .agg (E26.e x.Owner).toArray, vS x.Client, vS x.Redirect, vU8 x.Scopes]) rfl ⟨rfl, rfl, rfl, rfl, rfl, trivial⟩ Tryd.call17 ((W17 K w_13 (rcc [12000, 12001, 12002] c_13) (rcc_lt c_13 rfl) hr_6 (o44.tr (rc_tr (by decide))) (o45.tr (rc_tr (by decide))) (o46.tr (rc_tr (by decide)))).mono ?_))
          rintro _ w_16 ⟨d7, rfl, s21⟩
          refine ⟨_, rfl, ?_⟩
          obtain ⟨c_16, s22⟩ : ∃ c_16, St [] w_13 c_13 w_16 c_16 := ⟨_, s21.mg2 (sh := 100000) rfl⟩
          refine WR.k rfl rfl rfl (OS.bin (a := vI r_6) (b := vI (0 : Int)) rfl rfl rfl bI_neq ?_)
          refine WR.k rfl rfl rfl (OS.move (v := vB (!decide (r_6 = (0 : Int)))) rfl rfl ?_)
          refine WR.cut2 34 (fun f_5 w_17 => f_5 113 = vB ((!decide (r_6 = (0 : Int))) || (((((decide (r_4.2 = (0 : Int))) && (decide (r_5.2 = (0 : Int)))) && (decide (x.Scopes &&& r_4.1.Scopes = x.Scopes))) && (decide (x.Scopes &&& r_5.1.Scopes = x.Scopes))) && (decide (x.Redirect = r_5.1.Redirect)))) ∧ w_16 = w_17) ?_ ?_
          · rcases Bool.eq_false_or_eq_true (!decide (r_6 = (0 : Int))) with hg3 | hg3
            · refine WR.gF rfl rfl (vb_t rfl hg3) rfl rfl ?_
              refine WR.gF rfl rfl (vb_t rfl hg3) rfl rfl ?_
              refine WR.gF rfl rfl (vb_t rfl hg3) rfl rfl ?_
              refine WR.gN rfl rfl rfl rfl rfl ?_
              refine WR.gN rfl rfl rfl rfl rfl ?_
              refine WR.gF rfl rfl (vb_t rfl hg3) rfl rfl ?_
              refine WR.gF rfl rfl (vb_t rfl hg3) rfl rfl ?_
              refine WR.gN rfl rfl rfl rfl rfl ?_
              refine WR.gN rfl rfl rfl rfl rfl ?_
              refine WR.gN rfl rfl rfl rfl rfl ?_
              refine WR.gN rfl rfl rfl rfl rfl ?_
              refine WR.gN rfl rfl rfl rfl rfl ?_
              refine WR.gN rfl rfl rfl rfl rfl ?_
              refine WR.gN rfl rfl rfl rfl rfl ?_
              refine WR.gN rfl rfl rfl rfl rfl ?_
              refine WR.gF rfl rfl (vb_t rfl hg3) rfl rfl ?_
              refine WR.gF rfl rfl (vb_t rfl hg3) rfl rfl ?_
              refine WR.gN rfl rfl rfl rfl rfl ?_
              refine WR.gN rfl rfl rfl rfl rfl ?_
              refine WR.gN rfl rfl rfl rfl rfl ?_
              refine WR.gN rfl rfl rfl rfl rfl ?_
              refine WR.gN rfl rfl rfl rfl rfl ?_
              refine WR.gN rfl rfl rfl rfl rfl ?_
              refine WR.gN rfl rfl rfl rfl rfl ?_
              refine WR.gN rfl rfl rfl rfl rfl ?_
              refine WR.gF rfl rfl (vb_t rfl hg3) rfl rfl ?_
              refine WR.gF rfl rfl (vb_t rfl hg3) rfl rfl ?_
              refine WR.gN rfl rfl rfl rfl rfl ?_
              refine WR.gN rfl rfl rfl rfl rfl ?_
              refine WR.gN rfl rfl rfl rfl rfl ?_
              refine WR.gN rfl rfl rfl rfl rfl ?_
              refine WR.gN rfl rfl rfl rfl rfl ?_
              refine WR.gF rfl rfl (vb_t rfl hg3) rfl rfl ?_
              refine WR.k rfl rfl rfl (OS.pickT rfl (vb_t rfl hg3) rfl ?_)
              refine WR.nil ?_
              exact ⟨(or_t hg3), rfl⟩
            · refine WR.kT rfl rfl (vb_f rfl hg3) rfl rfl (OS.move (v := vI r_4.2) rfl h24 ?_)
              refine WR.kT rfl rfl (vb_f rfl hg3) rfl rfl (OS.bin (a := vI r_4.2) (b := vI (0 : Int)) rfl rfl rfl bI_eql ?_)
              refine WR.kT rfl rfl (vb_f rfl hg3) rfl rfl (OS.move (v := vB (decide (r_4.2 = (0 : Int)))) rfl rfl ?_)
              refine WR.cut2 3 (fun f_6 w_18 => f_6 3 = p_ ∧ f_6 8 = p_6 ∧ f_6 10 = p_10 ∧ f_6 79 = vB (!decide (r_6 = (0 : Int))) ∧ f_6 85 = vB ((decide (r_4.2 = (0 : Int))) && (decide (r_5.2 = (0 : Int)))) ∧ w_16 = w_18) ?_ ?_
              · rcases Bool.eq_false_or_eq_true (decide (r_4.2 = (0 : Int))) with hg4 | hg4
                · refine WR.kT rfl rfl (vb_t rfl hg4) rfl rfl (OS.move (v := vI r_5.2) rfl h26 ?_)
                  refine WR.kT rfl rfl (vb_t rfl hg4) rfl rfl (OS.bin (a := vI r_5.2) (b := vI (0 : Int)) rfl rfl rfl bI_eql ?_)
                  refine WR.kT rfl rfl (vb_f rfl hg3) rfl rfl (OS.pickT rfl (vb_t rfl hg4) rfl ?_)
                  refine WR.nil ?_
                  exact ⟨h21, h23, h25, rfl, (and_t hg4), rfl⟩
                · refine WR.gF rfl rfl (vb_f rfl hg4) rfl rfl ?_
                  refine WR.gF rfl rfl (vb_f rfl hg4) rfl rfl ?_
                  refine WR.kT rfl rfl (vb_f rfl hg3) rfl rfl (OS.pickF rfl (vb_f rfl hg4) rfl ?_)
                  refine WR.nil ?_
                  exact ⟨h21, h23, h25, rfl, (and_f hg4), rfl⟩
              · rintro f_6 _ ⟨h28, h29, h30, h31, h32, rfl⟩
                refine WR.kT rfl rfl (vb_f h31 hg3) rfl rfl (OS.move (v := vB ((decide (r_4.2 = (0 : Int))) && (decide (r_5.2 = (0 : Int))))) rfl h32 ?_)
                refine WR.cut2 9 (fun f_7 w_19 => f_7 3 = p_ ∧ f_7 10 = p_10 ∧ f_7 79 = vB (!decide (r_6 = (0 : Int))) ∧ f_7 95 = vB (((decide (r_4.2 = (0 : Int))) && (decide (r_5.2 = (0 : Int)))) && (decide (x.Scopes &&& r_4.1.Scopes = x.Scopes))) ∧ w_16 = w_19) ?_ ?_
                · rcases Bool.eq_false_or_eq_true ((decide (r_4.2 = (0 : Int))) && (decide (r_5.2 = (0 : Int)))) with hg5 | hg5
                  · have o47 := o43.keep s22 (by decide)
                    refine WR.kT rfl rfl (vb_t rfl hg5) rfl rfl (OS.fieldAddrBx rfl Tryd.runUnderlying44 rfl Tryd.sizeOf30 rfl h28 o47 ?_); intro p_18 a14
                    refine WR.kT rfl rfl (vb_t rfl hg5) rfl rfl (OS.ld1 (u := vU8 x.Scopes) rfl Tryd.isAgg30 rfl (o47.ldn a14 (sub_of rfl)) ?_)
                    have o48 := o35.keep (((s18.t s19).t s20).t s22) (by decide)
                    refine WR.kT rfl rfl (vb_t rfl hg5) rfl rfl (OS.fieldAddrBx rfl Tryd.runUnderlying35 rfl Tryd.sizeOf30 rfl h29 o48 ?_); intro p_19 a15
                    refine WR.kT rfl rfl (vb_t rfl hg5) rfl rfl (OS.ld1 (u := vU8 r_4.1.Scopes) rfl Tryd.isAgg30 rfl (o48.ldn a15 (sub_of rfl)) ?_)
                    refine WR.kT rfl rfl (vb_t rfl hg5) rfl rfl (OS.bin (a := vU8 x.Scopes) (b := vU8 r_4.1.Scopes) rfl rfl rfl b8_and ?_)
                    refine WR.kT rfl rfl (vb_t rfl hg5) rfl rfl (OS.fieldAddrBx rfl Tryd.runUnderlying44 rfl Tryd.sizeOf30 rfl h28 o47 ?_); intro p_20 a16
                    refine WR.kT rfl rfl (vb_t rfl hg5) rfl rfl (OS.ld1 (u := vU8 x.Scopes) rfl Tryd.isAgg30 rfl (o47.ldn a16 (sub_of rfl)) ?_)
                    refine WR.kT rfl rfl (vb_t rfl hg5) rfl rfl (OS.bin (a := vU8 (x.Scopes &&& r_4.1.Scopes)) (b := vU8 x.Scopes) rfl rfl rfl b8_eql ?_)
                    refine WR.kT rfl rfl (vb_f h31 hg3) rfl rfl (OS.pickT rfl (vb_t rfl hg5) rfl ?_)
                    refine WR.nil ?_
                    exact ⟨h28, h30, h31, (and_t hg5), rfl⟩
                  · refine WR.gF rfl rfl (vb_f rfl hg5) rfl rfl ?_
                    refine WR.gF rfl rfl (vb_f rfl hg5) rfl rfl ?_
                    refine WR.gF rfl rfl (vb_f rfl hg5) rfl rfl ?_
                    refine WR.gF rfl rfl (vb_f rfl hg5) rfl rfl ?_
                    refine WR.gF rfl rfl (vb_f rfl hg5) rfl rfl ?_
                    refine WR.gF rfl rfl (vb_f rfl hg5) rfl rfl ?_
                    refine WR.gF rfl rfl (vb_f rfl hg5) rfl rfl ?_
                    refine WR.gF rfl rfl (vb_f rfl hg5) rfl rfl ?_
                    refine WR.kT rfl rfl (vb_f h31 hg3) rfl rfl (OS.pickF rfl (vb_f rfl hg5) rfl ?_)
                    refine WR.nil ?_
                    exact ⟨h28, h30, h31, (and_f hg5), rfl⟩
                · rintro f_7 _ ⟨h33, h34, h35, h36, rfl⟩
                  refine WR.kT rfl rfl (vb_f h35 hg3) rfl rfl (OS.move (v := vB (((decide (r_4.2 = (0 : Int))) && (decide (r_5.2 = (0 : Int)))) && (decide (x.Scopes &&& r_4.1.Scopes = x.Scopes)))) rfl h36 ?_)
                  refine WR.cut2 9 (fun f_8 w_20 => f_8 3 = p_ ∧ f_8 10 = p_10 ∧ f_8 79 = vB (!decide (r_6 = (0 : Int))) ∧ f_8 105 = vB ((((decide (r_4.2 = (0 : Int))) && (decide (r_5.2 = (0 : Int)))) && (decide (x.Scopes &&& r_4.1.Scopes = x.Scopes))) && (decide (x.Scopes &&& r_5.1.Scopes = x.Scopes))) ∧ w_16 = w_20) ?_ ?_
                  · rcases Bool.eq_false_or_eq_true (((decide (r_4.2 = (0 : Int))) && (decide (r_5.2 = (0 : Int)))) && (decide (x.Scopes &&& r_4.1.Scopes = x.Scopes))) with hg6 | hg6
                    · have o49 := o43.keep s22 (by decide)
                      refine WR.kT rfl rfl (vb_t rfl hg6) rfl rfl (OS.fieldAddrBx rfl Tryd.runUnderlying44 rfl Tryd.sizeOf30 rfl h33 o49 ?_); intro p_21 a17
                      refine WR.kT rfl rfl (vb_t rfl hg6) rfl rfl (OS.ld1 (u := vU8 x.Scopes) rfl Tryd.isAgg30 rfl (o49.ldn a17 (sub_of rfl)) ?_)
                      have o50 := o41.keep s22 (by decide)
                      refine WR.kT rfl rfl (vb_t rfl hg6) rfl rfl (OS.fieldAddrBx rfl Tryd.runUnderlying32 rfl Tryd.sizeOf30 rfl h34 o50 ?_); intro p_22 a18
                      refine WR.kT rfl rfl (vb_t rfl hg6) rfl rfl (OS.ld1 (u := vU8 r_5.1.Scopes) rfl Tryd.isAgg30 rfl (o50.ldn a18 (sub_of rfl)) ?_)
                      refine WR.kT rfl rfl (vb_t rfl hg6) rfl rfl (OS.bin (a := vU8 x.Scopes) (b := vU8 r_5.1.Scopes) rfl rfl rfl b8_and ?_)
                      refine WR.kT rfl rfl (vb_t rfl hg6) rfl rfl (OS.fieldAddrBx rfl Tryd.runUnderlying44 rfl Tryd.sizeOf30 rfl h33 o49 ?_); intro p_23 a19
                      refine WR.kT rfl rfl (vb_t rfl hg6) rfl rfl (OS.ld1 (u := vU8 x.Scopes) rfl Tryd.isAgg30 rfl (o49.ldn a19 (sub_of rfl)) ?_)
                      refine WR.kT rfl rfl (vb_t rfl hg6) rfl rfl (OS.bin (a := vU8 (x.Scopes &&& r_5.1.Scopes)) (b := vU8 x.Scopes) rfl rfl rfl b8_eql ?_)
                      refine WR.kT rfl rfl (vb_f h35 hg3) rfl rfl (OS.pickT rfl (vb_t rfl hg6) rfl ?_)
                      refine WR.nil ?_
                      exact ⟨h33, h34, h35, (and_t hg6), rfl⟩
                    · refine WR.gF rfl rfl (vb_f rfl hg6) rfl rfl ?_
                      refine WR.gF rfl rfl (vb_f rfl hg6) rfl rfl ?_
                      refine WR.gF rfl rfl (vb_f rfl hg6) rfl rfl ?_
                      refine WR.gF rfl rfl (vb_f rfl hg6) rfl rfl ?_
                      refine WR.gF rfl rfl (vb_f rfl hg6) rfl rfl ?_
                      refine WR.gF rfl rfl (vb_f rfl hg6) rfl rfl ?_
                      refine WR.gF rfl rfl (vb_f rfl hg6) rfl rfl ?_
                      refine WR.gF rfl rfl (vb_f rfl hg6) rfl rfl ?_
                      refine WR.kT rfl rfl (vb_f h35 hg3) rfl rfl (OS.pickF rfl (vb_f rfl hg6) rfl ?_)
                      refine WR.nil ?_
                      exact ⟨h33, h34, h35, (and_f hg6), rfl⟩
                  · rintro f_8 _ ⟨h37, h38, h39, h40, rfl⟩
                    refine WR.kT rfl rfl (vb_f h39 hg3) rfl rfl (OS.move (v := vB ((((decide (r_4.2 = (0 : Int))) && (decide (r_5.2 = (0 : Int)))) && (decide (x.Scopes &&& r_4.1.Scopes = x.Scopes))) && (decide (x.Scopes &&& r_5.1.Scopes = x.Scopes)))) rfl h40 ?_)
                    refine WR.cut2 6 (fun f_9 w_21 => f_9 79 = vB (!decide (r_6 = (0 : Int))) ∧ f_9 112 = vB (((((decide (r_4.2 = (0 : Int))) && (decide (r_5.2 = (0 : Int)))) && (decide (x.Scopes &&& r_4.1.Scopes = x.Scopes))) && (decide (x.Scopes &&& r_5.1.Scopes = x.Scopes))) && (decide (x.Redirect = r_5.1.Redirect))) ∧ w_16 = w_21) ?_ ?_
                    · rcases Bool.eq_false_or_eq_true ((((decide (r_4.2 = (0 : Int))) && (decide (r_5.2 = (0 : Int)))) && (decide (x.Scopes &&& r_4.1.Scopes = x.Scopes))) && (decide (x.Scopes &&& r_5.1.Scopes = x.Scopes))) with hg7 | hg7
                      · have o51 := o43.keep s22 (by decide)
                        refine WR.kT rfl rfl (vb_t rfl hg7) rfl rfl (OS.fieldAddrBx rfl Tryd.runUnderlying44 rfl Tryd.sizeOf9 rfl h37 o51 ?_); intro p_24 a20
                        refine WR.kT rfl rfl (vb_t rfl hg7) rfl rfl (OS.ld1 (u := vS x.Redirect) rfl Tryd.isAgg9 rfl (o51.ldn a20 (sub_of rfl)) ?_)
                        have o52 := o41.keep s22 (by decide)
                        refine WR.kT rfl rfl (vb_t rfl hg7) rfl rfl (OS.fieldAddrBx rfl Tryd.runUnderlying32 rfl Tryd.sizeOf9 rfl h38 o52 ?_); intro p_25 a21
                        refine WR.kT rfl rfl (vb_t rfl hg7) rfl rfl (OS.ld1 (u := vS r_5.1.Redirect) rfl Tryd.isAgg9 rfl (o52.ldn a21 (sub_of rfl)) ?_)
                        refine WR.kT rfl rfl (vb_t rfl hg7) rfl rfl (OS.bin (a := vS x.Redirect) (b := vS r_5.1.Redirect) rfl rfl rfl bS_eql ?_)
                        refine WR.kT rfl rfl (vb_f h39 hg3) rfl rfl (OS.pickT rfl (vb_t rfl hg7) rfl ?_)
                        refine WR.nil ?_
                        exact ⟨h39, (and_t hg7), rfl⟩
                      · refine WR.gF rfl rfl (vb_f rfl hg7) rfl rfl ?_
                        refine WR.gF rfl rfl (vb_f rfl hg7) rfl rfl ?_
                        refine WR.gF rfl rfl (vb_f rfl hg7) rfl rfl ?_
                        refine WR.gF rfl rfl (vb_f rfl hg7) rfl rfl ?_
                        refine WR.gF rfl rfl (vb_f rfl hg7) rfl rfl ?_
                        refine WR.kT rfl rfl (vb_f h39 hg3) rfl rfl (OS.pickF rfl (vb_f rfl hg7) rfl ?_)
                        refine WR.nil ?_
                        exact ⟨h39, (and_f hg7), rfl⟩
                    · rintro f_9 _ ⟨h41, h42, rfl⟩
                      refine WR.k rfl rfl rfl (OS.pickF rfl (vb_f h41 hg3) h42 ?_)
                      refine WR.nil ?_
                      exact ⟨(or_f hg3), rfl⟩
          · rintro f_5 _ ⟨h43, rfl⟩
            refine WR.k rfl rfl rfl (OS.assign (v := vB ((!decide (r_6 = (0 : Int))) || (((((decide (r_4.2 = (0 : Int))) && (decide (r_5.2 = (0 : Int)))) && (decide (x.Scopes &&& r_4.1.Scopes = x.Scopes))) && (decide (x.Scopes &&& r_5.1.Scopes = x.Scopes))) && (decide (x.Redirect = r_5.1.Redirect))))) rfl h43 ?_)
            refine WR.nil ?_
            refine WC.ret ?_
            repeat first | refine thenQ_ret ?_ | refine blkQ_ret ?_
            cases hp
            exact fnQ.l1 (fn := Tryd.f4) rfl (.inl ⟨_, rfl, rfl⟩) ⟨_, rfl, (((((((((((s.t s2).t s4).t s6).t s12).t s14).t s15).t s16).t s18).t s19).t s20).t s22).leave hcw (by decide)⟩

-- holdfast/holdfastlaw13.GrantDrops
set_option maxHeartbeats 4000000 in
theorem W5 (K : Nat) (w0 : World) (cw : Col) (hcw : ∀ b, cw b < 40) {l : List S_holdfastlaw13_Deed} {x : S_holdfastlaw13_Deed} {other : List UInt8} {r : Bool} (hp : holdfastlaw13_GrantDrops K l x other = some r) {i : Nat} (hi : i ≤ 1) {v_ : Value} (o : Vw E44 i w0 cw v_ l) :
    Calls Tryd.prog 5 [v_, .agg (E44.e x).toArray, vS other].toArray w0 fun e w1 => ∃ (d : Col), e = .returned (vB r) ∧ St [] w0 cw w1 d := by
  refine calls_intro Tryd.func5 rfl Tryd.ntmps5 rfl ?_
  unfold holdfastlaw13_GrantDrops at hp
  refine WC.seq (WC.region ?_)
  refine WR.k rfl rfl rfl (OS.boxBx (us := [vI x.Kind, vS x.Owner.Tenant, vS x.Owner.User, vS x.Client, vS x.Redirect, vU8 x.Scopes]) (c := cw) 40 rfl rfl rfl ?_); intro p_ w_ c_ o1 s
  refine WR.k rfl rfl rfl (OS.assign (v := vB false) rfl rfl ?_)
  refine WR.nil ?_
  refine WC.seq (WC.region ?_)
  obtain ⟨r_, hr_, hp⟩ := bind_some hp
  refine WR.k rfl rfl rfl (OS.callF (vs := []) rfl trivial Tryd.call6 ((W6 K w_ (rcc [] c_) (rcc_lt c_ rfl) hr_).mono ?_))
  rintro _ w_1 ⟨p_1, b, b1, d1, rfl, s1, o2, o3, o4⟩
  refine ⟨_, rfl, ?_⟩
  obtain ⟨c_1, s2, o2, o3, o4⟩ : ∃ c_1, St [] w_ c_ w_1 c_1 ∧ Bx 12000 w_1 c_1 p_1 [(.map (some b)), (.map (some b1))] ∧ Mp kv64 (VR.flat vv32) 12001 w_1 c_1 (.map (some b)) r_.clients ∧ Mp kv67 (VR.flat vv30) 12002 w_1 c_1 (.map (some b1)) r_.consents := ⟨_, s1.mg2 (sh := 10000) rfl, o2.tr (mg2_back s1 rfl), o3.tr (mg2_back s1 rfl), o4.tr (mg2_back s1 rfl)⟩
  obtain ⟨r_1, hr_1, hp⟩ := bind_some hp
  refine WR.k rfl rfl rfl (OS.callF (vs := []) rfl trivial Tryd.call13 ((W13 K w_1 (rcc [] c_1) (rcc_lt c_1 rfl) hr_1).mono ?_))
  rintro _ w_2 ⟨p_2, sl, sl1, d2, rfl, s3, o5, o6, o7⟩
  refine ⟨_, rfl, ?_⟩
  obtain ⟨c_2, s4, o5, o6, o7⟩ : ∃ c_2, St [] w_1 c_1 w_2 c_2 ∧ Bx 22000 w_2 c_2 p_2 [sl.val, sl1.val] ∧ Ow E32 22001 w_2 c_2 sl.val r_1.c_ ∧ Ow E35 22002 w_2 c_2 sl1.val r_1.a := ⟨_, s3.mg2 (sh := 20000) rfl, o5.tr (mg2_back s3 rfl), o6.tr (mg2_back s3 rfl), o7.tr (mg2_back s3 rfl)⟩
  refine WR.k rfl rfl rfl (OS.assign (v := p_1) rfl rfl ?_)
  refine WR.k rfl rfl rfl (OS.assign (v := p_2) rfl rfl ?_)
  refine WR.nil ?_
  refine WC.seq ?_
  refine WC.seq (WC.region ?_)
  obtain ⟨r_2, hr_2, hp⟩ := bind_some hp
  refine WR.k rfl rfl rfl (OS.callF (vs := []) rfl trivial Tryd.call7 ((W7 K w_2 (rcc [] c_2) (rcc_lt c_2 rfl) hr_2).mono ?_))
  rintro _ w_3 ⟨d3, rfl, s5⟩
  refine ⟨_, rfl, ?_⟩
  obtain ⟨c_3, s6⟩ : ∃ c_3, St [] w_2 c_2 w_3 c_3 := ⟨_, s5.mg2 (sh := 30000) rfl⟩
  refine WR.k rfl rfl rfl (OS.not rfl rfl ?_)
  refine WR.nil ?_
  refine WC.cond (!r_2) rfl (fun hb => ?_) (fun hb => ?_)
  · rw [if_pos hb] at hp
    refine WC.seq (WC.region ?_)
    refine WR.k rfl rfl rfl (OS.assign (v := vB false) rfl rfl ?_)
    refine WR.nil ?_
    refine WC.ret ?_
    repeat first | refine thenQ_ret ?_ | refine blkQ_ret ?_
    cases hp
    exact fnQ.l1 (fn := Tryd.f5) rfl (.inl ⟨_, rfl, rfl⟩) ⟨_, rfl, (((s.t s2).t s4).t s6).leave hcw (by decide)⟩
  · rw [if_neg (nt hb)] at hp
    refine WC.skip ?_
    refine WC.seq ?_
    refine WC.seq (WC.region ?_)
    refine WR.k rfl rfl rfl (OS.assign (v := vI (0 : Int)) rfl rfl ?_)
    refine WR.nil ?_
    obtain ⟨q, hl, hp⟩ := bind_some hp
    obtain ⟨x5, x6⟩ := q; dsimp only at hp
    refine WC.blockJ2 (fun f_ w_4 => ∃ (b4 : Nat) (b5 : Nat) (c_4 : Col), f_ 2 = vS other ∧ f_ 4 = p_ ∧ f_ 7 = p_1 ∧ Mp kv64 (VR.flat vv32) 12001 w_4 c_4 (.map (some b4)) x5 ∧ Mp kv67 (VR.flat vv30) 12002 w_4 c_4 (.map (some b5)) x6 ∧ Bx 12000 w_4 c_4 p_1 [(.map (some b4)), (.map (some b5))] ∧ St [12000, 12001, 12002, 22000, 22001, 22002] w_3 c_3 w_4 c_4) ?_ ?_
    · have o18 := o6.keep s6 (by decide)
      obtain ⟨c_6, s7, o17⟩ := o18.recol 1
      have o20 := o7.keep (s6.t s7) (by decide)
      obtain ⟨c_7, s8, o19⟩ := o20.recol 1
      have o21 := o3.keep (((s4.t s6).t s7).t s8) (by decide) (by decide)
      have o22 := o4.keep (((s4.t s6).t s7).t s8) (by decide) (by decide)
      have o23 := o2.keep (((s4.t s6).t s7).t s8) (by decide)
      have o24 := o17.keep s8 (by decide)
      have o25 := o5.keep ((s6.t s7).t s8) (by decide)
      refine WC.loop (fun n => fun f_1 w_5 => ∃ (x1 : List (S_grant_name × S_api_Client)) (x2 : List (S_grant_use × UInt8)) (x3 : List S_api_Client) (x4 : List S_api_Consent) (i1 : Int) (b2 : Nat) (b3 : Nat) (v_1 : Value) (v_2 : Value) (c_5 : Col), holdfastlaw13_GrantDrops.l1 K n l x1 x2 x3 x4 i1 = some (x5, x6) ∧ f_1 0 = v_ ∧ f_1 2 = vS other ∧ f_1 4 = p_ ∧ f_1 7 = p_1 ∧ f_1 8 = p_2 ∧ f_1 9 = vI i1 ∧ Mp kv64 (VR.flat vv32) 12001 w_5 c_5 (.map (some b2)) x1 ∧ Mp kv67 (VR.flat vv30) 12002 w_5 c_5 (.map (some b3)) x2 ∧ Bx 12000 w_5 c_5 p_1 [(.map (some b2)), (.map (some b3))] ∧ Vw E32 1 w_5 c_5 v_1 x3 ∧ Vw E35 1 w_5 c_5 v_2 x4 ∧ Bx 22000 w_5 c_5 p_2 [v_1, v_2] ∧ St [12000, 12001, 12002, 22000, 22001, 22002] w_3 c_3 w_5 c_5) K ⟨_, _, _, _, _, _, _, _, _, _, hl, rfl, rfl, rfl, rfl, rfl, rfl, o21, o22, o23, o24.vw, o19.vw, o25, (s7.t s8).mono (by decide)⟩ ?_
      rintro n f_1 w_5 ⟨x1, x2, x3, x4, i1, b2, b3, v_1, v_2, c_5, hl, h, h1, h2, h3, h4, h5, o9, o10, o8, o12, o13, o11, s9⟩
      cases n with
      | zero => exact absurd hl (by simp [holdfastlaw13_GrantDrops.l1])
      | succ k =>
      rw [holdfastlaw13_GrantDrops.l1] at hl
      refine WC.seq ?_
      refine WC.seq (WC.region ?_)
      refine WR.k rfl rfl rfl (OS.move (v := vI i1) rfl h5 ?_)
      refine WR.k rfl rfl rfl (OS.move (v := v_) rfl h ?_)
      have o26 := o.keep ((((s.t s2).t s4).t s6).t s9) (nin hi (by decide))
      refine WR.k rfl rfl rfl (OS.lenSl rfl Tryd.runUnderlying42 rfl o26.isSl ?_)
      refine WR.k rfl rfl rfl (OS.bin (a := vI i1) (b := vI (l.length : Int)) rfl rfl rfl bI_lss ?_)
      refine WR.k rfl rfl rfl (OS.move (v := vB (decide (i1 < (l.length : Int)))) rfl rfl ?_)
      refine WR.cut2 3 (fun f_2 w_6 => f_2 0 = v_ ∧ f_2 2 = vS other ∧ f_2 4 = p_ ∧ f_2 7 = p_1 ∧ f_2 8 = p_2 ∧ f_2 9 = vI i1 ∧ f_2 29 = vB ((decide (i1 < (l.length : Int))) && (decide (i1 < (60 : Int)))) ∧ w_5 = w_6) ?_ ?_
      · rcases Bool.eq_false_or_eq_true (decide (i1 < (l.length : Int))) with hg | hg
        · refine WR.kT rfl rfl (vb_t rfl hg) rfl rfl (OS.move (v := vI i1) rfl h5 ?_)
          refine WR.kT rfl rfl (vb_t rfl hg) rfl rfl (OS.bin (a := vI i1) (b := vI (60 : Int)) rfl rfl rfl bI_lss ?_)
          refine WR.k rfl rfl rfl (OS.pickT rfl (vb_t rfl hg) rfl ?_)
          refine WR.nil ?_
          exact ⟨h, h1, h2, h3, h4, h5, (and_t hg), rfl⟩
        · refine WR.gF rfl rfl (vb_f rfl hg) rfl rfl ?_
          refine WR.gF rfl rfl (vb_f rfl hg) rfl rfl ?_
          refine WR.k rfl rfl rfl (OS.pickF rfl (vb_f rfl hg) rfl ?_)
          refine WR.nil ?_
          exact ⟨h, h1, h2, h3, h4, h5, (and_f hg), rfl⟩
      · rintro f_2 _ ⟨h6, h7, h8, h9, h10, h11, h12, rfl⟩
        refine WR.nil ?_
        refine WC.cond ((decide (i1 < (l.length : Int))) && (decide (i1 < (60 : Int)))) h12 (fun hb1 => ?_) (fun hb1 => ?_)
        · rw [if_pos hb1] at hl
          refine WC.skip ?_
          refine WC.seq ?_
          refine WC.block ?_
          refine WC.region ?_
          refine WR.k rfl rfl rfl (OS.move (v := p_1) rfl h9 ?_)
          refine WR.k rfl rfl rfl (OS.move (v := p_2) rfl h10 ?_)
          refine WR.k rfl rfl rfl (OS.move (v := v_) rfl h6 ?_)
          refine WR.k rfl rfl rfl (OS.move (v := vI i1) rfl h11 ?_)
          obtain ⟨e1, he1, hl⟩ := bind_some hl
          obtain ⟨ha, hb2, hc⟩ := gt_some he1
          refine WR.k rfl rfl rfl (OS.idx rfl Tryd.runUnderlying42 Tryd.sizeOf44 rfl o26.isSl rfl ha hb2 ?_); intro p_3 a1
          refine WR.k rfl rfl rfl (OS.ldN (us := E44.e e1) rfl Tryd.isAgg44 Tryd.sizeOf44 rfl (o26.ld a1 hc) rfl ?_)
          obtain ⟨sl2, e2⟩ := isSlv o12.isSl; subst e2
          obtain ⟨sl3, e3⟩ := isSlv o13.isSl; subst e3
          obtain ⟨r_3, hr_3, hl⟩ := bind_some hl
          refine WR.k rfl rfl rfl (OS.callF (vs := [p_1, p_2, .agg (E44.e e1).toArray]) rfl ⟨rfl, rfl, rfl, trivial⟩ Tryd.call14 ((W14 (sl := sl2) (sl1 := sl3) K w_5 (rcc [12000, 12001, 12002, 22000] c_5) (rcc_lt c_5 rfl) hr_3 (o8.tr (rc_tr (by decide))) (o9.tr (rc_tr (by decide))) (o10.tr (rc_tr (by decide))) (o11.tr (rc_tr (by decide))) (o12.tr (rc_tr rfl)) (o13.tr (rc_tr rfl))).mono ?_))
          rintro _ w_7 ⟨b6, b7, sl4, sl5, d4, rfl, s10, o27, o28, o29, o30, o31, o32⟩
          refine ⟨_, rfl, ?_⟩
          obtain ⟨c_9, s11, o27, o28, o29, o30, o31, o32⟩ : ∃ c_9, St [12000, 12001, 12002, 22000] w_5 c_5 w_7 c_9 ∧ Bx 12000 w_7 c_9 p_1 [(.map (some b6)), (.map (some b7))] ∧ Mp kv64 (VR.flat vv32) 12001 w_7 c_9 (.map (some b6)) r_3.2.1.clients ∧ Mp kv67 (VR.flat vv30) 12002 w_7 c_9 (.map (some b7)) r_3.2.1.consents ∧ Bx 22000 w_7 c_9 p_2 [sl4.val, sl5.val] ∧ Vw E32 1 w_7 c_9 sl4.val r_3.2.2.c_ ∧ Vw E35 1 w_7 c_9 sl5.val r_3.2.2.a := ⟨_, s10.mg2 (sh := 70000) rfl, o27.tr (mg2_back s10 rfl), o28.tr (mg2_back s10 rfl), o29.tr (mg2_back s10 rfl), o30.tr (mg2_back s10 rfl), o31.tr (mg2_back s10 rfl), o32.tr (mg2_back s10 rfl)⟩
          refine WR.nil ?_
          refine WC.region ?_
          refine WR.k rfl rfl rfl (OS.move (v := vI i1) rfl h11 ?_)
          refine WR.k rfl rfl rfl (OS.bin (a := vI i1) (b := vI (1 : Int)) rfl rfl rfl bI_add ?_)
          refine WR.k rfl rfl rfl (OS.assign (v := vI (W (i1 + (1 : Int)))) rfl rfl ?_)
          refine WR.nil ?_
          exact ⟨k, by omega, _, _, _, _, _, _, _, _, _, _, hl, h6, h7, h8, h9, h10, rfl, o28, o29, o27, o31, o32, o30, (s9.t s11).mono (by decide)⟩
        · rw [if_neg (nt hb1)] at hl
          refine WC.exit ?_
          cases hl
          exact ⟨_, _, _, h7, h8, h9, o9, o10, o8, s9.mono (by decide)⟩
    · rintro f_ w_4 ⟨b4, b5, c_4, h13, h14, h15, o15, o16, o14, s12⟩
      refine WC.seq (WC.region ?_)
      refine WR.k rfl rfl rfl (OS.move (v := p_1) rfl h15 ?_)
      have o33 := o1.keep (((s2.t s4).t s6).t s12) (by decide)
      refine WR.k rfl rfl rfl (OS.fieldAddrBx rfl Tryd.runUnderlying44 rfl Tryd.sizeOf26 rfl h14 o33 ?_); intro p_4 a2
      refine WR.k rfl rfl rfl (OS.ldN (us := [vS x.Owner.Tenant, vS x.Owner.User]) rfl Tryd.isAgg26 Tryd.sizeOf26 rfl (o33.ldn a2 (sub_of rfl)) rfl ?_)
      refine WR.k rfl rfl rfl (OS.move (v := vS other) rfl h13 ?_)
      obtain ⟨r_4, hr_4, hp⟩ := bind_some hp
      refine WR.k rfl rfl rfl (OS.callF (vs := [p_1, .agg (E26.e x.Owner).toArray, vS other]) rfl ⟨rfl, rfl, rfl, trivial⟩ Tryd.call15 ((W15 K w_4 (rcc [12000, 12001, 12002] c_4) (rcc_lt c_4 rfl) hr_4 (o14.tr (rc_tr (by decide))) (o15.tr (rc_tr (by decide))) (o16.tr (rc_tr (by decide)))).mono ?_))
      rintro _ w_8 ⟨d5, rfl, s13⟩
      refine ⟨_, rfl, ?_⟩
      obtain ⟨c_10, s14⟩ : ∃ c_10, St [] w_4 c_4 w_8 c_10 := ⟨_, s13.mg2 (sh := 80000) rfl⟩
      refine WR.k rfl rfl rfl (OS.move (v := .tuple #[.agg (E35.e r_4.1).toArray, vI r_4.2]) rfl rfl ?_)
      refine WR.k rfl rfl rfl (OS.extract (v := .agg (E35.e r_4.1).toArray) rfl rfl rfl ?_)
      refine WR.k rfl rfl rfl (OS.extract (v := vI r_4.2) rfl rfl rfl ?_)
      refine WR.k rfl rfl rfl (OS.allocBx (us := [vS ([] : List UInt8), vS ([] : List UInt8), vS ([] : List UInt8), vU8 (0 : UInt8)]) (c := c_10) 44 rfl Tryd.zeroValue35 rfl ?_); intro p_5 w_9 c_11 o34 s15
      refine WR.k0 rfl rfl (OS.stBxAll (v := .agg (E35.e r_4.1).toArray) (ws := [vS r_4.1.Owner.Tenant, vS r_4.1.Owner.User, vS r_4.1.Client, vU8 r_4.1.Scopes]) rfl Tryd.sizeOf35 rfl rfl rfl o34 rfl rfl (one_of rfl) ?_); intro w_10 o35 s16
      refine WR.k rfl rfl rfl (OS.assign (v := vI r_4.2) rfl rfl ?_)
      refine WR.nil ?_
      refine WC.seq ?_
      refine WC.seq (WC.region ?_)
      refine WR.k rfl rfl rfl (OS.move (v := p_1) rfl h15 ?_)
      have o36 := o33.keep ((s14.t s15).t s16) (by decide)
      refine WR.k rfl rfl rfl (OS.fieldAddrBx rfl Tryd.runUnderlying44 rfl Tryd.sizeOf26 rfl h14 o36 ?_); intro p_6 a3
      refine WR.k rfl rfl rfl (OS.fieldAddrP rfl Tryd.runUnderlying26 rfl Tryd.sizeOf9 rfl rfl a3 ?_); intro p_7 a4
      refine WR.k rfl rfl rfl (OS.ld1 (u := vS x.Owner.Tenant) rfl Tryd.isAgg9 rfl (o36.ldn a4 (sub_of rfl)) ?_)
      refine WR.k rfl rfl rfl (OS.fieldAddrBx rfl Tryd.runUnderlying44 rfl Tryd.sizeOf9 rfl h14 o36 ?_); intro p_8 a5
      refine WR.k rfl rfl rfl (OS.ld1 (u := vS x.Client) rfl Tryd.isAgg9 rfl (o36.ldn a5 (sub_of rfl)) ?_)
      have o37 := o14.keep ((s14.t s15).t s16) (by decide)
      have o38 := o15.keep ((s14.t s15).t s16) (by decide) (by decide)
      have o39 := o16.keep ((s14.t s15).t s16) (by decide) (by decide)
      obtain ⟨r_5, hr_5, hp⟩ := bind_some hp
      refine WR.k rfl rfl rfl (OS.callF (vs := [p_1, vS x.Owner.Tenant, vS x.Client]) rfl ⟨rfl, rfl, rfl, trivial⟩ Tryd.call18 ((W18 K w_10 (rcc [12000, 12001, 12002] c_11) (rcc_lt c_11 rfl) hr_5 (o37.tr (rc_tr (by decide))) (o38.tr (rc_tr (by decide))) (o39.tr (rc_tr (by decide)))).mono ?_))
      rintro _ w_11 ⟨b8, b9, d6, rfl, s17, o40, o41, o42⟩
      refine ⟨_, rfl, ?_⟩
      obtain ⟨c_12, s18, o40, o41, o42⟩ : ∃ c_12, St [12000, 12001, 12002] w_10 c_11 w_11 c_12 ∧ Bx 12000 w_11 c_12 p_1 [(.map (some b8)), (.map (some b9))] ∧ Mp kv64 (VR.flat vv32) 12001 w_11 c_12 (.map (some b8)) r_5.2.clients ∧ Mp kv67 (VR.flat vv30) 12002 w_11 c_12 (.map (some b9)) r_5.2.consents := ⟨_, s17.mg2 (sh := 90000) rfl, o40.tr (mg2_back s17 rfl), o41.tr (mg2_back s17 rfl), o42.tr (mg2_back s17 rfl)⟩
      refine WR.k rfl rfl rfl (OS.bin (a := vI r_5.1) (b := vI (0 : Int)) rfl rfl rfl bI_neq ?_)
      refine WR.nil ?_
      refine WC.cond (!decide (r_5.1 = (0 : Int))) rfl (fun hb3 => ?_) (fun hb3 => ?_)
      · rw [if_pos hb3] at hp
        refine WC.seq (WC.region ?_)
        refine WR.k rfl rfl rfl (OS.assign (v := vB true) rfl rfl ?_)
        refine WR.nil ?_
        refine WC.ret ?_
        repeat first | refine thenQ_ret ?_ | refine blkQ_ret ?_
        cases hp
        exact fnQ.l1 (fn := Tryd.f5) rfl (.inl ⟨_, rfl, rfl⟩) ⟨_, rfl, ((((((((s.t s2).t s4).t s6).t s12).t s14).t s15).t s16).t s18).leave hcw (by decide)⟩
      · rw [if_neg (nt hb3)] at hp
        refine WC.skip ?_
        refine WC.seq (WC.region ?_)
        refine WR.k rfl rfl rfl (OS.move (v := p_1) rfl h15 ?_)
        have o43 := o36.keep s18 (by decide)
        refine WR.k rfl rfl rfl (OS.fieldAddrBx rfl Tryd.runUnderlying44 rfl Tryd.sizeOf26 rfl h14 o43 ?_); intro p_9 a6
        refine WR.k rfl rfl rfl (OS.ldN (us := [vS x.Owner.Tenant, vS x.Owner.User]) rfl Tryd.isAgg26 Tryd.sizeOf26 rfl (o43.ldn a6 (sub_of rfl)) rfl ?_)
        refine WR.k rfl rfl rfl (OS.fieldAddrBx rfl Tryd.runUnderlying44 rfl Tryd.sizeOf9 rfl h14 o43 ?_); intro p_10 a7
        refine WR.k rfl rfl rfl (OS.ld1 (u := vS x.Client) rfl Tryd.isAgg9 rfl (o43.ldn a7 (sub_of rfl)) ?_)
        obtain ⟨r_6, hr_6, hp⟩ := bind_some hp
        refine WR.k rfl rfl rfl (OS.callF (vs := [p_1, .agg (E26.e x.Owner).toArray, vS x.Client]) rfl ⟨rfl, rfl, rfl, trivial⟩ Tryd.call15 ((W15 K w_11 (rcc [12000, 12001, 12002] c_12) (rcc_lt c_12 rfl) hr_6 (o40.tr (rc_tr (by decide))) (o41.tr (rc_tr (by decide))) (o42.tr (rc_tr (by decide)))).mono ?_))
        rintro _ w_12 ⟨d7, rfl, s19⟩
        refine ⟨_, rfl, ?_⟩
        obtain ⟨c_13, s20⟩ : ∃ c_13, St [] w_11 c_12 w_12 c_13 := ⟨_, s19.mg2 (sh := 100000) rfl⟩
        refine WR.k rfl rfl rfl (OS.move (v := .tuple #[.agg (E35.e r_6.1).toArray, vI r_6.2]) rfl rfl ?_)
        refine WR.k rfl rfl rfl (OS.extract (v := .agg (E35.e r_6.1).toArray) rfl rfl rfl ?_)
        refine WR.k rfl rfl rfl (OS.extract (v := vI r_6.2) rfl rfl rfl ?_)
        refine WR.k rfl rfl rfl (OS.allocBx (us := [vS ([] : List UInt8), vS ([] : List UInt8), vS ([] : List UInt8), vU8 (0 : UInt8)]) (c := c_13) 45 rfl Tryd.zeroValue35 rfl ?_); intro p_11 w_13 c_14 o44 s21
        refine WR.k0 rfl rfl (OS.stBxAll (v := .agg (E35.e r_6.1).toArray) (ws := [vS r_6.1.Owner.Tenant, vS r_6.1.Owner.User, vS r_6.1.Client, vU8 r_6.1.Scopes]) rfl Tryd.sizeOf35 rfl rfl rfl o44 rfl rfl (one_of rfl) ?_); intro w_14 o45 s22
        refine WR.k rfl rfl rfl (OS.assign (v := vI r_6.2) rfl rfl ?_)
        refine WR.nil ?_
        refine WC.seq (WC.region ?_)
        refine WR.k rfl rfl rfl (OS.move (v := p_1) rfl h15 ?_)
        have o46 := o43.keep ((s20.t s21).t s22) (by decide)
        refine WR.k rfl rfl rfl (OS.fieldAddrBx rfl Tryd.runUnderlying44 rfl Tryd.sizeOf26 rfl h14 o46 ?_); intro p_12 a8
        refine WR.k rfl rfl rfl (OS.fieldAddrP rfl Tryd.runUnderlying26 rfl Tryd.sizeOf9 rfl rfl a8 ?_); intro p_13 a9
        refine WR.k rfl rfl rfl (OS.ld1 (u := vS x.Owner.Tenant) rfl Tryd.isAgg9 rfl (o46.ldn a9 (sub_of rfl)) ?_)
        refine WR.k rfl rfl rfl (OS.fieldAddrBx rfl Tryd.runUnderlying44 rfl Tryd.sizeOf9 rfl h14 o46 ?_); intro p_14 a10
        refine WR.k rfl rfl rfl (OS.ld1 (u := vS x.Client) rfl Tryd.isAgg9 rfl (o46.ldn a10 (sub_of rfl)) ?_)
        have o47 := o40.keep ((s20.t s21).t s22) (by decide)
        have o48 := o41.keep ((s20.t s21).t s22) (by decide) (by decide)
        have o49 := o42.keep ((s20.t s21).t s22) (by decide) (by decide)
        obtain ⟨r_7, hr_7, hp⟩ := bind_some hp
        refine WR.k rfl rfl rfl (OS.callF (vs := [p_1, vS x.Owner.Tenant, vS x.Client]) rfl ⟨rfl, rfl, rfl, trivial⟩ Tryd.call16 ((W16 K w_14 (rcc [12000, 12001, 12002] c_14) (rcc_lt c_14 rfl) hr_7 (o47.tr (rc_tr (by decide))) (o48.tr (rc_tr (by decide))) (o49.tr (rc_tr (by decide)))).mono ?_))
        rintro _ w_15 ⟨d8, rfl, s23⟩
        refine ⟨_, rfl, ?_⟩
        obtain ⟨c_15, s24⟩ : ∃ c_15, St [] w_14 c_14 w_15 c_15 := ⟨_, s23.mg2 (sh := 110000) rfl⟩
        refine WR.k rfl rfl rfl (OS.move (v := .tuple #[.agg (E32.e r_7.1).toArray, vI r_7.2]) rfl rfl ?_)
        refine WR.k rfl rfl rfl (OS.extract (v := .agg (E32.e r_7.1).toArray) rfl rfl rfl ?_)
        refine WR.k rfl rfl rfl (OS.extract (v := vI r_7.2) rfl rfl rfl ?_)
        refine WR.k rfl rfl rfl (OS.allocBx (us := [vS ([] : List UInt8), vS ([] : List UInt8), vS ([] : List UInt8), vU8 (0 : UInt8)]) (c := c_15) 46 rfl Tryd.zeroValue32 rfl ?_); intro p_15 w_16 c_16 o50 s25
        refine WR.k0 rfl rfl (OS.stBxAll (v := .agg (E32.e r_7.1).toArray) (ws := [vS r_7.1.Tenant, vS r_7.1.Name, vS r_7.1.Redirect, vU8 r_7.1.Scopes]) rfl Tryd.sizeOf32 rfl rfl rfl o50 rfl rfl (one_of rfl) ?_); intro w_17 o51 s26
        refine WR.k rfl rfl rfl (OS.assign (v := vI r_7.2) rfl rfl ?_)
        refine WR.nil ?_
        refine WC.seq (WC.region ?_)
        refine WR.k rfl rfl rfl (OS.move (v := p_1) rfl h15 ?_)
        have o52 := o46.keep ((s24.t s25).t s26) (by decide)
        refine WR.k rfl rfl rfl (OS.fieldAddrBx rfl Tryd.runUnderlying44 rfl Tryd.sizeOf26 rfl h14 o52 ?_); intro p_16 a11
        refine WR.k rfl rfl rfl (OS.ldN (us := [vS x.Owner.Tenant, vS x.Owner.User]) rfl Tryd.isAgg26 Tryd.sizeOf26 rfl (o52.ldn a11 (sub_of rfl)) rfl ?_)
        refine WR.k rfl rfl rfl (OS.move (v := vS other) rfl h13 ?_)
        have o53 := o47.keep ((s24.t s25).t s26) (by decide)
        have o54 := o48.keep ((s24.t s25).t s26) (by decide) (by decide)
        have o55 := o49.keep ((s24.t s25).t s26) (by decide) (by decide)
        obtain ⟨r_8, hr_8, hp⟩ := bind_some hp
        refine WR.k rfl rfl rfl (OS.callF (vs := [p_1, .agg (E26.e x.Owner).toArray, vS other]) rfl ⟨rfl, rfl, rfl, trivial⟩ Tryd.call15 ((W15 K w_17 (rcc [12000, 12001, 12002] c_16) (rcc_lt c_16 rfl) hr_8 (o53.tr (rc_tr (by decide))) (o54.tr (rc_tr (by decide))) (o55.tr (rc_tr (by decide)))).mono ?_))
        rintro _ w_18 ⟨d9, rfl, s27⟩
        refine ⟨_, rfl, ?_⟩
        obtain ⟨c_17, s28⟩ : ∃ c_17, St [] w_17 c_16 w_18 c_17 := ⟨_, s27.mg2 (sh := 120000) rfl⟩
        refine WR.k rfl rfl rfl (OS.move (v := .tuple #[.agg (E35.e r_8.1).toArray, vI r_8.2]) rfl rfl ?_)
        refine WR.k rfl rfl rfl (OS.extract (v := .agg (E35.e r_8.1).toArray) rfl rfl rfl ?_)
        refine WR.k rfl rfl rfl (OS.extract (v := vI r_8.2) rfl rfl rfl ?_)
        refine WR.k rfl rfl rfl (OS.allocBx (us := [vS ([] : List UInt8), vS ([] : List UInt8), vS ([] : List UInt8), vU8 (0 : UInt8)]) (c := c_17) 47 rfl Tryd.zeroValue35 rfl ?_); intro p_17 w_19 c_18 o56 s29
        refine WR.k0 rfl rfl (OS.stBxAll (v := .agg (E35.e r_8.1).toArray) (ws := [vS r_8.1.Owner.Tenant, vS r_8.1.Owner.User, vS r_8.1.Client, vU8 r_8.1.Scopes]) rfl Tryd.sizeOf35 rfl rfl rfl o56 rfl rfl (one_of rfl) ?_); intro w_20 o57 s30
        refine WR.k rfl rfl rfl (OS.assign (v := vI r_8.2) rfl rfl ?_)
        refine WR.nil ?_
        refine WC.seq (WC.region ?_)
        refine WR.k rfl rfl rfl (OS.move (v := vI r_6.2) rfl rfl ?_)
        refine WR.k rfl rfl rfl (OS.bin (a := vI r_6.2) (b := vI (4 : Int)) rfl rfl rfl bI_eql ?_)
        refine WR.k rfl rfl rfl (OS.move (v := vB (decide (r_6.2 = (4 : Int)))) rfl rfl ?_)
        refine WR.cut2 3 (fun f_3 w_21 => f_3 2 = vS other ∧ f_3 4 = p_ ∧ f_3 7 = p_1 ∧ f_3 10 = p_5 ∧ f_3 11 = vI r_4.2 ∧ f_3 16 = p_17 ∧ f_3 17 = vI r_8.2 ∧ f_3 87 = vB ((decide (r_6.2 = (4 : Int))) && (decide (r_7.2 = (4 : Int)))) ∧ w_20 = w_21) ?_ ?_
        · rcases Bool.eq_false_or_eq_true (decide (r_6.2 = (4 : Int))) with hg1 | hg1
          · refine WR.kT rfl rfl (vb_t rfl hg1) rfl rfl (OS.move (v := vI r_7.2) rfl rfl ?_)
            refine WR.kT rfl rfl (vb_t rfl hg1) rfl rfl (OS.bin (a := vI r_7.2) (b := vI (4 : Int)) rfl rfl rfl bI_eql ?_)
            refine WR.k rfl rfl rfl (OS.pickT rfl (vb_t rfl hg1) rfl ?_)
            refine WR.nil ?_
            exact ⟨h13, h14, h15, rfl, rfl, rfl, rfl, (and_t hg1), rfl⟩
          · refine WR.gF rfl rfl (vb_f rfl hg1) rfl rfl ?_
            refine WR.gF rfl rfl (vb_f rfl hg1) rfl rfl ?_
            refine WR.k rfl rfl rfl (OS.pickF rfl (vb_f rfl hg1) rfl ?_)
            refine WR.nil ?_
            exact ⟨h13, h14, h15, rfl, rfl, rfl, rfl, (and_f hg1), rfl⟩
        · rintro f_3 _ ⟨h16, h17, h18, h19, h20, h21, h22, h23, rfl⟩
          refine WR.k rfl rfl rfl (OS.move (v := vB ((decide (r_6.2 = (4 : Int))) && (decide (r_7.2 = (4 : Int))))) rfl h23 ?_)
          obtain ⟨b10, ht, hp⟩ := bind_some hp
          refine WR.cut2 9 (fun f_4 w_22 => ∃ (c_20 : Col), f_4 2 = vS other ∧ f_4 4 = p_ ∧ f_4 10 = p_5 ∧ f_4 11 = vI r_4.2 ∧ f_4 16 = p_17 ∧ f_4 17 = vI r_8.2 ∧ f_4 97 = vB b10 ∧ St [12000, 12001, 12002] w_20 c_18 w_22 c_20) ?_ ?_
          · rcases Bool.eq_false_or_eq_true ((decide (r_6.2 = (4 : Int))) && (decide (r_7.2 = (4 : Int)))) with hg2 | hg2
            · rw [if_pos hg2] at ht
              refine WR.kT rfl rfl (vb_t rfl hg2) rfl rfl (OS.move (v := p_1) rfl h18 ?_)
              have o58 := o52.keep ((s28.t s29).t s30) (by decide)
              refine WR.kT rfl rfl (vb_t rfl hg2) rfl rfl (OS.fieldAddrBx rfl Tryd.runUnderlying44 rfl Tryd.sizeOf26 rfl h17 o58 ?_); intro p_18 a12
              refine WR.kT rfl rfl (vb_t rfl hg2) rfl rfl (OS.fieldAddrP rfl Tryd.runUnderlying26 rfl Tryd.sizeOf9 rfl rfl a12 ?_); intro p_19 a13
              refine WR.kT rfl rfl (vb_t rfl hg2) rfl rfl (OS.ld1 (u := vS x.Owner.Tenant) rfl Tryd.isAgg9 rfl (o58.ldn a13 (sub_of rfl)) ?_)
              refine WR.kT rfl rfl (vb_t rfl hg2) rfl rfl (OS.fieldAddrBx rfl Tryd.runUnderlying44 rfl Tryd.sizeOf9 rfl h17 o58 ?_); intro p_20 a14
              refine WR.kT rfl rfl (vb_t rfl hg2) rfl rfl (OS.ld1 (u := vS x.Client) rfl Tryd.isAgg9 rfl (o58.ldn a14 (sub_of rfl)) ?_)
              have o59 := o53.keep ((s28.t s29).t s30) (by decide)
              have o60 := o54.keep ((s28.t s29).t s30) (by decide) (by decide)
              have o61 := o55.keep ((s28.t s29).t s30) (by decide) (by decide)
              obtain ⟨r_9, hr_9, ht⟩ := bind_some ht
              refine WR.kT rfl rfl (vb_t rfl hg2) rfl rfl (OS.callF (vs := [p_1, vS x.Owner.Tenant, vS x.Client]) rfl ⟨rfl, rfl, rfl, trivial⟩ Tryd.call18 ((W18 K w_20 (rcc [12000, 12001, 12002] c_18) (rcc_lt c_18 rfl) hr_9 (o59.tr (rc_tr (by decide))) (o60.tr (rc_tr (by decide))) (o61.tr (rc_tr (by decide)))).mono ?_))
              rintro _ w_23 ⟨b11, b12, d10, rfl, s31, o62, o63, o64⟩
              refine ⟨_, rfl, ?_⟩
              obtain ⟨c_21, s32, o62, o63, o64⟩ : ∃ c_21, St [12000, 12001, 12002] w_20 c_18 w_23 c_21 ∧ Bx 12000 w_23 c_21 p_1 [(.map (some b11)), (.map (some b12))] ∧ Mp kv64 (VR.flat vv32) 12001 w_23 c_21 (.map (some b11)) r_9.2.clients ∧ Mp kv67 (VR.flat vv30) 12002 w_23 c_21 (.map (some b12)) r_9.2.consents := ⟨_, s31.mg2 (sh := 140000) rfl, o62.tr (mg2_back s31 rfl), o63.tr (mg2_back s31 rfl), o64.tr (mg2_back s31 rfl)⟩
              refine WR.kT rfl rfl (vb_t rfl hg2) rfl rfl (OS.bin (a := vI r_9.1) (b := vI (4 : Int)) rfl rfl rfl bI_eql ?_)
              refine WR.k rfl rfl rfl (OS.pickT rfl (vb_t rfl hg2) rfl ?_)
              cases ht
              refine WR.nil ?_
              exact ⟨_, h16, h17, h19, h20, h21, h22, rfl, s32.mono (by decide)⟩
            · rw [if_neg (nt hg2)] at ht
              refine WR.gF rfl rfl (vb_f rfl hg2) rfl rfl ?_
              refine WR.gF rfl rfl (vb_f rfl hg2) rfl rfl ?_
              refine WR.gF rfl rfl (vb_f rfl hg2) rfl rfl ?_
              refine WR.gF rfl rfl (vb_f rfl hg2) rfl rfl ?_
              refine WR.gF rfl rfl (vb_f rfl hg2) rfl rfl ?_
              refine WR.gF rfl rfl (vb_f rfl hg2) rfl rfl ?_
              refine WR.gF rfl rfl (vb_f rfl hg2) rfl rfl ?_
              refine WR.gF rfl rfl (vb_f rfl hg2) rfl rfl ?_
              refine WR.k rfl rfl rfl (OS.pickF rfl (vb_f rfl hg2) rfl ?_)
              cases ht
              refine WR.nil ?_
              exact ⟨_, h16, h17, h19, h20, h21, h22, rfl, St.refl.mono (by decide)⟩
          · rintro f_4 w_22 ⟨c_20, h24, h25, h26, h27, h28, h29, h30, s33⟩
            refine WR.k rfl rfl rfl (OS.move (v := vB b10) rfl h30 ?_)
            refine WR.cut2 15 (fun f_5 w_24 => f_5 113 = vB (b10 && ((decide (other = x.Client)) || ((decide (r_4.1 = r_8.1)) && (decide (r_4.2 = r_8.2))))) ∧ w_22 = w_24) ?_ ?_
            · rcases Bool.eq_false_or_eq_true (b10) with hg3 | hg3
              · refine WR.kT rfl rfl (vb_t rfl hg3) rfl rfl (OS.move (v := vS other) rfl h24 ?_)
                have o65 := o52.keep (((s28.t s29).t s30).t s33) (by decide)
                refine WR.kT rfl rfl (vb_t rfl hg3) rfl rfl (OS.fieldAddrBx rfl Tryd.runUnderlying44 rfl Tryd.sizeOf9 rfl h25 o65 ?_); intro p_21 a15
                refine WR.kT rfl rfl (vb_t rfl hg3) rfl rfl (OS.ld1 (u := vS x.Client) rfl Tryd.isAgg9 rfl (o65.ldn a15 (sub_of rfl)) ?_)
                refine WR.kT rfl rfl (vb_t rfl hg3) rfl rfl (OS.bin (a := vS other) (b := vS x.Client) rfl rfl rfl bS_eql ?_)
                refine WR.kT rfl rfl (vb_t rfl hg3) rfl rfl (OS.move (v := vB (decide (other = x.Client))) rfl rfl ?_)
                refine WR.cut2 9 (fun f_6 w_25 => f_6 98 = vB b10 ∧ f_6 112 = vB ((decide (other = x.Client)) || ((decide (r_4.1 = r_8.1)) && (decide (r_4.2 = r_8.2)))) ∧ w_22 = w_25) ?_ ?_
                · rcases Bool.eq_false_or_eq_true (decide (other = x.Client)) with hg4 | hg4
                  · refine WR.gF rfl rfl (vb_t rfl hg4) rfl rfl ?_
                    refine WR.gF rfl rfl (vb_t rfl hg4) rfl rfl ?_
                    refine WR.gF rfl rfl (vb_t rfl hg4) rfl rfl ?_
                    refine WR.gF rfl rfl (vb_t rfl hg4) rfl rfl ?_
                    refine WR.gN rfl rfl rfl rfl rfl ?_
                    refine WR.gN rfl rfl rfl rfl rfl ?_
                    refine WR.gN rfl rfl rfl rfl rfl ?_
                    refine WR.gF rfl rfl (vb_t rfl hg4) rfl rfl ?_
                    refine WR.kT rfl rfl (vb_t rfl hg3) rfl rfl (OS.pickT rfl (vb_t rfl hg4) rfl ?_)
                    refine WR.nil ?_
                    exact ⟨rfl, (or_t hg4), rfl⟩
                  · have o66 := o35.keep ((((((((((s18.t s20).t s21).t s22).t s24).t s25).t s26).t s28).t s29).t s30).t s33) (by decide)
                    refine WR.kT rfl rfl (vb_f rfl hg4) rfl rfl (OS.ldN (us := [vS r_4.1.Owner.Tenant, vS r_4.1.Owner.User, vS r_4.1.Client, vU8 r_4.1.Scopes]) rfl Tryd.isAgg35 Tryd.sizeOf35 h26 o66.ldAll rfl ?_)
                    have o67 := o57.keep s33 (by decide)
                    refine WR.kT rfl rfl (vb_f rfl hg4) rfl rfl (OS.ldN (us := [vS r_8.1.Owner.Tenant, vS r_8.1.Owner.User, vS r_8.1.Client, vU8 r_8.1.Scopes]) rfl Tryd.isAgg35 Tryd.sizeOf35 h28 o67.ldAll rfl ?_)
                    refine WR.kT rfl rfl (vb_f rfl hg4) rfl rfl (OS.eqSt (us := E35.e r_4.1) (vs := E35.e r_8.1) rfl (.inl ⟨rfl, rfl⟩) Tryd.eqGuardType35 rfl rfl (fun w => q35 9997 _ _ w) ?_)
                    refine WR.kT rfl rfl (vb_f rfl hg4) rfl rfl (OS.move (v := vB (decide (r_4.1 = r_8.1))) rfl rfl ?_)
                    refine WR.cut2 4 (fun f_7 w_26 => f_7 98 = vB b10 ∧ f_7 103 = vB (decide (other = x.Client)) ∧ f_7 111 = vB ((decide (r_4.1 = r_8.1)) && (decide (r_4.2 = r_8.2))) ∧ w_22 = w_26) ?_ ?_
                    · rcases Bool.eq_false_or_eq_true (decide (r_4.1 = r_8.1)) with hg5 | hg5
                      · refine WR.kT rfl rfl (vb_t rfl hg5) rfl rfl (OS.move (v := vI r_4.2) rfl h27 ?_)
                        refine WR.kT rfl rfl (vb_t rfl hg5) rfl rfl (OS.move (v := vI r_8.2) rfl h29 ?_)
                        refine WR.kT rfl rfl (vb_t rfl hg5) rfl rfl (OS.bin (a := vI r_4.2) (b := vI r_8.2) rfl rfl rfl bI_eql ?_)
                        refine WR.kT rfl rfl (vb_f rfl hg4) rfl rfl (OS.pickT rfl (vb_t rfl hg5) rfl ?_)
                        refine WR.nil ?_
                        exact ⟨rfl, rfl, (and_t hg5), rfl⟩
                      · refine WR.gF rfl rfl (vb_f rfl hg5) rfl rfl ?_
                        refine WR.gF rfl rfl (vb_f rfl hg5) rfl rfl ?_
                        refine WR.gF rfl rfl (vb_f rfl hg5) rfl rfl ?_
                        refine WR.kT rfl rfl (vb_f rfl hg4) rfl rfl (OS.pickF rfl (vb_f rfl hg5) rfl ?_)
                        refine WR.nil ?_
                        exact ⟨rfl, rfl, (and_f hg5), rfl⟩
                    · rintro f_7 _ ⟨h31, h32, h33, rfl⟩
                      refine WR.kT rfl rfl (vb_t h31 hg3) rfl rfl (OS.pickF rfl (vb_f h32 hg4) h33 ?_)
                      refine WR.nil ?_
                      exact ⟨h31, (or_f hg4), rfl⟩
                · rintro f_6 _ ⟨h34, h35, rfl⟩
                  refine WR.k rfl rfl rfl (OS.pickT rfl (vb_t h34 hg3) h35 ?_)
                  refine WR.nil ?_
                  exact ⟨(and_t hg3), rfl⟩
              · refine WR.gF rfl rfl (vb_f rfl hg3) rfl rfl ?_
                refine WR.gF rfl rfl (vb_f rfl hg3) rfl rfl ?_
                refine WR.gF rfl rfl (vb_f rfl hg3) rfl rfl ?_
                refine WR.gF rfl rfl (vb_f rfl hg3) rfl rfl ?_
                refine WR.gF rfl rfl (vb_f rfl hg3) rfl rfl ?_
                refine WR.gN rfl rfl rfl rfl rfl ?_
                refine WR.gN rfl rfl rfl rfl rfl ?_
                refine WR.gN rfl rfl rfl rfl rfl ?_
                refine WR.gN rfl rfl rfl rfl rfl ?_
                refine WR.gN rfl rfl rfl rfl rfl ?_
                refine WR.gN rfl rfl rfl rfl rfl ?_
                refine WR.gN rfl rfl rfl rfl rfl ?_
                refine WR.gN rfl rfl rfl rfl rfl ?_
                refine WR.gF rfl rfl (vb_f rfl hg3) rfl rfl ?_
                refine WR.k rfl rfl rfl (OS.pickF rfl (vb_f rfl hg3) rfl ?_)
                refine WR.nil ?_
                exact ⟨(and_f hg3), rfl⟩
            · rintro f_5 _ ⟨h36, rfl⟩
              refine WR.k rfl rfl rfl (OS.assign (v := vB (b10 && ((decide (other = x.Client)) || ((decide (r_4.1 = r_8.1)) && (decide (r_4.2 = r_8.2)))))) rfl h36 ?_)
              refine WR.nil ?_
              refine WC.ret ?_
              repeat first | refine thenQ_ret ?_ | refine blkQ_ret ?_
              cases hp
              exact fnQ.l1 (fn := Tryd.f5) rfl (.inl ⟨_, rfl, rfl⟩) ⟨_, rfl, ((((((((((((((((((s.t s2).t s4).t s6).t s12).t s14).t s15).t s16).t s18).t s20).t s21).t s22).t s24).t s25).t s26).t s28).t s29).t s30).t s33).leave hcw (by decide)⟩
end Go.Proofs.YtjgbakieogadfaaDoor
