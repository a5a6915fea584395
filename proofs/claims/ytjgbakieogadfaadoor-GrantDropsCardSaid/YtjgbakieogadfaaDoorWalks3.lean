import Derived.Test.YtjgbakieogadfaaDoorWalks2
namespace Go.Proofs.YtjgbakieogadfaaDoor
open Go Go.Proofs L
set_option linter.unusedVariables false

-- (*holdfast/holdfastref13.Store).Drop
set_option maxHeartbeats 4000000 in
theorem W32 (K : Nat) (w0 : World) (cw : Col) (hcw : ∀ b, cw b < 40) {s : S_holdfastref13_Store} {tenant : List UInt8} {name : List UInt8} {r : Int × S_holdfastref13_Store} (hp : holdfastref13_Store_Drop K s tenant name = some r) {sl : Sl} {sl1 : Sl} {p_ : Value} (o : Bx 3 w0 cw p_ [sl.val, sl1.val]) (o1 : Vw E32 1 w0 cw sl.val s.c_) (o2 : Vw E35 1 w0 cw sl1.val s.a) :
    Calls Tryd.prog 32 [p_, vS tenant, vS name].toArray w0 fun e w1 => ∃ (sl4 : Sl) (sl5 : Sl) (d : Col), e = .returned (vI r.1) ∧ St [3] w0 cw w1 d ∧ Bx 3 w1 d p_ [sl4.val, sl5.val] ∧ Vw E32 1 w1 d sl4.val r.2.c_ ∧ Vw E35 1 w1 d sl5.val r.2.a := by
  refine calls_intro Tryd.func32 rfl Tryd.ntmps32 rfl ?_
  unfold holdfastref13_Store_Drop at hp
  refine WC.seq (WC.region ?_)
  refine WR.k rfl rfl rfl (OS.assign (v := vI (0 : Int)) rfl rfl ?_)
  refine WR.nil ?_
  refine WC.seq ?_
  refine WC.seq (WC.region ?_)
  refine WR.k rfl rfl rfl (OS.move (v := p_) rfl rfl ?_)
  refine WR.k rfl rfl rfl (OS.eqPtrS rfl (.inl ⟨rfl, rfl⟩) Tryd.underlying45 rfl o rfl ?_)
  refine WR.nil ?_
  refine WC.condF rfl ?_
  refine WC.skip ?_
  refine WC.seq ?_
  refine WC.seq (WC.region ?_)
  refine WR.k rfl rfl rfl (OS.move (v := p_) rfl rfl ?_)
  refine WR.k rfl rfl rfl (OS.move (v := vS tenant) rfl rfl ?_)
  refine WR.k rfl rfl rfl (OS.move (v := vS name) rfl rfl ?_)
  obtain ⟨r_, hr_, hp⟩ := bind_some hp
  refine WR.k rfl rfl rfl (OS.callF (vs := [p_, vS tenant, vS name]) rfl ⟨rfl, rfl, rfl, trivial⟩ Tryd.call45 ((W45 (sl := sl) (sl1 := sl1) K w0 (rcc [3] cw) (rcc_lt cw rfl) hr_ (o.tr (rc_tr (by decide))) (o1.tr (rc_tr rfl)) (o2.tr (rc_tr rfl))).mono ?_))
  rintro _ w_ ⟨d1, rfl, s1⟩
  refine ⟨_, rfl, ?_⟩
  obtain ⟨c_, s2⟩ : ∃ c_, St [] w0 cw w_ c_ := ⟨_, s1.mg2 (sh := 10000) rfl⟩
  refine WR.k rfl rfl rfl (OS.bin (a := vI r_) (b := vI (0 : Int)) rfl rfl rfl bI_lss ?_)
  refine WR.nil ?_
  refine WC.cond (decide (r_ < (0 : Int))) rfl (fun hb => ?_) (fun hb => ?_)
  · rw [if_pos hb] at hp
    refine WC.seq (WC.region ?_)
    refine WR.k rfl rfl rfl (OS.assign (v := vI (4 : Int)) rfl rfl ?_)
    refine WR.nil ?_
    refine WC.ret ?_
    repeat first | refine thenQ_ret ?_ | refine blkQ_ret ?_
    cases hp
    have o3 := o.keep s2 (by decide)
    have o4 := o1.keep s2 (by decide)
    have o5 := o2.keep s2 (by decide)
    exact fnQ.l1 (fn := Tryd.f32) rfl (.inl ⟨_, rfl, rfl⟩) ⟨_, _, _, rfl, s2.leave hcw (by decide), o3, o4, o5⟩
  · rw [if_neg (nt hb)] at hp
    refine WC.skip ?_
    refine WC.seq (WC.region ?_)
    refine WR.k rfl rfl rfl (OS.assign (v := (.slice none 0 0)) rfl rfl ?_)
    refine WR.nil ?_
    refine WC.seq ?_
    refine WC.seq (WC.region ?_)
    refine WR.k rfl rfl rfl (OS.assign (v := vI (0 : Int)) rfl rfl ?_)
    refine WR.nil ?_
    obtain ⟨q, hl, hp⟩ := bind_some hp
    obtain ⟨l1, hx⟩ : ∃ z, z = q := ⟨_, rfl⟩; subst hx
    refine WC.blockJ2 (fun f_ w_1 => ∃ (v_1 : Value) (c_1 : Col), f_ 0 = p_ ∧ f_ 1 = vS tenant ∧ f_ 2 = vS name ∧ f_ 7 = v_1 ∧ Ow E32 40 w_1 c_1 v_1 l1 ∧ St [40] w_ c_ w_1 c_1) ?_ ?_
    · refine WC.loop (fun n => fun f_1 w_2 => ∃ (l : List S_api_Client) (i : Int) (v_ : Value) (c_2 : Col), holdfastref13_Store_Drop.l1 n s tenant name l i = some l1 ∧ f_1 0 = p_ ∧ f_1 1 = vS tenant ∧ f_1 2 = vS name ∧ f_1 7 = v_ ∧ f_1 8 = vI i ∧ Ow E32 40 w_2 c_2 v_ l ∧ St [40] w_ c_ w_2 c_2) K ⟨_, _, _, _, hl, rfl, rfl, rfl, rfl, rfl, Ow.nil, St.refl.mono (by decide)⟩ ?_
      rintro n f_1 w_2 ⟨l, i, v_, c_2, hl, h, h1, h2, h3, h4, o6, s3⟩
      cases n with
      | zero => exact absurd hl (by simp [holdfastref13_Store_Drop.l1])
      | succ k =>
      rw [holdfastref13_Store_Drop.l1] at hl
      refine WC.seq ?_
      refine WC.seq (WC.region ?_)
      refine WR.k rfl rfl rfl (OS.move (v := vI i) rfl h4 ?_)
      refine WR.k rfl rfl rfl (OS.move (v := p_) rfl h ?_)
      have o8 := o.keep (s2.t s3) (by decide)
      refine WR.k rfl rfl rfl (OS.nilCheckBx rfl rfl o8 ?_)
      refine WR.k rfl rfl rfl (OS.fieldAddrBx rfl Tryd.runUnderlying77 rfl Tryd.sizeOf36 rfl rfl o8 ?_); intro p_1 a1
      refine WR.k rfl rfl rfl (OS.ld1 (u := sl.val) rfl Tryd.isAgg36 rfl (o8.ldn a1 (sub_of rfl)) ?_)
      have o9 := o1.keep (s2.t s3) (by decide)
      refine WR.k rfl rfl rfl (OS.lenSl rfl Tryd.runUnderlying36 rfl o9.isSl ?_)
      refine WR.k rfl rfl rfl (OS.bin (a := vI i) (b := vI (s.c_.length : Int)) rfl rfl rfl bI_lss ?_)
      refine WR.nil ?_
      refine WC.cond (decide (i < (s.c_.length : Int))) rfl (fun hb1 => ?_) (fun hb1 => ?_)
      · rw [if_pos hb1] at hl
        refine WC.skip ?_
        refine WC.seq ?_
        refine WC.block ?_
        refine WC.seq (WC.region ?_)
        refine WR.k rfl rfl rfl (OS.move (v := p_) rfl h ?_)
        refine WR.k rfl rfl rfl (OS.nilCheckBx rfl rfl o8 ?_)
        refine WR.k rfl rfl rfl (OS.fieldAddrBx rfl Tryd.runUnderlying77 rfl Tryd.sizeOf36 rfl rfl o8 ?_); intro p_2 a2
        refine WR.k rfl rfl rfl (OS.ld1 (u := sl.val) rfl Tryd.isAgg36 rfl (o8.ldn a2 (sub_of rfl)) ?_)
        refine WR.k rfl rfl rfl (OS.move (v := vI i) rfl h4 ?_)
        obtain ⟨e1, he1, hl⟩ := bind_some hl
        obtain ⟨ha, hb2, hc⟩ := gt_some he1
        refine WR.k rfl rfl rfl (OS.idx rfl Tryd.runUnderlying36 Tryd.sizeOf32 rfl o9.isSl rfl ha hb2 ?_); intro p_3 a3
        refine WR.k rfl rfl rfl (OS.fieldAddrA rfl Tryd.runUnderlying32 rfl Tryd.sizeOf9 rfl rfl a3 ?_); intro p_4 a4
        refine WR.k rfl rfl rfl (OS.ld1 (u := vS e1.Tenant) rfl Tryd.isAgg9 rfl ((o9.ld a3 hc).sub a4 (sub_of rfl)) ?_)
        refine WR.k rfl rfl rfl (OS.move (v := vS tenant) rfl h1 ?_)
        refine WR.k rfl rfl rfl (OS.bin (a := vS e1.Tenant) (b := vS tenant) rfl rfl rfl bS_neq ?_)
        refine WR.k rfl rfl rfl (OS.move (v := vB (!decide (e1.Tenant = tenant))) rfl rfl ?_)
        obtain ⟨b, ht, hl⟩ := bind_some hl
        refine WR.cut2 11 (fun f_2 w_3 => f_2 0 = p_ ∧ f_2 1 = vS tenant ∧ f_2 2 = vS name ∧ f_2 7 = v_ ∧ f_2 8 = vI i ∧ f_2 48 = vB b ∧ w_2 = w_3) ?_ ?_
        · rcases Bool.eq_false_or_eq_true (!decide (e1.Tenant = tenant)) with hg | hg
          · rw [if_pos hg] at ht
            refine WR.gF rfl rfl (vb_t rfl hg) rfl rfl ?_
            refine WR.gF rfl rfl (vb_t rfl hg) rfl rfl ?_
            refine WR.gF rfl rfl (vb_t rfl hg) rfl rfl ?_
            refine WR.gF rfl rfl (vb_t rfl hg) rfl rfl ?_
            refine WR.gF rfl rfl (vb_t rfl hg) rfl rfl ?_
            refine WR.gF rfl rfl (vb_t rfl hg) rfl rfl ?_
            refine WR.gF rfl rfl (vb_t rfl hg) rfl rfl ?_
            refine WR.gF rfl rfl (vb_t rfl hg) rfl rfl ?_
            refine WR.gF rfl rfl (vb_t rfl hg) rfl rfl ?_
            refine WR.gF rfl rfl (vb_t rfl hg) rfl rfl ?_
            refine WR.k rfl rfl rfl (OS.pickT rfl (vb_t rfl hg) rfl ?_)
            cases ht
            refine WR.nil ?_
            exact ⟨h, h1, h2, h3, h4, rfl, rfl⟩
          · rw [if_neg (nt hg)] at ht
            refine WR.kT rfl rfl (vb_f rfl hg) rfl rfl (OS.move (v := p_) rfl h ?_)
            refine WR.kT rfl rfl (vb_f rfl hg) rfl rfl (OS.nilCheckBx rfl rfl o8 ?_)
            refine WR.kT rfl rfl (vb_f rfl hg) rfl rfl (OS.fieldAddrBx rfl Tryd.runUnderlying77 rfl Tryd.sizeOf36 rfl rfl o8 ?_); intro p_5 a5
            refine WR.kT rfl rfl (vb_f rfl hg) rfl rfl (OS.ld1 (u := sl.val) rfl Tryd.isAgg36 rfl (o8.ldn a5 (sub_of rfl)) ?_)
            refine WR.kT rfl rfl (vb_f rfl hg) rfl rfl (OS.move (v := vI i) rfl h4 ?_)
            obtain ⟨e2, he2, ht⟩ := bind_some ht
            obtain ⟨ha1, hb3, hc1⟩ := gt_some he2
            refine WR.kT rfl rfl (vb_f rfl hg) rfl rfl (OS.idx rfl Tryd.runUnderlying36 Tryd.sizeOf32 rfl o9.isSl rfl ha1 hb3 ?_); intro p_6 a6
            refine WR.kT rfl rfl (vb_f rfl hg) rfl rfl (OS.fieldAddrA rfl Tryd.runUnderlying32 rfl Tryd.sizeOf9 rfl rfl a6 ?_); intro p_7 a7
            refine WR.kT rfl rfl (vb_f rfl hg) rfl rfl (OS.ld1 (u := vS e2.Name) rfl Tryd.isAgg9 rfl ((o9.ld a6 hc1).sub a7 (sub_of rfl)) ?_)
            refine WR.kT rfl rfl (vb_f rfl hg) rfl rfl (OS.move (v := vS name) rfl h2 ?_)
            refine WR.kT rfl rfl (vb_f rfl hg) rfl rfl (OS.bin (a := vS e2.Name) (b := vS name) rfl rfl rfl bS_neq ?_)
            refine WR.k rfl rfl rfl (OS.pickF rfl (vb_f rfl hg) rfl ?_)
            cases ht
            refine WR.nil ?_
            exact ⟨h, h1, h2, h3, h4, rfl, rfl⟩
        · rintro f_2 _ ⟨h5, h6, h7, h8, h9, h10, rfl⟩
          refine WR.nil ?_
          refine WC.cond (b) h10 (fun hb4 => ?_) (fun hb4 => ?_)
          · rw [if_pos hb4] at hl
            refine WC.region ?_
            refine WR.k rfl rfl rfl (OS.move (v := v_) rfl h8 ?_)
            refine WR.k rfl rfl rfl (OS.move (v := p_) rfl h5 ?_)
            refine WR.k rfl rfl rfl (OS.nilCheckBx rfl rfl o8 ?_)
            refine WR.k rfl rfl rfl (OS.fieldAddrBx rfl Tryd.runUnderlying77 rfl Tryd.sizeOf36 rfl rfl o8 ?_); intro p_8 a8
            refine WR.k rfl rfl rfl (OS.ld1 (u := sl.val) rfl Tryd.isAgg36 rfl (o8.ldn a8 (sub_of rfl)) ?_)
            refine WR.k rfl rfl rfl (OS.move (v := vI i) rfl h9 ?_)
            obtain ⟨e3, he3, hl⟩ := bind_some hl
            obtain ⟨ha2, hb5, hc2⟩ := gt_some he3
            refine WR.k rfl rfl rfl (OS.idx rfl Tryd.runUnderlying36 Tryd.sizeOf32 rfl o9.isSl rfl ha2 hb5 ?_); intro p_9 a9
            refine WR.k rfl rfl rfl (OS.ldN (us := E32.e e3) rfl Tryd.isAgg32 Tryd.sizeOf32 rfl (o9.ld a9 hc2) rfl ?_)
            obtain ⟨l2, hl2, hl⟩ := bind_some hl
            replace hl2 := (Option.some.inj hl2).symm
            refine WR.k rfl rfl rfl (OS.bslice (E := E32) (c := c_2) 46 ([e3] : List S_api_Client) [(0, .agg (E32.e e3).toArray)] rfl ⟨rfl, rfl, trivial⟩ (fun _ => by kernel_rfl) rfl (by decide) ?_); intro v_2 w_4 c_4 o10 s4
            replace o10 : Ow E32 46 w_4 c_4 v_2 l2 := by rw [hl2]; exact o10
            have o11 := o6.keep s4 (by decide)
            obtain ⟨l3, hl3, hl⟩ := bind_some hl
            obtain ⟨ha3, hl3⟩ := app_some hl3
            refine WR.k rfl rfl rfl (OS.append (E := E32) (c := c_4) (i := 40) (xs := l) (ys := l2) rfl Tryd.underlying36 Tryd.underlying36 (.inl rfl) I32 rfl rfl rfl rfl rfl o11 o10.vw.src (lim_bytes (by decide) ha3) (lim_max (b := 56) (by decide) ha3) ?_); intro v_3 w_5 c_5 o12 s5
            replace o12 : Ow E32 40 w_5 c_5 v_3 l3 := by rw [hl3]; exact o12
            refine WR.k rfl rfl rfl (OS.assign (v := v_3) rfl rfl ?_)
            refine WR.nil ?_
            refine WC.region ?_
            refine WR.k rfl rfl rfl (OS.move (v := vI i) rfl h9 ?_)
            refine WR.k rfl rfl rfl (OS.bin (a := vI i) (b := vI (1 : Int)) rfl rfl rfl bI_add ?_)
            refine WR.k rfl rfl rfl (OS.assign (v := vI (W (i + (1 : Int)))) rfl rfl ?_)
            refine WR.nil ?_
            exact ⟨k, by omega, _, _, _, _, hl, h5, h6, h7, rfl, rfl, o12, ((s3.t s4).t s5).mono (by decide)⟩
          · rw [if_neg (nt hb4)] at hl
            refine WC.skip ?_
            refine WC.region ?_
            refine WR.k rfl rfl rfl (OS.move (v := vI i) rfl h9 ?_)
            refine WR.k rfl rfl rfl (OS.bin (a := vI i) (b := vI (1 : Int)) rfl rfl rfl bI_add ?_)
            refine WR.k rfl rfl rfl (OS.assign (v := vI (W (i + (1 : Int)))) rfl rfl ?_)
            refine WR.nil ?_
            exact ⟨k, by omega, _, _, _, _, hl, h5, h6, h7, h8, rfl, o6, s3.mono (by decide)⟩
      · rw [if_neg (nt hb1)] at hl
        refine WC.exit ?_
        cases hl
        exact ⟨_, _, h, h1, h2, h3, o6, s3.mono (by decide)⟩
    · rintro f_ w_1 ⟨v_1, c_1, h11, h12, h13, h14, o7, s6⟩
      refine WC.seq (WC.region ?_)
      refine WR.k rfl rfl rfl (OS.assign (v := (.slice none 0 0)) rfl rfl ?_)
      refine WR.nil ?_
      refine WC.seq ?_
      refine WC.seq (WC.region ?_)
      refine WR.k rfl rfl rfl (OS.assign (v := vI (0 : Int)) rfl rfl ?_)
      refine WR.nil ?_
      obtain ⟨q1, hl1, hp⟩ := bind_some hp
      obtain ⟨a11, hx⟩ : ∃ z, z = q1 := ⟨_, rfl⟩; subst hx
      refine WC.blockJ2 (fun f_3 w_6 => ∃ (v_5 : Value) (c_6 : Col), f_3 0 = p_ ∧ f_3 7 = v_1 ∧ f_3 9 = v_5 ∧ Ow E35 47 w_6 c_6 v_5 a11 ∧ St [47] w_1 c_1 w_6 c_6) ?_ ?_
      · refine WC.loop (fun n => fun f_4 w_7 => ∃ (a10 : List S_api_Consent) (i1 : Int) (v_4 : Value) (c_7 : Col), holdfastref13_Store_Drop.l2 n s tenant name a10 i1 = some a11 ∧ f_4 0 = p_ ∧ f_4 1 = vS tenant ∧ f_4 2 = vS name ∧ f_4 7 = v_1 ∧ f_4 9 = v_4 ∧ f_4 10 = vI i1 ∧ Ow E35 47 w_7 c_7 v_4 a10 ∧ St [47] w_1 c_1 w_7 c_7) K ⟨_, _, _, _, hl1, h11, h12, h13, h14, rfl, rfl, Ow.nil, St.refl.mono (by decide)⟩ ?_
        rintro n f_4 w_7 ⟨a10, i1, v_4, c_7, hl1, h15, h16, h17, h18, h19, h20, o13, s7⟩
        cases n with
        | zero => exact absurd hl1 (by simp [holdfastref13_Store_Drop.l2])
        | succ k =>
        rw [holdfastref13_Store_Drop.l2] at hl1
        refine WC.seq ?_
        refine WC.seq (WC.region ?_)
        refine WR.k rfl rfl rfl (OS.move (v := vI i1) rfl h20 ?_)
        refine WR.k rfl rfl rfl (OS.move (v := p_) rfl h15 ?_)
        have o15 := o.keep ((s2.t s6).t s7) (by decide)
        refine WR.k rfl rfl rfl (OS.nilCheckBx rfl rfl o15 ?_)
        refine WR.k rfl rfl rfl (OS.fieldAddrBx rfl Tryd.runUnderlying77 rfl Tryd.sizeOf38 rfl rfl o15 ?_); intro p_10 a12
        refine WR.k rfl rfl rfl (OS.ld1 (u := sl1.val) rfl Tryd.isAgg38 rfl (o15.ldn a12 (sub_of rfl)) ?_)
        have o16 := o2.keep ((s2.t s6).t s7) (by decide)
        refine WR.k rfl rfl rfl (OS.lenSl rfl Tryd.runUnderlying38 rfl o16.isSl ?_)
        refine WR.k rfl rfl rfl (OS.bin (a := vI i1) (b := vI (s.a.length : Int)) rfl rfl rfl bI_lss ?_)
        refine WR.nil ?_
        refine WC.cond (decide (i1 < (s.a.length : Int))) rfl (fun hb6 => ?_) (fun hb6 => ?_)
        · rw [if_pos hb6] at hl1
          refine WC.skip ?_
          refine WC.seq ?_
          refine WC.block ?_
          refine WC.seq (WC.region ?_)
          refine WR.k rfl rfl rfl (OS.move (v := p_) rfl h15 ?_)
          refine WR.k rfl rfl rfl (OS.nilCheckBx rfl rfl o15 ?_)
          refine WR.k rfl rfl rfl (OS.fieldAddrBx rfl Tryd.runUnderlying77 rfl Tryd.sizeOf38 rfl rfl o15 ?_); intro p_11 a13
          refine WR.k rfl rfl rfl (OS.ld1 (u := sl1.val) rfl Tryd.isAgg38 rfl (o15.ldn a13 (sub_of rfl)) ?_)
          refine WR.k rfl rfl rfl (OS.move (v := vI i1) rfl h20 ?_)
          obtain ⟨e4, he4, hl1⟩ := bind_some hl1
          obtain ⟨ha4, hb7, hc3⟩ := gt_some he4
          refine WR.k rfl rfl rfl (OS.idx rfl Tryd.runUnderlying38 Tryd.sizeOf35 rfl o16.isSl rfl ha4 hb7 ?_); intro p_12 a14
          refine WR.k rfl rfl rfl (OS.fieldAddrA rfl Tryd.runUnderlying35 rfl Tryd.sizeOf26 rfl rfl a14 ?_); intro p_13 a15
          refine WR.k rfl rfl rfl (OS.fieldAddrP rfl Tryd.runUnderlying26 rfl Tryd.sizeOf9 rfl rfl a15 ?_); intro p_14 a16
          refine WR.k rfl rfl rfl (OS.ld1 (u := vS e4.Owner.Tenant) rfl Tryd.isAgg9 rfl ((o16.ld a14 hc3).sub a16 (sub_of rfl)) ?_)
          refine WR.k rfl rfl rfl (OS.move (v := vS tenant) rfl h16 ?_)
          refine WR.k rfl rfl rfl (OS.bin (a := vS e4.Owner.Tenant) (b := vS tenant) rfl rfl rfl bS_neq ?_)
          refine WR.k rfl rfl rfl (OS.move (v := vB (!decide (e4.Owner.Tenant = tenant))) rfl rfl ?_)
          obtain ⟨b1, ht1, hl1⟩ := bind_some hl1
          refine WR.cut2 11 (fun f_5 w_8 => f_5 0 = p_ ∧ f_5 1 = vS tenant ∧ f_5 2 = vS name ∧ f_5 7 = v_1 ∧ f_5 9 = v_4 ∧ f_5 10 = vI i1 ∧ f_5 90 = vB b1 ∧ w_7 = w_8) ?_ ?_
          · rcases Bool.eq_false_or_eq_true (!decide (e4.Owner.Tenant = tenant)) with hg1 | hg1
            · rw [if_pos hg1] at ht1
              refine WR.gF rfl rfl (vb_t rfl hg1) rfl rfl ?_
              refine WR.gF rfl rfl (vb_t rfl hg1) rfl rfl ?_
              refine WR.gF rfl rfl (vb_t rfl hg1) rfl rfl ?_
              refine WR.gF rfl rfl (vb_t rfl hg1) rfl rfl ?_
              refine WR.gF rfl rfl (vb_t rfl hg1) rfl rfl ?_
              refine WR.gF rfl rfl (vb_t rfl hg1) rfl rfl ?_
              refine WR.gF rfl rfl (vb_t rfl hg1) rfl rfl ?_
              refine WR.gF rfl rfl (vb_t rfl hg1) rfl rfl ?_
              refine WR.gF rfl rfl (vb_t rfl hg1) rfl rfl ?_
              refine WR.gF rfl rfl (vb_t rfl hg1) rfl rfl ?_
              refine WR.k rfl rfl rfl (OS.pickT rfl (vb_t rfl hg1) rfl ?_)
              cases ht1
              refine WR.nil ?_
              exact ⟨h15, h16, h17, h18, h19, h20, rfl, rfl⟩
            · rw [if_neg (nt hg1)] at ht1
              refine WR.kT rfl rfl (vb_f rfl hg1) rfl rfl (OS.move (v := p_) rfl h15 ?_)
              refine WR.kT rfl rfl (vb_f rfl hg1) rfl rfl (OS.nilCheckBx rfl rfl o15 ?_)
              refine WR.kT rfl rfl (vb_f rfl hg1) rfl rfl (OS.fieldAddrBx rfl Tryd.runUnderlying77 rfl Tryd.sizeOf38 rfl rfl o15 ?_); intro p_15 a17
              refine WR.kT rfl rfl (vb_f rfl hg1) rfl rfl (OS.ld1 (u := sl1.val) rfl Tryd.isAgg38 rfl (o15.ldn a17 (sub_of rfl)) ?_)
              refine WR.kT rfl rfl (vb_f rfl hg1) rfl rfl (OS.move (v := vI i1) rfl h20 ?_)
              obtain ⟨e5, he5, ht1⟩ := bind_some ht1
              obtain ⟨ha5, hb8, hc4⟩ := gt_some he5
              refine WR.kT rfl rfl (vb_f rfl hg1) rfl rfl (OS.idx rfl Tryd.runUnderlying38 Tryd.sizeOf35 rfl o16.isSl rfl ha5 hb8 ?_); intro p_16 a18
              refine WR.kT rfl rfl (vb_f rfl hg1) rfl rfl (OS.fieldAddrA rfl Tryd.runUnderlying35 rfl Tryd.sizeOf9 rfl rfl a18 ?_); intro p_17 a19
              refine WR.kT rfl rfl (vb_f rfl hg1) rfl rfl (OS.ld1 (u := vS e5.Client) rfl Tryd.isAgg9 rfl ((o16.ld a18 hc4).sub a19 (sub_of rfl)) ?_)
              refine WR.kT rfl rfl (vb_f rfl hg1) rfl rfl (OS.move (v := vS name) rfl h17 ?_)
              refine WR.kT rfl rfl (vb_f rfl hg1) rfl rfl (OS.bin (a := vS e5.Client) (b := vS name) rfl rfl rfl bS_neq ?_)
              refine WR.k rfl rfl rfl (OS.pickF rfl (vb_f rfl hg1) rfl ?_)
              cases ht1
              refine WR.nil ?_
              exact ⟨h15, h16, h17, h18, h19, h20, rfl, rfl⟩
          · rintro f_5 _ ⟨h21, h22, h23, h24, h25, h26, h27, rfl⟩
            refine WR.nil ?_
            refine WC.cond (b1) h27 (fun hb9 => ?_) (fun hb9 => ?_)
            · rw [if_pos hb9] at hl1
              refine WC.region ?_
              refine WR.k rfl rfl rfl (OS.move (v := v_4) rfl h25 ?_)
              refine WR.k rfl rfl rfl (OS.move (v := p_) rfl h21 ?_)
              refine WR.k rfl rfl rfl (OS.nilCheckBx rfl rfl o15 ?_)
              refine WR.k rfl rfl rfl (OS.fieldAddrBx rfl Tryd.runUnderlying77 rfl Tryd.sizeOf38 rfl rfl o15 ?_); intro p_18 a20
              refine WR.k rfl rfl rfl (OS.ld1 (u := sl1.val) rfl Tryd.isAgg38 rfl (o15.ldn a20 (sub_of rfl)) ?_)
              refine WR.k rfl rfl rfl (OS.move (v := vI i1) rfl h26 ?_)
              obtain ⟨e6, he6, hl1⟩ := bind_some hl1
              obtain ⟨ha6, hb10, hc5⟩ := gt_some he6
              refine WR.k rfl rfl rfl (OS.idx rfl Tryd.runUnderlying38 Tryd.sizeOf35 rfl o16.isSl rfl ha6 hb10 ?_); intro p_19 a21
              refine WR.k rfl rfl rfl (OS.ldN (us := E35.e e6) rfl Tryd.isAgg35 Tryd.sizeOf35 rfl (o16.ld a21 hc5) rfl ?_)
              obtain ⟨l4, hl4, hl1⟩ := bind_some hl1
              replace hl4 := (Option.some.inj hl4).symm
              refine WR.k rfl rfl rfl (OS.bslice (E := E35) (c := c_7) 53 ([e6] : List S_api_Consent) [(0, .agg (E35.e e6).toArray)] rfl ⟨rfl, rfl, trivial⟩ (fun _ => by kernel_rfl) rfl (by decide) ?_); intro v_6 w_9 c_9 o17 s8
              replace o17 : Ow E35 53 w_9 c_9 v_6 l4 := by rw [hl4]; exact o17
              have o18 := o13.keep s8 (by decide)
              obtain ⟨a22, ha22, hl1⟩ := bind_some hl1
              obtain ⟨ha7, ha22⟩ := app_some ha22
              refine WR.k rfl rfl rfl (OS.append (E := E35) (c := c_9) (i := 47) (xs := a10) (ys := l4) rfl Tryd.underlying38 Tryd.underlying38 (.inl rfl) I35 rfl rfl rfl rfl rfl o18 o17.vw.src (lim_bytes (by decide) ha7) (lim_max (b := 56) (by decide) ha7) ?_); intro v_7 w_10 c_10 o19 s9
              replace o19 : Ow E35 47 w_10 c_10 v_7 a22 := by rw [ha22]; exact o19
              refine WR.k rfl rfl rfl (OS.assign (v := v_7) rfl rfl ?_)
              refine WR.nil ?_
              refine WC.region ?_
              refine WR.k rfl rfl rfl (OS.move (v := vI i1) rfl h26 ?_)
              refine WR.k rfl rfl rfl (OS.bin (a := vI i1) (b := vI (1 : Int)) rfl rfl rfl bI_add ?_)
              refine WR.k rfl rfl rfl (OS.assign (v := vI (W (i1 + (1 : Int)))) rfl rfl ?_)
              refine WR.nil ?_
              exact ⟨k, by omega, _, _, _, _, hl1, h21, h22, h23, h24, rfl, rfl, o19, ((s7.t s8).t s9).mono (by decide)⟩
            · rw [if_neg (nt hb9)] at hl1
              refine WC.skip ?_
              refine WC.region ?_
              refine WR.k rfl rfl rfl (OS.move (v := vI i1) rfl h26 ?_)
              refine WR.k rfl rfl rfl (OS.bin (a := vI i1) (b := vI (1 : Int)) rfl rfl rfl bI_add ?_)
              refine WR.k rfl rfl rfl (OS.assign (v := vI (W (i1 + (1 : Int)))) rfl rfl ?_)
              refine WR.nil ?_
              exact ⟨k, by omega, _, _, _, _, hl1, h21, h22, h23, h24, h25, rfl, o13, s7.mono (by decide)⟩
        · rw [if_neg (nt hb6)] at hl1
          refine WC.exit ?_
          cases hl1
          exact ⟨_, _, h15, h18, h19, o13, s7.mono (by decide)⟩
      · rintro f_3 w_6 ⟨v_5, c_6, h28, h29, h30, o14, s10⟩
        refine WC.seq (WC.region ?_)
        refine WR.k rfl rfl rfl (OS.move (v := p_) rfl h28 ?_)
        refine WR.k rfl rfl rfl (OS.move (v := p_) rfl h28 ?_)
        refine WR.k rfl rfl rfl (OS.move (v := v_1) rfl h29 ?_)
        refine WR.k rfl rfl rfl (OS.move (v := v_5) rfl h30 ?_)
        have o20 := o.keep ((s2.t s6).t s10) (by decide)
        refine WR.k rfl rfl rfl (OS.nilCheckBx rfl rfl o20 ?_)
        refine WR.k rfl rfl rfl (OS.fieldAddrBx rfl Tryd.runUnderlying77 rfl Tryd.sizeOf36 rfl rfl o20 ?_); intro p_20 a23
        have o21 := o7.keep s10 (by decide)
        obtain ⟨sl2, e7⟩ := isSlv o21.isSl; subst e7
        refine WR.k0 rfl rfl (OS.stBxAt (v := sl2.val) (vs := [sl2.val]) (ws := [sl2.val, sl1.val]) rfl Tryd.sizeOf36 rfl rfl rfl o20 a23 rfl (Nat.le_of_ble_eq_true rfl) (one_of rfl) rfl ?_); intro w_11 o22 s11
        refine WR.k rfl rfl rfl (OS.nilCheckBx rfl rfl o22 ?_)
        refine WR.k rfl rfl rfl (OS.fieldAddrBx rfl Tryd.runUnderlying77 rfl Tryd.sizeOf38 rfl rfl o22 ?_); intro p_21 a24
        have o23 := o14.keep s11 (by decide)
        obtain ⟨sl3, e8⟩ := isSlv o23.isSl; subst e8
        refine WR.k0 rfl rfl (OS.stBxAt (v := sl3.val) (vs := [sl3.val]) (ws := [sl2.val, sl3.val]) rfl Tryd.sizeOf38 rfl rfl rfl o22 a24 rfl (Nat.le_of_ble_eq_true rfl) (one_of rfl) rfl ?_); intro w_12 o24 s12
        refine WR.nil ?_
        refine WC.seq (WC.region ?_)
        refine WR.k rfl rfl rfl (OS.assign (v := vI (0 : Int)) rfl rfl ?_)
        refine WR.nil ?_
        refine WC.ret ?_
        repeat first | refine thenQ_ret ?_ | refine blkQ_ret ?_
        cases hp
        have o26 := o21.keep (s11.t s12) (by decide)
        obtain ⟨c_11, s13, o25⟩ := o26.recol 1
        have o28 := o23.keep (s12.t s13) (by decide)
        obtain ⟨c_12, s14, o27⟩ := o28.recol 1
        have o29 := o24.keep (s13.t s14) (by decide)
        have o30 := o25.keep s14 (by decide)
        exact fnQ.l1 (fn := Tryd.f32) rfl (.inl ⟨_, rfl, rfl⟩) ⟨_, _, _, rfl, ((((((s2.t s6).t s10).t s11).t s12).t s13).t s14).leave hcw (by decide), o29, o30.vw, o27.vw⟩

-- (*holdfast/holdfastref13.Store).consent
set_option maxHeartbeats 4000000 in
theorem W47 (K : Nat) (w0 : World) (cw : Col) (hcw : ∀ b, cw b < 40) {s : S_holdfastref13_Store} {o3 : S_api_Owner} {client : List UInt8} {r : Int} (hp : holdfastref13_Store_consent K s o3 client = some r) {sl : Sl} {sl1 : Sl} {p_ : Value} (o : Bx 3 w0 cw p_ [sl.val, sl1.val]) (o1 : Vw E32 1 w0 cw sl.val s.c_) (o2 : Vw E35 1 w0 cw sl1.val s.a) :
    Calls Tryd.prog 47 [p_, .agg (E26.e o3).toArray, vS client].toArray w0 fun e w1 => ∃ (d : Col), e = .returned (vI r) ∧ St [] w0 cw w1 d := by
  refine calls_intro Tryd.func47 rfl Tryd.ntmps47 rfl ?_
  unfold holdfastref13_Store_consent at hp
  refine WC.seq (WC.region ?_)
  refine WR.k rfl rfl rfl (OS.boxBx (us := [vS o3.Tenant, vS o3.User]) (c := cw) 40 rfl rfl rfl ?_); intro p_1 w_ c_ o4 s1
  refine WR.k rfl rfl rfl (OS.assign (v := vI (0 : Int)) rfl rfl ?_)
  refine WR.nil ?_
  refine WC.seq ?_
  refine WC.seq (WC.region ?_)
  refine WR.k rfl rfl rfl (OS.assign (v := vI (0 : Int)) rfl rfl ?_)
  refine WR.nil ?_
  obtain ⟨q, hl, hp⟩ := bind_some hp
  refine WC.blockJ2 (fun f_ w_1 => ∃ (c_1 : Col), q = .go () ∧ f_ 0 = p_ ∧ St [] w_ c_ w_1 c_1) ?_ ?_
  · refine WC.loop (fun n => fun f_1 w_2 => ∃ (i : Int) (c_2 : Col), holdfastref13_Store_consent.l1 n s o3 client i = some q ∧ f_1 0 = p_ ∧ f_1 2 = vS client ∧ f_1 4 = p_1 ∧ f_1 7 = vI i ∧ St [] w_ c_ w_2 c_2) K ⟨_, _, hl, rfl, rfl, rfl, rfl, St.refl.mono (by decide)⟩ ?_
    rintro n f_1 w_2 ⟨i, c_2, hl, h, h1, h2, h3, s2⟩
    cases n with
    | zero => exact absurd hl (by simp [holdfastref13_Store_consent.l1])
    | succ k =>
    rw [holdfastref13_Store_consent.l1] at hl
    refine WC.seq ?_
    refine WC.seq (WC.region ?_)
    refine WR.k rfl rfl rfl (OS.move (v := vI i) rfl h3 ?_)
    refine WR.k rfl rfl rfl (OS.move (v := p_) rfl h ?_)
    have o5 := o.keep (s1.t s2) (by decide)
    refine WR.k rfl rfl rfl (OS.nilCheckBx rfl rfl o5 ?_)
    refine WR.k rfl rfl rfl (OS.fieldAddrBx rfl Tryd.runUnderlying77 rfl Tryd.sizeOf38 rfl rfl o5 ?_); intro p_2 a1
    refine WR.k rfl rfl rfl (OS.ld1 (u := sl1.val) rfl Tryd.isAgg38 rfl (o5.ldn a1 (sub_of rfl)) ?_)
    have o6 := o2.keep (s1.t s2) (by decide)
    refine WR.k rfl rfl rfl (OS.lenSl rfl Tryd.runUnderlying38 rfl o6.isSl ?_)
    refine WR.k rfl rfl rfl (OS.bin (a := vI i) (b := vI (s.a.length : Int)) rfl rfl rfl bI_lss ?_)
    refine WR.nil ?_
    refine WC.cond (decide (i < (s.a.length : Int))) rfl (fun hb => ?_) (fun hb => ?_)
    · rw [if_pos hb] at hl
      refine WC.skip ?_
      refine WC.seq ?_
      refine WC.block ?_
      obtain ⟨e1, he1, hl⟩ := bind_some hl
      obtain ⟨ha, hb1, hc⟩ := gt_some he1
      have o7 := o4.keep s2 (by decide)
      rcases Bool.eq_false_or_eq_true (decide (e1.Owner = o3)) with hb2 | hb2
      · rw [if_pos hb2] at hl
        obtain ⟨e2, he2, hl⟩ := bind_some hl
        obtain ⟨ha1, hb3, hc1⟩ := gt_some he2
        refine WC.seq (WC.draw3 (c := c_2) ⟨22, [[], [], [], [], [], [], [], [], [], [], [], [], [], [], [], [], [], [], [], [], [], []], [[], [], [], [], [], [], [], [], [], [], [], [], [], [], [], [], [], [], [], [], [], []], [], [[], [0], [1], [2], [], [3, 4], [5], [5, 6], [], [7, 8], [9], [10], [10, 11], [10, 12], [10, 13], [10], [10, 14, 15], [10, 16], [10, 16, 17], [10], [10, 18, 19], [10, 20]], [11, 12, 13, 14, 15, 16, 17, 18, 19, 20, 21]⟩ [[], [], [], [], [], [], [], [], [], [], [], [], [], [], [], [], [], [], [], [], [], []] [[17], [18], [19], [20], [21], [22], [22, 23], [24], [25], [26], [27], [28], [29], [30], [31], [32], [33], [33, 34], [35], [36], [37], [38]] [fun yf yw yc => (yf 17) = p_, fun yf yw yc => (yf 18) = p_, fun yf yw yc => AdrP p_ 1 1 (yf 19), fun yf yw yc => (yf 20) = sl1.val, fun yf yw yc => (yf 21) = vI i, fun yf yw yc => Adr sl1.val (i).toNat 4 (yf 22), fun yf yw yc => AdrP ((yf 22)) 0 1 (yf 23), fun yf yw yc => (yf 24) = .agg (E26.e e1.Owner).toArray, fun yf yw yc => (yf 25) = .agg (E26.e o3).toArray, fun yf yw yc => (yf 26) = vB (decide (e1.Owner = o3)), fun yf yw yc => (yf 27) = vB (decide (e1.Owner = o3)), fun yf yw yc => (yf 28) = p_, fun yf yw yc => (yf 29) = p_, fun yf yw yc => AdrP p_ 1 1 (yf 30), fun yf yw yc => (yf 31) = sl1.val, fun yf yw yc => (yf 32) = vI i, fun yf yw yc => Adr sl1.val (i).toNat 4 (yf 33), fun yf yw yc => AdrP ((yf 33)) 2 1 (yf 34), fun yf yw yc => (yf 35) = vS e2.Client, fun yf yw yc => (yf 36) = vS client, fun yf yw yc => (yf 37) = vB (decide (e2.Client = client)), fun yf yw yc => (yf 38) = vB (decide (e2.Client = client))] hmix (by kernel_rfl) (by kernel_rfl) ⟨?_, ?_, ?_, ?_, ?_, ?_, ?_, ?_, ?_, ?_, ?_, ?_, ?_, ?_, ?_, ?_, ?_, ?_, ?_, ?_, ?_, ?_, trivial⟩ ⟨fun y1 y2 yw yc yI yw1 yc1 yh ye ys yk => by obtain ⟨ye0, -⟩ := ye; show (y2 17) = p_; rw [ye0]; exact yh, fun y1 y2 yw yc yI yw1 yc1 yh ye ys yk => by obtain ⟨ye0, -⟩ := ye; show (y2 18) = p_; rw [ye0]; exact yh, fun y1 y2 yw yc yI yw1 yc1 yh ye ys yk => by obtain ⟨ye0, -⟩ := ye; show AdrP p_ 1 1 (y2 19); rw [ye0]; exact yh, fun y1 y2 yw yc yI yw1 yc1 yh ye ys yk => by obtain ⟨ye0, -⟩ := ye; show (y2 20) = sl1.val; rw [ye0]; exact yh, fun y1 y2 yw yc yI yw1 yc1 yh ye ys yk => by obtain ⟨ye0, -⟩ := ye; show (y2 21) = vI i; rw [ye0]; exact yh, fun y1 y2 yw yc yI yw1 yc1 yh ye ys yk => by obtain ⟨ye0, -⟩ := ye; show Adr sl1.val (i).toNat 4 (y2 22); rw [ye0]; exact yh, fun y1 y2 yw yc yI yw1 yc1 yh ye ys yk => by obtain ⟨ye0, ye1, -⟩ := ye; show AdrP ((y2 22)) 0 1 (y2 23); rw [ye0, ye1]; exact yh, fun y1 y2 yw yc yI yw1 yc1 yh ye ys yk => by obtain ⟨ye0, -⟩ := ye; show (y2 24) = .agg (E26.e e1.Owner).toArray; rw [ye0]; exact yh, fun y1 y2 yw yc yI yw1 yc1 yh ye ys yk => by obtain ⟨ye0, -⟩ := ye; show (y2 25) = .agg (E26.e o3).toArray; rw [ye0]; exact yh, fun y1 y2 yw yc yI yw1 yc1 yh ye ys yk => by obtain ⟨ye0, -⟩ := ye; show (y2 26) = vB (decide (e1.Owner = o3)); rw [ye0]; exact yh, fun y1 y2 yw yc yI yw1 yc1 yh ye ys yk => by obtain ⟨ye0, -⟩ := ye; show (y2 27) = vB (decide (e1.Owner = o3)); rw [ye0]; exact yh, fun y1 y2 yw yc yI yw1 yc1 yh ye ys yk => by obtain ⟨ye0, -⟩ := ye; show (y2 28) = p_; rw [ye0]; exact yh, fun y1 y2 yw yc yI yw1 yc1 yh ye ys yk => by obtain ⟨ye0, -⟩ := ye; show (y2 29) = p_; rw [ye0]; exact yh, fun y1 y2 yw yc yI yw1 yc1 yh ye ys yk => by obtain ⟨ye0, -⟩ := ye; show AdrP p_ 1 1 (y2 30); rw [ye0]; exact yh, fun y1 y2 yw yc yI yw1 yc1 yh ye ys yk => by obtain ⟨ye0, -⟩ := ye; show (y2 31) = sl1.val; rw [ye0]; exact yh, fun y1 y2 yw yc yI yw1 yc1 yh ye ys yk => by obtain ⟨ye0, -⟩ := ye; show (y2 32) = vI i; rw [ye0]; exact yh, fun y1 y2 yw yc yI yw1 yc1 yh ye ys yk => by obtain ⟨ye0, -⟩ := ye; show Adr sl1.val (i).toNat 4 (y2 33); rw [ye0]; exact yh, fun y1 y2 yw yc yI yw1 yc1 yh ye ys yk => by obtain ⟨ye0, ye1, -⟩ := ye; show AdrP ((y2 33)) 2 1 (y2 34); rw [ye0, ye1]; exact yh, fun y1 y2 yw yc yI yw1 yc1 yh ye ys yk => by obtain ⟨ye0, -⟩ := ye; show (y2 35) = vS e2.Client; rw [ye0]; exact yh, fun y1 y2 yw yc yI yw1 yc1 yh ye ys yk => by obtain ⟨ye0, -⟩ := ye; show (y2 36) = vS client; rw [ye0]; exact yh, fun y1 y2 yw yc yI yw1 yc1 yh ye ys yk => by obtain ⟨ye0, -⟩ := ye; show (y2 37) = vB (decide (e2.Client = client)); rw [ye0]; exact yh, fun y1 y2 yw yc yI yw1 yc1 yh ye ys yk => by obtain ⟨ye0, -⟩ := ye; show (y2 38) = vB (decide (e2.Client = client)); rw [ye0]; exact yh, trivial⟩ ?_)
        · rintro f_2 w_3 c_3 hB hs ⟨-⟩ o ho; obtain rfl : _ = o := Option.some.inj ho
          exact OS.move (v := p_) rfl ((hB 0 (by kernel_rfl)).trans h) ⟨_, St.refl, rfl⟩
        · rintro f_3 w_4 c_4 hB1 hs1 ⟨g, -⟩ o ho; obtain rfl : _ = o := Option.some.inj ho
          replace g : (f_3 17) = p_ := g
          have o8 := o5.keep hs1 (by decide)
          exact OS.nilCheckBx rfl g o8 ⟨_, St.refl, rfl⟩
        · rintro f_4 w_5 c_5 hB2 hs2 ⟨g1, -⟩ o ho; obtain rfl : _ = o := Option.some.inj ho
          replace g1 : (f_4 18) = p_ := g1
          have o9 := o5.keep hs2 (by decide)
          exact OS.fieldAddrBx rfl Tryd.runUnderlying77 rfl Tryd.sizeOf38 rfl g1 o9 (fun _ h => ⟨_, St.refl, h⟩)
        · rintro f_5 w_6 c_6 hB3 hs3 ⟨g2, -⟩ o ho; obtain rfl : _ = o := Option.some.inj ho
          replace g2 : AdrP p_ 1 1 (f_5 19) := g2
          have o10 := o5.keep hs3 (by decide)
          exact OS.ld1 (u := sl1.val) rfl Tryd.isAgg38 rfl (o10.ldn g2 (sub_of rfl)) ⟨_, St.refl, rfl⟩
        · rintro f_6 w_7 c_7 hB4 hs4 ⟨-⟩ o ho; obtain rfl : _ = o := Option.some.inj ho
          exact OS.move (v := vI i) rfl ((hB4 7 (by kernel_rfl)).trans h3) ⟨_, St.refl, rfl⟩
        · rintro f_7 w_8 c_8 hB5 hs5 ⟨g3, g4, -⟩ o ho; obtain rfl : _ = o := Option.some.inj ho
          replace g3 : (f_7 20) = sl1.val := g3
          replace g4 : (f_7 21) = vI i := g4
          have o11 := o6.keep hs5 (by decide)
          exact OS.idx rfl Tryd.runUnderlying38 Tryd.sizeOf35 g3 o11.isSl g4 ha hb1 (fun _ h => ⟨_, St.refl, h⟩)
        · rintro f_8 w_9 c_9 hB6 hs6 ⟨g5, -⟩ o ho; obtain rfl : _ = o := Option.some.inj ho
          replace g5 : Adr sl1.val (i).toNat 4 (f_8 22) := g5
          exact OS.fieldAddrA rfl Tryd.runUnderlying35 rfl Tryd.sizeOf26 rfl rfl g5 (fun _ h => ⟨_, St.refl, h⟩)
        · rintro f_9 w_10 c_10 hB7 hs7 ⟨g6, g7, -⟩ o ho; obtain rfl : _ = o := Option.some.inj ho
          replace g6 : Adr sl1.val (i).toNat 4 (f_9 22) := g6
          replace g7 : AdrP ((f_9 22)) 0 1 (f_9 23) := g7
          have o12 := o6.keep hs7 (by decide)
          exact OS.ldN (us := [vS e1.Owner.Tenant, vS e1.Owner.User]) rfl Tryd.isAgg26 Tryd.sizeOf26 rfl ((o12.ld g6 hc).sub g7 (sub_of rfl)) rfl ⟨_, St.refl, rfl⟩
        · rintro f_10 w_11 c_11 hB8 hs8 ⟨-⟩ o ho; obtain rfl : _ = o := Option.some.inj ho
          have o13 := o4.keep (s2.t hs8) (by decide)
          exact OS.ldN (us := [vS o3.Tenant, vS o3.User]) rfl Tryd.isAgg26 Tryd.sizeOf26 ((hB8 4 (by kernel_rfl)).trans h2) o13.ldAll rfl ⟨_, St.refl, rfl⟩
        · rintro f_11 w_12 c_12 hB9 hs9 ⟨g8, g9, -⟩ o ho; obtain rfl : _ = o := Option.some.inj ho
          replace g8 : (f_11 24) = .agg (E26.e e1.Owner).toArray := g8
          replace g9 : (f_11 25) = .agg (E26.e o3).toArray := g9
          exact OS.eqSt (us := E26.e e1.Owner) (vs := E26.e o3) rfl (.inl ⟨rfl, rfl⟩) Tryd.eqGuardType26 g8 g9 (fun w => q26 9998 _ _ w) ⟨_, St.refl, rfl⟩
        · rintro f_12 w_13 c_13 hB10 hs10 ⟨g10, -⟩ o ho; obtain rfl : _ = o := Option.some.inj ho
          replace g10 : (f_12 26) = vB (decide (e1.Owner = o3)) := g10
          exact OS.move (v := vB (decide (e1.Owner = o3))) rfl g10 ⟨_, St.refl, rfl⟩
        · rintro f_13 w_14 c_14 hB11 hs11 ⟨g11, -⟩ o ho; obtain rfl : _ = o := Option.some.inj ho
          replace g11 : (f_13 27) = vB (decide (e1.Owner = o3)) := g11
          refine ⟨_, g11, rfl, fun _ => ?_, fun h => absurd (h.symm.trans hb2) (by decide)⟩
          exact OS.move (v := p_) rfl ((hB11 0 (by kernel_rfl)).trans h) ⟨_, St.refl, rfl⟩
        · rintro f_14 w_15 c_15 hB12 hs12 ⟨g12, g13, -⟩ o ho; obtain rfl : _ = o := Option.some.inj ho
          replace g12 : (f_14 27) = vB (decide (e1.Owner = o3)) := g12
          replace g13 : (f_14 28) = p_ := g13
          refine ⟨_, g12, rfl, fun _ => ?_, fun h => absurd (h.symm.trans hb2) (by decide)⟩
          have o14 := o5.keep hs12 (by decide)
          exact OS.nilCheckBx rfl g13 o14 ⟨_, St.refl, rfl⟩
        · rintro f_15 w_16 c_16 hB13 hs13 ⟨g14, g15, -⟩ o ho; obtain rfl : _ = o := Option.some.inj ho
          replace g14 : (f_15 27) = vB (decide (e1.Owner = o3)) := g14
          replace g15 : (f_15 29) = p_ := g15
          refine ⟨_, g14, rfl, fun _ => ?_, fun h => absurd (h.symm.trans hb2) (by decide)⟩
          have o15 := o5.keep hs13 (by decide)
          exact OS.fieldAddrBx rfl Tryd.runUnderlying77 rfl Tryd.sizeOf38 rfl g15 o15 (fun _ h => ⟨_, St.refl, h⟩)
        · rintro f_16 w_17 c_17 hB14 hs14 ⟨g16, g17, -⟩ o ho; obtain rfl : _ = o := Option.some.inj ho
          replace g16 : (f_16 27) = vB (decide (e1.Owner = o3)) := g16
          replace g17 : AdrP p_ 1 1 (f_16 30) := g17
          refine ⟨_, g16, rfl, fun _ => ?_, fun h => absurd (h.symm.trans hb2) (by decide)⟩
          have o16 := o5.keep hs14 (by decide)
          exact OS.ld1 (u := sl1.val) rfl Tryd.isAgg38 rfl (o16.ldn g17 (sub_of rfl)) ⟨_, St.refl, rfl⟩
        · rintro f_17 w_18 c_18 hB15 hs15 ⟨g18, -⟩ o ho; obtain rfl : _ = o := Option.some.inj ho
          replace g18 : (f_17 27) = vB (decide (e1.Owner = o3)) := g18
          refine ⟨_, g18, rfl, fun _ => ?_, fun h => absurd (h.symm.trans hb2) (by decide)⟩
          exact OS.move (v := vI i) rfl ((hB15 7 (by kernel_rfl)).trans h3) ⟨_, St.refl, rfl⟩
        · rintro f_18 w_19 c_19 hB16 hs16 ⟨g19, g20, g21, -⟩ o ho; obtain rfl : _ = o := Option.some.inj ho
          replace g19 : (f_18 27) = vB (decide (e1.Owner = o3)) := g19
          replace g20 : (f_18 31) = sl1.val := g20
          replace g21 : (f_18 32) = vI i := g21
          refine ⟨_, g19, rfl, fun _ => ?_, fun h => absurd (h.symm.trans hb2) (by decide)⟩
          have o17 := o6.keep hs16 (by decide)
          exact OS.idx rfl Tryd.runUnderlying38 Tryd.sizeOf35 g20 o17.isSl g21 ha1 hb3 (fun _ h => ⟨_, St.refl, h⟩)
        · rintro f_19 w_20 c_20 hB17 hs17 ⟨g22, g23, -⟩ o ho; obtain rfl : _ = o := Option.some.inj ho
          replace g22 : (f_19 27) = vB (decide (e1.Owner = o3)) := g22
          replace g23 : Adr sl1.val (i).toNat 4 (f_19 33) := g23
          refine ⟨_, g22, rfl, fun _ => ?_, fun h => absurd (h.symm.trans hb2) (by decide)⟩
          exact OS.fieldAddrA rfl Tryd.runUnderlying35 rfl Tryd.sizeOf9 rfl rfl g23 (fun _ h => ⟨_, St.refl, h⟩)
        · rintro f_20 w_21 c_21 hB18 hs18 ⟨g24, g25, g26, -⟩ o ho; obtain rfl : _ = o := Option.some.inj ho
          replace g24 : (f_20 27) = vB (decide (e1.Owner = o3)) := g24
          replace g25 : Adr sl1.val (i).toNat 4 (f_20 33) := g25
          replace g26 : AdrP ((f_20 33)) 2 1 (f_20 34) := g26
          refine ⟨_, g24, rfl, fun _ => ?_, fun h => absurd (h.symm.trans hb2) (by decide)⟩
          have o18 := o6.keep hs18 (by decide)
          exact OS.ld1 (u := vS e2.Client) rfl Tryd.isAgg9 rfl ((o18.ld g25 hc1).sub g26 (sub_of rfl)) ⟨_, St.refl, rfl⟩
        · rintro f_21 w_22 c_22 hB19 hs19 ⟨g27, -⟩ o ho; obtain rfl : _ = o := Option.some.inj ho
          replace g27 : (f_21 27) = vB (decide (e1.Owner = o3)) := g27
          refine ⟨_, g27, rfl, fun _ => ?_, fun h => absurd (h.symm.trans hb2) (by decide)⟩
          exact OS.move (v := vS client) rfl ((hB19 2 (by kernel_rfl)).trans h1) ⟨_, St.refl, rfl⟩
        · rintro f_22 w_23 c_23 hB20 hs20 ⟨g28, g29, g30, -⟩ o ho; obtain rfl : _ = o := Option.some.inj ho
          replace g28 : (f_22 27) = vB (decide (e1.Owner = o3)) := g28
          replace g29 : (f_22 35) = vS e2.Client := g29
          replace g30 : (f_22 36) = vS client := g30
          refine ⟨_, g28, rfl, fun _ => ?_, fun h => absurd (h.symm.trans hb2) (by decide)⟩
          exact OS.bin (a := vS e2.Client) (b := vS client) rfl g29 g30 bS_eql ⟨_, St.refl, rfl⟩
        · rintro f_23 w_24 c_24 hB21 hs21 ⟨g31, g32, -⟩ o ho; obtain rfl : _ = o := Option.some.inj ho
          replace g31 : (f_23 27) = vB (decide (e1.Owner = o3)) := g31
          replace g32 : (f_23 37) = vB (decide (e2.Client = client)) := g32
          exact OS.pickT rfl (vb_t g31 hb2) g32 ⟨_, St.refl, rfl⟩
        · rintro f_24 w_25 c_25 hB22 hs22 ⟨g33, g34, g35, g36, g37, g38, g39, g40, g41, g42, g43, -⟩
          replace g33 : (f_24 28) = p_ := g33
          replace g34 : (f_24 29) = p_ := g34
          replace g35 : AdrP p_ 1 1 (f_24 30) := g35
          replace g36 : (f_24 31) = sl1.val := g36
          replace g37 : (f_24 32) = vI i := g37
          replace g38 : Adr sl1.val (i).toNat 4 (f_24 33) := g38
          replace g39 : AdrP ((f_24 33)) 2 1 (f_24 34) := g39
          replace g40 : (f_24 35) = vS e2.Client := g40
          replace g41 : (f_24 36) = vS client := g41
          replace g42 : (f_24 37) = vB (decide (e2.Client = client)) := g42
          replace g43 : (f_24 38) = vB (decide (e2.Client = client)) := g43
          have h4 := (hB22 0 (by kernel_rfl)).trans h
          have h5 := (hB22 2 (by kernel_rfl)).trans h1
          have h6 := (hB22 4 (by kernel_rfl)).trans h2
          have h7 := (hB22 7 (by kernel_rfl)).trans h3
          refine WR.nil ?_
          refine WC.cond (decide (e2.Client = client)) g43 (fun hb4 => ?_) (fun hb4 => ?_)
          · rw [if_pos hb4] at hl
            refine WC.seq (WC.region ?_)
            refine WR.k rfl rfl rfl (OS.move (v := vI i) rfl h7 ?_)
            refine WR.k rfl rfl rfl (OS.assign (v := vI i) rfl rfl ?_)
            refine WR.nil ?_
            refine WC.ret ?_
            repeat first | refine thenQ_ret ?_ | refine blkQ_ret ?_
            cases hl
            simp only [lrc] at hp
            cases hp
            exact fnQ.l1 (fn := Tryd.f47) rfl (.inl ⟨_, rfl, rfl⟩) ⟨_, rfl, ((s1.t s2).t hs22).leave hcw (by decide)⟩
          · rw [if_neg (nt hb4)] at hl
            refine WC.skip ?_
            refine WC.region ?_
            refine WR.k rfl rfl rfl (OS.move (v := vI i) rfl h7 ?_)
            refine WR.k rfl rfl rfl (OS.bin (a := vI i) (b := vI (1 : Int)) rfl rfl rfl bI_add ?_)
            refine WR.k rfl rfl rfl (OS.assign (v := vI (W (i + (1 : Int)))) rfl rfl ?_)
            refine WR.nil ?_
            exact ⟨k, by omega, _, _, hl, h4, h5, h6, rfl, (s2.t hs22).mono (by decide)⟩
      · rw [if_neg (nt hb2)] at hl
        refine WC.seq (WC.draw3 (c := c_2) ⟨22, [[], [], [], [], [], [], [], [], [], [], [], [], [], [], [], [], [], [], [], [], [], []], [[], [], [], [], [], [], [], [], [], [], [], [], [], [], [], [], [], [], [], [], [], []], [], [[], [0], [1], [2], [], [3, 4], [5], [5, 6], [], [7, 8], [9], [10], [10], [10], [10], [10], [10], [10], [10], [10], [10], [10]], [21]⟩ [[], [], [], [], [], [], [], [], [], [], [], [], [], [], [], [], [], [], [], [], [], []] [[17], [18], [19], [20], [21], [22], [22, 23], [24], [25], [26], [27], [28], [29], [30], [31], [32], [33], [34], [35], [36], [37], [38]] [fun yf yw yc => (yf 17) = p_, fun yf yw yc => (yf 18) = p_, fun yf yw yc => AdrP p_ 1 1 (yf 19), fun yf yw yc => (yf 20) = sl1.val, fun yf yw yc => (yf 21) = vI i, fun yf yw yc => Adr sl1.val (i).toNat 4 (yf 22), fun yf yw yc => AdrP ((yf 22)) 0 1 (yf 23), fun yf yw yc => (yf 24) = .agg (E26.e e1.Owner).toArray, fun yf yw yc => (yf 25) = .agg (E26.e o3).toArray, fun yf yw yc => (yf 26) = vB (decide (e1.Owner = o3)), fun yf yw yc => (yf 27) = vB (decide (e1.Owner = o3)), fun yf yw yc => (yf 28) = undef, fun yf yw yc => (yf 29) = undef, fun yf yw yc => (yf 30) = undef, fun yf yw yc => (yf 31) = undef, fun yf yw yc => (yf 32) = undef, fun yf yw yc => (yf 33) = undef, fun yf yw yc => (yf 34) = undef, fun yf yw yc => (yf 35) = undef, fun yf yw yc => (yf 36) = undef, fun yf yw yc => (yf 37) = undef, fun yf yw yc => (yf 38) = vB false] hmix (by kernel_rfl) (by kernel_rfl) ⟨?_, ?_, ?_, ?_, ?_, ?_, ?_, ?_, ?_, ?_, ?_, ?_, ?_, ?_, ?_, ?_, ?_, ?_, ?_, ?_, ?_, ?_, trivial⟩ ⟨fun y1 y2 yw yc yI yw1 yc1 yh ye ys yk => by obtain ⟨ye0, -⟩ := ye; show (y2 17) = p_; rw [ye0]; exact yh, fun y1 y2 yw yc yI yw1 yc1 yh ye ys yk => by obtain ⟨ye0, -⟩ := ye; show (y2 18) = p_; rw [ye0]; exact yh, fun y1 y2 yw yc yI yw1 yc1 yh ye ys yk => by obtain ⟨ye0, -⟩ := ye; show AdrP p_ 1 1 (y2 19); rw [ye0]; exact yh, fun y1 y2 yw yc yI yw1 yc1 yh ye ys yk => by obtain ⟨ye0, -⟩ := ye; show (y2 20) = sl1.val; rw [ye0]; exact yh, fun y1 y2 yw yc yI yw1 yc1 yh ye ys yk => by obtain ⟨ye0, -⟩ := ye; show (y2 21) = vI i; rw [ye0]; exact yh, fun y1 y2 yw yc yI yw1 yc1 yh ye ys yk => by obtain ⟨ye0, -⟩ := ye; show Adr sl1.val (i).toNat 4 (y2 22); rw [ye0]; exact yh, fun y1 y2 yw yc yI yw1 yc1 yh ye ys yk => by obtain ⟨ye0, ye1, -⟩ := ye; show AdrP ((y2 22)) 0 1 (y2 23); rw [ye0, ye1]; exact yh, fun y1 y2 yw yc yI yw1 yc1 yh ye ys yk => by obtain ⟨ye0, -⟩ := ye; show (y2 24) = .agg (E26.e e1.Owner).toArray; rw [ye0]; exact yh, fun y1 y2 yw yc yI yw1 yc1 yh ye ys yk => by obtain ⟨ye0, -⟩ := ye; show (y2 25) = .agg (E26.e o3).toArray; rw [ye0]; exact yh, fun y1 y2 yw yc yI yw1 yc1 yh ye ys yk => by obtain ⟨ye0, -⟩ := ye; show (y2 26) = vB (decide (e1.Owner = o3)); rw [ye0]; exact yh, fun y1 y2 yw yc yI yw1 yc1 yh ye ys yk => by obtain ⟨ye0, -⟩ := ye; show (y2 27) = vB (decide (e1.Owner = o3)); rw [ye0]; exact yh, fun y1 y2 yw yc yI yw1 yc1 yh ye ys yk => by obtain ⟨ye0, -⟩ := ye; show (y2 28) = undef; rw [ye0]; exact yh, fun y1 y2 yw yc yI yw1 yc1 yh ye ys yk => by obtain ⟨ye0, -⟩ := ye; show (y2 29) = undef; rw [ye0]; exact yh, fun y1 y2 yw yc yI yw1 yc1 yh ye ys yk => by obtain ⟨ye0, -⟩ := ye; show (y2 30) = undef; rw [ye0]; exact yh, fun y1 y2 yw yc yI yw1 yc1 yh ye ys yk => by obtain ⟨ye0, -⟩ := ye; show (y2 31) = undef; rw [ye0]; exact yh, fun y1 y2 yw yc yI yw1 yc1 yh ye ys yk => by obtain ⟨ye0, -⟩ := ye; show (y2 32) = undef; rw [ye0]; exact yh, fun y1 y2 yw yc yI yw1 yc1 yh ye ys yk => by obtain ⟨ye0, -⟩ := ye; show (y2 33) = undef; rw [ye0]; exact yh, fun y1 y2 yw yc yI yw1 yc1 yh ye ys yk => by obtain ⟨ye0, -⟩ := ye; show (y2 34) = undef; rw [ye0]; exact yh, fun y1 y2 yw yc yI yw1 yc1 yh ye ys yk => by obtain ⟨ye0, -⟩ := ye; show (y2 35) = undef; rw [ye0]; exact yh, fun y1 y2 yw yc yI yw1 yc1 yh ye ys yk => by obtain ⟨ye0, -⟩ := ye; show (y2 36) = undef; rw [ye0]; exact yh, fun y1 y2 yw yc yI yw1 yc1 yh ye ys yk => by obtain ⟨ye0, -⟩ := ye; show (y2 37) = undef; rw [ye0]; exact yh, fun y1 y2 yw yc yI yw1 yc1 yh ye ys yk => by obtain ⟨ye0, -⟩ := ye; show (y2 38) = vB false; rw [ye0]; exact yh, trivial⟩ ?_)
        · rintro f_25 w_26 c_26 hB23 hs23 ⟨-⟩ o ho; obtain rfl : _ = o := Option.some.inj ho
          exact OS.move (v := p_) rfl ((hB23 0 (by kernel_rfl)).trans h) ⟨_, St.refl, rfl⟩
        · rintro f_26 w_27 c_27 hB24 hs24 ⟨g44, -⟩ o ho; obtain rfl : _ = o := Option.some.inj ho
          replace g44 : (f_26 17) = p_ := g44
          have o19 := o5.keep hs24 (by decide)
          exact OS.nilCheckBx rfl g44 o19 ⟨_, St.refl, rfl⟩
        · rintro f_27 w_28 c_28 hB25 hs25 ⟨g45, -⟩ o ho; obtain rfl : _ = o := Option.some.inj ho
          replace g45 : (f_27 18) = p_ := g45
          have o20 := o5.keep hs25 (by decide)
          exact OS.fieldAddrBx rfl Tryd.runUnderlying77 rfl Tryd.sizeOf38 rfl g45 o20 (fun _ h => ⟨_, St.refl, h⟩)
        · rintro f_28 w_29 c_29 hB26 hs26 ⟨g46, -⟩ o ho; obtain rfl : _ = o := Option.some.inj ho
          replace g46 : AdrP p_ 1 1 (f_28 19) := g46
          have o21 := o5.keep hs26 (by decide)
          exact OS.ld1 (u := sl1.val) rfl Tryd.isAgg38 rfl (o21.ldn g46 (sub_of rfl)) ⟨_, St.refl, rfl⟩
        · rintro f_29 w_30 c_30 hB27 hs27 ⟨-⟩ o ho; obtain rfl : _ = o := Option.some.inj ho
          exact OS.move (v := vI i) rfl ((hB27 7 (by kernel_rfl)).trans h3) ⟨_, St.refl, rfl⟩
        · rintro f_30 w_31 c_31 hB28 hs28 ⟨g47, g48, -⟩ o ho; obtain rfl : _ = o := Option.some.inj ho
          replace g47 : (f_30 20) = sl1.val := g47
          replace g48 : (f_30 21) = vI i := g48
          have o22 := o6.keep hs28 (by decide)
          exact OS.idx rfl Tryd.runUnderlying38 Tryd.sizeOf35 g47 o22.isSl g48 ha hb1 (fun _ h => ⟨_, St.refl, h⟩)
        · rintro f_31 w_32 c_32 hB29 hs29 ⟨g49, -⟩ o ho; obtain rfl : _ = o := Option.some.inj ho
          replace g49 : Adr sl1.val (i).toNat 4 (f_31 22) := g49
          exact OS.fieldAddrA rfl Tryd.runUnderlying35 rfl Tryd.sizeOf26 rfl rfl g49 (fun _ h => ⟨_, St.refl, h⟩)
        · rintro f_32 w_33 c_33 hB30 hs30 ⟨g50, g51, -⟩ o ho; obtain rfl : _ = o := Option.some.inj ho
          replace g50 : Adr sl1.val (i).toNat 4 (f_32 22) := g50
          replace g51 : AdrP ((f_32 22)) 0 1 (f_32 23) := g51
          have o23 := o6.keep hs30 (by decide)
          exact OS.ldN (us := [vS e1.Owner.Tenant, vS e1.Owner.User]) rfl Tryd.isAgg26 Tryd.sizeOf26 rfl ((o23.ld g50 hc).sub g51 (sub_of rfl)) rfl ⟨_, St.refl, rfl⟩
        · rintro f_33 w_34 c_34 hB31 hs31 ⟨-⟩ o ho; obtain rfl : _ = o := Option.some.inj ho
          have o24 := o4.keep (s2.t hs31) (by decide)
          exact OS.ldN (us := [vS o3.Tenant, vS o3.User]) rfl Tryd.isAgg26 Tryd.sizeOf26 ((hB31 4 (by kernel_rfl)).trans h2) o24.ldAll rfl ⟨_, St.refl, rfl⟩
        · rintro f_34 w_35 c_35 hB32 hs32 ⟨g52, g53, -⟩ o ho; obtain rfl : _ = o := Option.some.inj ho
          replace g52 : (f_34 24) = .agg (E26.e e1.Owner).toArray := g52
          replace g53 : (f_34 25) = .agg (E26.e o3).toArray := g53
          exact OS.eqSt (us := E26.e e1.Owner) (vs := E26.e o3) rfl (.inl ⟨rfl, rfl⟩) Tryd.eqGuardType26 g52 g53 (fun w => q26 9998 _ _ w) ⟨_, St.refl, rfl⟩
        · rintro f_35 w_36 c_36 hB33 hs33 ⟨g54, -⟩ o ho; obtain rfl : _ = o := Option.some.inj ho
          replace g54 : (f_35 26) = vB (decide (e1.Owner = o3)) := g54
          exact OS.move (v := vB (decide (e1.Owner = o3))) rfl g54 ⟨_, St.refl, rfl⟩
        · rintro f_36 w_37 c_37 hB34 hs34 ⟨g55, -⟩ o ho; obtain rfl : _ = o := Option.some.inj ho
          replace g55 : (f_36 27) = vB (decide (e1.Owner = o3)) := g55
          exact ⟨_, g55, rfl, fun h => absurd (h.symm.trans hb2) (by decide), fun _ => ⟨_, St.refl, rfl⟩⟩
        · rintro f_37 w_38 c_38 hB35 hs35 ⟨g56, -⟩ o ho; obtain rfl : _ = o := Option.some.inj ho
          replace g56 : (f_37 27) = vB (decide (e1.Owner = o3)) := g56
          exact ⟨_, g56, rfl, fun h => absurd (h.symm.trans hb2) (by decide), fun _ => ⟨_, St.refl, rfl⟩⟩
        · rintro f_38 w_39 c_39 hB36 hs36 ⟨g57, -⟩ o ho; obtain rfl : _ = o := Option.some.inj ho
          replace g57 : (f_38 27) = vB (decide (e1.Owner = o3)) := g57
          exact ⟨_, g57, rfl, fun h => absurd (h.symm.trans hb2) (by decide), fun _ => ⟨_, St.refl, rfl⟩⟩
        · rintro f_39 w_40 c_40 hB37 hs37 ⟨g58, -⟩ o ho; obtain rfl : _ = o := Option.some.inj ho
          replace g58 : (f_39 27) = vB (decide (e1.Owner = o3)) := g58
          exact ⟨_, g58, rfl, fun h => absurd (h.symm.trans hb2) (by decide), fun _ => ⟨_, St.refl, rfl⟩⟩
        · rintro f_40 w_41 c_41 hB38 hs38 ⟨g59, -⟩ o ho; obtain rfl : _ = o := Option.some.inj ho
          replace g59 : (f_40 27) = vB (decide (e1.Owner = o3)) := g59
          exact ⟨_, g59, rfl, fun h => absurd (h.symm.trans hb2) (by decide), fun _ => ⟨_, St.refl, rfl⟩⟩
        · rintro f_41 w_42 c_42 hB39 hs39 ⟨g60, -⟩ o ho; obtain rfl : _ = o := Option.some.inj ho
          replace g60 : (f_41 27) = vB (decide (e1.Owner = o3)) := g60
          exact ⟨_, g60, rfl, fun h => absurd (h.symm.trans hb2) (by decide), fun _ => ⟨_, St.refl, rfl⟩⟩
        · rintro f_42 w_43 c_43 hB40 hs40 ⟨g61, -⟩ o ho; obtain rfl : _ = o := Option.some.inj ho
          replace g61 : (f_42 27) = vB (decide (e1.Owner = o3)) := g61
          exact ⟨_, g61, rfl, fun h => absurd (h.symm.trans hb2) (by decide), fun _ => ⟨_, St.refl, rfl⟩⟩
        · rintro f_43 w_44 c_44 hB41 hs41 ⟨g62, -⟩ o ho; obtain rfl : _ = o := Option.some.inj ho
          replace g62 : (f_43 27) = vB (decide (e1.Owner = o3)) := g62
          exact ⟨_, g62, rfl, fun h => absurd (h.symm.trans hb2) (by decide), fun _ => ⟨_, St.refl, rfl⟩⟩
        · rintro f_44 w_45 c_45 hB42 hs42 ⟨g63, -⟩ o ho; obtain rfl : _ = o := Option.some.inj ho
          replace g63 : (f_44 27) = vB (decide (e1.Owner = o3)) := g63
          exact ⟨_, g63, rfl, fun h => absurd (h.symm.trans hb2) (by decide), fun _ => ⟨_, St.refl, rfl⟩⟩
        · rintro f_45 w_46 c_46 hB43 hs43 ⟨g64, -⟩ o ho; obtain rfl : _ = o := Option.some.inj ho
          replace g64 : (f_45 27) = vB (decide (e1.Owner = o3)) := g64
          exact ⟨_, g64, rfl, fun h => absurd (h.symm.trans hb2) (by decide), fun _ => ⟨_, St.refl, rfl⟩⟩
        · rintro f_46 w_47 c_47 hB44 hs44 ⟨g65, -⟩ o ho; obtain rfl : _ = o := Option.some.inj ho
          replace g65 : (f_46 27) = vB (decide (e1.Owner = o3)) := g65
          exact OS.pickF rfl (vb_f g65 hb2) rfl ⟨_, St.refl, rfl⟩
        · rintro f_47 w_48 c_48 hB45 hs45 ⟨g66, -⟩
          replace g66 : (f_47 38) = vB false := g66
          have h8 := (hB45 0 (by kernel_rfl)).trans h
          have h9 := (hB45 2 (by kernel_rfl)).trans h1
          have h10 := (hB45 4 (by kernel_rfl)).trans h2
          have h11 := (hB45 7 (by kernel_rfl)).trans h3
          refine WR.nil ?_
          refine WC.condF g66 ?_
          refine WC.skip ?_
          refine WC.region ?_
          refine WR.k rfl rfl rfl (OS.move (v := vI i) rfl h11 ?_)
          refine WR.k rfl rfl rfl (OS.bin (a := vI i) (b := vI (1 : Int)) rfl rfl rfl bI_add ?_)
          refine WR.k rfl rfl rfl (OS.assign (v := vI (W (i + (1 : Int)))) rfl rfl ?_)
          refine WR.nil ?_
          exact ⟨k, by omega, _, _, hl, h8, h9, h10, rfl, (s2.t hs45).mono (by decide)⟩
    · rw [if_neg (nt hb)] at hl
      refine WC.exit ?_
      cases hl
      exact ⟨_, rfl, h, s2.mono (by decide)⟩
  · rintro f_ w_1 ⟨c_1, rfl, h12, s3⟩
    simp only [lrc] at hp
    refine WC.seq (WC.region ?_)
    refine WR.k rfl rfl rfl (OS.assign (v := vI (-1 : Int)) rfl rfl ?_)
    refine WR.nil ?_
    refine WC.ret ?_
    repeat first | refine thenQ_ret ?_ | refine blkQ_ret ?_
    cases hp
    exact fnQ.l1 (fn := Tryd.f47) rfl (.inl ⟨_, rfl, rfl⟩) ⟨_, rfl, (s1.t s3).leave hcw (by decide)⟩

-- (*holdfast/holdfastref13.Store).Consents
set_option maxHeartbeats 4000000 in
theorem W48 (K : Nat) (w0 : World) (cw : Col) (hcw : ∀ b, cw b < 40) {s : S_holdfastref13_Store} {o3 : S_api_Owner} {r : (List S_api_Consent)} (hp : holdfastref13_Store_Consents K s o3 = some r) {sl : Sl} {sl1 : Sl} {p_ : Value} (o : Bx 3 w0 cw p_ [sl.val, sl1.val]) (o1 : Vw E32 1 w0 cw sl.val s.c_) (o2 : Vw E35 1 w0 cw sl1.val s.a) :
    Calls Tryd.prog 48 [p_, .agg (E26.e o3).toArray].toArray w0 fun e w1 => ∃ (sl3 : Sl) (d : Col), e = .returned (sl3.val) ∧ St [] w0 cw w1 d ∧ Ow E35 2000 w1 d sl3.val r := by
  refine calls_intro Tryd.func48 rfl Tryd.ntmps48 rfl ?_
  unfold holdfastref13_Store_Consents at hp
  refine WC.seq (WC.region ?_)
  refine WR.k rfl rfl rfl (OS.boxBx (us := [vS o3.Tenant, vS o3.User]) (c := cw) 40 rfl rfl rfl ?_); intro p_1 w_ c_ o4 s1
  refine WR.k rfl rfl rfl (OS.assign (v := (.slice none 0 0)) rfl rfl ?_)
  refine WR.nil ?_
  refine WC.seq (WC.region ?_)
  refine WR.k rfl rfl rfl (OS.assign (v := (.slice none 0 0)) rfl rfl ?_)
  refine WR.nil ?_
  refine WC.seq ?_
  refine WC.seq (WC.region ?_)
  refine WR.k rfl rfl rfl (OS.assign (v := vI (0 : Int)) rfl rfl ?_)
  refine WR.nil ?_
  obtain ⟨q, hl, hp⟩ := bind_some hp
  obtain ⟨out1, hx⟩ : ∃ z, z = q := ⟨_, rfl⟩; subst hx
  refine WC.blockJ2 (fun f_ w_1 => ∃ (v_1 : Value) (c_1 : Col), f_ 0 = p_ ∧ f_ 5 = v_1 ∧ Ow E35 48 w_1 c_1 v_1 out1 ∧ St [45, 52, 54, 61] w_ c_ w_1 c_1) ?_ ?_
  · refine WC.loop (fun n => fun f_1 w_2 => ∃ (out : List S_api_Consent) (i : Int) (v_ : Value) (c_2 : Col), holdfastref13_Store_Consents.l1 K n s o3 out i = some out1 ∧ f_1 0 = p_ ∧ f_1 3 = p_1 ∧ f_1 5 = v_ ∧ f_1 6 = vI i ∧ Ow E35 54 w_2 c_2 v_ out ∧ St [45, 52, 61] w_ c_ w_2 c_2) K ⟨_, _, _, _, hl, rfl, rfl, rfl, rfl, Ow.nil, St.refl.mono (by decide)⟩ ?_
    rintro n f_1 w_2 ⟨out, i, v_, c_2, hl, h, h1, h2, h3, o5, s2⟩
    cases n with
    | zero => exact absurd hl (by simp [holdfastref13_Store_Consents.l1])
    | succ k =>
    rw [holdfastref13_Store_Consents.l1] at hl
    refine WC.seq ?_
    refine WC.seq (WC.region ?_)
    refine WR.k rfl rfl rfl (OS.move (v := p_) rfl h ?_)
    have o7 := o.keep (s1.t s2) (by decide)
    refine WR.k rfl rfl rfl (OS.eqPtrS rfl (.inr ⟨rfl, rfl⟩) Tryd.underlying45 rfl o7 rfl ?_)
    refine WR.k rfl rfl rfl (OS.move (v := vB true) rfl rfl ?_)
    refine WR.kT rfl rfl rfl rfl rfl (OS.move (v := vI i) rfl h3 ?_)
    refine WR.kT rfl rfl rfl rfl rfl (OS.move (v := p_) rfl h ?_)
    refine WR.kT rfl rfl rfl rfl rfl (OS.nilCheckBx rfl rfl o7 ?_)
    refine WR.kT rfl rfl rfl rfl rfl (OS.fieldAddrBx rfl Tryd.runUnderlying77 rfl Tryd.sizeOf38 rfl rfl o7 ?_); intro p_2 a1
    refine WR.kT rfl rfl rfl rfl rfl (OS.ld1 (u := sl1.val) rfl Tryd.isAgg38 rfl (o7.ldn a1 (sub_of rfl)) ?_)
    have o8 := o2.keep (s1.t s2) (by decide)
    refine WR.kT rfl rfl rfl rfl rfl (OS.lenSl rfl Tryd.runUnderlying38 rfl o8.isSl ?_)
    refine WR.kT rfl rfl rfl rfl rfl (OS.bin (a := vI i) (b := vI (s.a.length : Int)) rfl rfl rfl bI_lss ?_)
    refine WR.k rfl rfl rfl (OS.pickT rfl rfl rfl ?_)
    refine WR.nil ?_
    refine WC.cond (decide (i < (s.a.length : Int))) rfl (fun hb => ?_) (fun hb => ?_)
    · rw [if_pos hb] at hl
      refine WC.skip ?_
      refine WC.seq ?_
      refine WC.block ?_
      refine WC.seq ?_
      obtain ⟨e1, he1, hl⟩ := bind_some hl
      obtain ⟨ha, hb1, hc⟩ := gt_some he1
      have o9 := o4.keep s2 (by decide)
      refine WC.seq (WC.draw3 (c := c_2) ⟨9, [[], [], [], [], [], [], [], [], []], [[], [], [], [], [], [], [], [], []], [], [[], [0], [1], [2], [], [3, 4], [5], [5, 6], []], [7, 8]⟩ [[], [], [], [], [], [], [], [], []] [[22], [23], [24], [25], [26], [27], [27, 28], [29], [30]] [fun yf yw yc => (yf 22) = p_, fun yf yw yc => (yf 23) = p_, fun yf yw yc => AdrP p_ 1 1 (yf 24), fun yf yw yc => (yf 25) = sl1.val, fun yf yw yc => (yf 26) = vI i, fun yf yw yc => Adr sl1.val (i).toNat 4 (yf 27), fun yf yw yc => AdrP ((yf 27)) 0 1 (yf 28), fun yf yw yc => (yf 29) = .agg (E26.e e1.Owner).toArray, fun yf yw yc => (yf 30) = .agg (E26.e o3).toArray] hmix (by kernel_rfl) (by kernel_rfl) ⟨?_, ?_, ?_, ?_, ?_, ?_, ?_, ?_, ?_, trivial⟩ ⟨fun y1 y2 yw yc yI yw1 yc1 yh ye ys yk => by obtain ⟨ye0, -⟩ := ye; show (y2 22) = p_; rw [ye0]; exact yh, fun y1 y2 yw yc yI yw1 yc1 yh ye ys yk => by obtain ⟨ye0, -⟩ := ye; show (y2 23) = p_; rw [ye0]; exact yh, fun y1 y2 yw yc yI yw1 yc1 yh ye ys yk => by obtain ⟨ye0, -⟩ := ye; show AdrP p_ 1 1 (y2 24); rw [ye0]; exact yh, fun y1 y2 yw yc yI yw1 yc1 yh ye ys yk => by obtain ⟨ye0, -⟩ := ye; show (y2 25) = sl1.val; rw [ye0]; exact yh, fun y1 y2 yw yc yI yw1 yc1 yh ye ys yk => by obtain ⟨ye0, -⟩ := ye; show (y2 26) = vI i; rw [ye0]; exact yh, fun y1 y2 yw yc yI yw1 yc1 yh ye ys yk => by obtain ⟨ye0, -⟩ := ye; show Adr sl1.val (i).toNat 4 (y2 27); rw [ye0]; exact yh, fun y1 y2 yw yc yI yw1 yc1 yh ye ys yk => by obtain ⟨ye0, ye1, -⟩ := ye; show AdrP ((y2 27)) 0 1 (y2 28); rw [ye0, ye1]; exact yh, fun y1 y2 yw yc yI yw1 yc1 yh ye ys yk => by obtain ⟨ye0, -⟩ := ye; show (y2 29) = .agg (E26.e e1.Owner).toArray; rw [ye0]; exact yh, fun y1 y2 yw yc yI yw1 yc1 yh ye ys yk => by obtain ⟨ye0, -⟩ := ye; show (y2 30) = .agg (E26.e o3).toArray; rw [ye0]; exact yh, trivial⟩ ?_)
      · rintro f_2 w_3 c_3 hB hs ⟨-⟩ o ho; obtain rfl : _ = o := Option.some.inj ho
        exact OS.move (v := p_) rfl ((hB 0 (by kernel_rfl)).trans h) ⟨_, St.refl, rfl⟩
      · rintro f_3 w_4 c_4 hB1 hs1 ⟨g, -⟩ o ho; obtain rfl : _ = o := Option.some.inj ho
        replace g : (f_3 22) = p_ := g
        have o10 := o7.keep hs1 (by decide)
        exact OS.nilCheckBx rfl g o10 ⟨_, St.refl, rfl⟩
      · rintro f_4 w_5 c_5 hB2 hs2 ⟨g1, -⟩ o ho; obtain rfl : _ = o := Option.some.inj ho
        replace g1 : (f_4 23) = p_ := g1
        have o11 := o7.keep hs2 (by decide)
        exact OS.fieldAddrBx rfl Tryd.runUnderlying77 rfl Tryd.sizeOf38 rfl g1 o11 (fun _ h => ⟨_, St.refl, h⟩)
      · rintro f_5 w_6 c_6 hB3 hs3 ⟨g2, -⟩ o ho; obtain rfl : _ = o := Option.some.inj ho
        replace g2 : AdrP p_ 1 1 (f_5 24) := g2
        have o12 := o7.keep hs3 (by decide)
        exact OS.ld1 (u := sl1.val) rfl Tryd.isAgg38 rfl (o12.ldn g2 (sub_of rfl)) ⟨_, St.refl, rfl⟩
      · rintro f_6 w_7 c_7 hB4 hs4 ⟨-⟩ o ho; obtain rfl : _ = o := Option.some.inj ho
        exact OS.move (v := vI i) rfl ((hB4 6 (by kernel_rfl)).trans h3) ⟨_, St.refl, rfl⟩
      · rintro f_7 w_8 c_8 hB5 hs5 ⟨g3, g4, -⟩ o ho; obtain rfl : _ = o := Option.some.inj ho
        replace g3 : (f_7 25) = sl1.val := g3
        replace g4 : (f_7 26) = vI i := g4
        have o13 := o8.keep hs5 (by decide)
        exact OS.idx rfl Tryd.runUnderlying38 Tryd.sizeOf35 g3 o13.isSl g4 ha hb1 (fun _ h => ⟨_, St.refl, h⟩)
      · rintro f_8 w_9 c_9 hB6 hs6 ⟨g5, -⟩ o ho; obtain rfl : _ = o := Option.some.inj ho
        replace g5 : Adr sl1.val (i).toNat 4 (f_8 27) := g5
        exact OS.fieldAddrA rfl Tryd.runUnderlying35 rfl Tryd.sizeOf26 rfl rfl g5 (fun _ h => ⟨_, St.refl, h⟩)
      · rintro f_9 w_10 c_10 hB7 hs7 ⟨g6, g7, -⟩ o ho; obtain rfl : _ = o := Option.some.inj ho
        replace g6 : Adr sl1.val (i).toNat 4 (f_9 27) := g6
        replace g7 : AdrP ((f_9 27)) 0 1 (f_9 28) := g7
        have o14 := o8.keep hs7 (by decide)
        exact OS.ldN (us := [vS e1.Owner.Tenant, vS e1.Owner.User]) rfl Tryd.isAgg26 Tryd.sizeOf26 rfl ((o14.ld g6 hc).sub g7 (sub_of rfl)) rfl ⟨_, St.refl, rfl⟩
      · rintro f_10 w_11 c_11 hB8 hs8 ⟨-⟩ o ho; obtain rfl : _ = o := Option.some.inj ho
        have o15 := o4.keep (s2.t hs8) (by decide)
        exact OS.ldN (us := [vS o3.Tenant, vS o3.User]) rfl Tryd.isAgg26 Tryd.sizeOf26 ((hB8 3 (by kernel_rfl)).trans h1) o15.ldAll rfl ⟨_, St.refl, rfl⟩
      · rintro f_11 w_12 c_12 hB9 hs9 ⟨g8, g9, -⟩
        replace g8 : (f_11 29) = .agg (E26.e e1.Owner).toArray := g8
        replace g9 : (f_11 30) = .agg (E26.e o3).toArray := g9
        have h4 := (hB9 0 (by kernel_rfl)).trans h
        have h5 := (hB9 3 (by kernel_rfl)).trans h1
        have h6 := (hB9 5 (by kernel_rfl)).trans h2
        have h7 := (hB9 6 (by kernel_rfl)).trans h3
        have h8 := (hB9 12 (by kernel_rfl)).trans (show _ = vI i from rfl)
        have h9 := (hB9 13 (by kernel_rfl)).trans (show _ = p_ from rfl)
        have h10 := (hB9 14 (by kernel_rfl)).trans (show _ = p_ from rfl)
        have h11 := (hB9 15 (by kernel_rfl)).trans (show _ = p_2 from rfl)
        have h12 := (hB9 16 (by kernel_rfl)).trans (show _ = sl1.val from rfl)
        have h13 := (hB9 17 (by kernel_rfl)).trans (show _ = vI (s.a.length : Int) from rfl)
        have h14 := (hB9 18 (by kernel_rfl)).trans (show _ = vB (decide (i < (s.a.length : Int))) from rfl)
        refine WR.k rfl rfl rfl (OS.eqSt (us := E26.e e1.Owner) (vs := E26.e o3) rfl (.inr ⟨rfl, rfl⟩) Tryd.eqGuardType26 g8 g9 (fun w => q26 9998 _ _ w) ?_)
        refine WR.nil ?_
        refine WC.cond (!decide (e1.Owner = o3)) rfl (fun hb2 => ?_) (fun hb2 => ?_)
        · rw [if_pos hb2] at hl
          refine WC.exit ?_
          refine WC.region ?_
          refine WR.k rfl rfl rfl (OS.move (v := vI i) rfl h7 ?_)
          refine WR.k rfl rfl rfl (OS.bin (a := vI i) (b := vI (1 : Int)) rfl rfl rfl bI_add ?_)
          refine WR.k rfl rfl rfl (OS.assign (v := vI (W (i + (1 : Int)))) rfl rfl ?_)
          refine WR.nil ?_
          have o16 := o5.keep hs9 (by decide)
          exact ⟨k, by omega, _, _, _, _, hl, h4, h5, h6, rfl, o16, (s2.t hs9).mono (by decide)⟩
        · rw [if_neg (nt hb2)] at hl
          refine WC.skip ?_
          refine WC.seq (WC.region ?_)
          refine WR.k rfl rfl rfl (OS.move (v := v_) rfl h6 ?_)
          have o17 := o5.keep hs9 (by decide)
          refine WR.k rfl rfl rfl (OS.lenSl rfl Tryd.runUnderlying38 rfl o17.isSl ?_)
          refine WR.k rfl rfl rfl (OS.assign (v := vI (out.length : Int)) rfl rfl ?_)
          refine WR.nil ?_
          refine WC.seq ?_
          obtain ⟨q1, hl1, hl⟩ := bind_some hl
          obtain ⟨at_1, hx⟩ : ∃ z, z = q1 := ⟨_, rfl⟩; subst hx
          refine WC.blockJ2 (fun f_12 w_13 => ∃ (c_13 : Col), f_12 0 = p_ ∧ f_12 3 = p_1 ∧ f_12 5 = v_ ∧ f_12 6 = vI i ∧ f_12 7 = vI at_1 ∧ f_12 12 = vI i ∧ f_12 13 = p_ ∧ f_12 14 = p_ ∧ f_12 15 = p_2 ∧ f_12 16 = sl1.val ∧ f_12 17 = vI (s.a.length : Int) ∧ f_12 18 = vB (decide (i < (s.a.length : Int))) ∧ St [] w_12 c_12 w_13 c_13) ?_ ?_
          · refine WC.loop (fun n => fun f_13 w_14 => ∃ (at_ : Int) (c_14 : Col), holdfastref13_Store_Consents.l2 n out s i at_ = some at_1 ∧ f_13 0 = p_ ∧ f_13 3 = p_1 ∧ f_13 5 = v_ ∧ f_13 6 = vI i ∧ f_13 7 = vI at_ ∧ f_13 12 = vI i ∧ f_13 13 = p_ ∧ f_13 14 = p_ ∧ f_13 15 = p_2 ∧ f_13 16 = sl1.val ∧ f_13 17 = vI (s.a.length : Int) ∧ f_13 18 = vB (decide (i < (s.a.length : Int))) ∧ St [] w_12 c_12 w_14 c_14) K ⟨_, _, hl1, h4, h5, h6, h7, rfl, h8, h9, h10, h11, h12, h13, h14, St.refl.mono (by decide)⟩ ?_
            rintro n f_13 w_14 ⟨at_, c_14, hl1, h15, h16, h17, h18, h19, h20, h21, h22, h23, h24, h25, h26, s3⟩
            cases n with
            | zero => exact absurd hl1 (by simp [holdfastref13_Store_Consents.l2])
            | succ k =>
            rw [holdfastref13_Store_Consents.l2] at hl1
            refine WC.seq ?_
            rcases Bool.eq_false_or_eq_true (decide ((0 : Int) < at_)) with hb3 | hb3
            · rw [if_pos hb3] at hl1
              have o18 := o17.keep s3 (by decide)
              obtain ⟨e2, he2, hl1⟩ := bind_some hl1
              obtain ⟨ha1, hb4, hc1⟩ := gt_some he2
              have o19 := o7.keep (hs9.t s3) (by decide)
              have o20 := o8.keep (hs9.t s3) (by decide)
              obtain ⟨e3, he3, hl1⟩ := bind_some hl1
              obtain ⟨ha2, hb5, hc2⟩ := gt_some he3
              refine WC.seq (WC.draw3 (c := c_14) ⟨19, [[], [], [], [], [], [], [], [], [], [], [], [], [], [], [], [], [], [], []], [[], [], [], [], [], [], [], [], [], [], [], [], [], [], [], [], [], [], []], [], [[], [0], [1], [2], [2], [2, 4], [2, 3, 5], [2, 6], [2, 6, 7], [2], [2, 9], [2, 10], [2, 11], [2], [2, 12, 13], [2, 14], [2, 14, 15], [2, 8, 16], [2, 17]], [3, 4, 5, 6, 7, 8, 9, 10, 11, 12, 13, 14, 15, 16, 17, 18]⟩ [[], [], [], [], [], [], [], [], [], [], [], [], [], [], [], [], [], [], []] [[34], [35], [36], [37], [38], [39], [40], [40, 41], [42], [43], [44], [45], [46], [47], [48], [48, 49], [50], [51], [52]] [fun yf yw yc => (yf 34) = vI at_, fun yf yw yc => (yf 35) = vB (decide ((0 : Int) < at_)), fun yf yw yc => (yf 36) = vB (decide ((0 : Int) < at_)), fun yf yw yc => (yf 37) = v_, fun yf yw yc => (yf 38) = vI at_, fun yf yw yc => (yf 39) = vI (W (at_ - (1 : Int))), fun yf yw yc => Adr v_ (W (at_ - (1 : Int))).toNat 4 (yf 40), fun yf yw yc => AdrP ((yf 40)) 2 1 (yf 41), fun yf yw yc => (yf 42) = vS e2.Client, fun yf yw yc => (yf 43) = p_, fun yf yw yc => (yf 44) = p_, fun yf yw yc => AdrP p_ 1 1 (yf 45), fun yf yw yc => (yf 46) = sl1.val, fun yf yw yc => (yf 47) = vI i, fun yf yw yc => Adr sl1.val (i).toNat 4 (yf 48), fun yf yw yc => AdrP ((yf 48)) 2 1 (yf 49), fun yf yw yc => (yf 50) = vS e3.Client, fun yf yw yc => (yf 51) = vB (!(ltS e2.Client e3.Client || decide (e2.Client = e3.Client))), fun yf yw yc => (yf 52) = vB (!(ltS e2.Client e3.Client || decide (e2.Client = e3.Client)))] hmix (by kernel_rfl) (by kernel_rfl) ⟨?_, ?_, ?_, ?_, ?_, ?_, ?_, ?_, ?_, ?_, ?_, ?_, ?_, ?_, ?_, ?_, ?_, ?_, ?_, trivial⟩ ⟨fun y1 y2 yw yc yI yw1 yc1 yh ye ys yk => by obtain ⟨ye0, -⟩ := ye; show (y2 34) = vI at_; rw [ye0]; exact yh, fun y1 y2 yw yc yI yw1 yc1 yh ye ys yk => by obtain ⟨ye0, -⟩ := ye; show (y2 35) = vB (decide ((0 : Int) < at_)); rw [ye0]; exact yh, fun y1 y2 yw yc yI yw1 yc1 yh ye ys yk => by obtain ⟨ye0, -⟩ := ye; show (y2 36) = vB (decide ((0 : Int) < at_)); rw [ye0]; exact yh, fun y1 y2 yw yc yI yw1 yc1 yh ye ys yk => by obtain ⟨ye0, -⟩ := ye; show (y2 37) = v_; rw [ye0]; exact yh, fun y1 y2 yw yc yI yw1 yc1 yh ye ys yk => by obtain ⟨ye0, -⟩ := ye; show (y2 38) = vI at_; rw [ye0]; exact yh, fun y1 y2 yw yc yI yw1 yc1 yh ye ys yk => by obtain ⟨ye0, -⟩ := ye; show (y2 39) = vI (W (at_ - (1 : Int))); rw [ye0]; exact yh, fun y1 y2 yw yc yI yw1 yc1 yh ye ys yk => by obtain ⟨ye0, -⟩ := ye; show Adr v_ (W (at_ - (1 : Int))).toNat 4 (y2 40); rw [ye0]; exact yh, fun y1 y2 yw yc yI yw1 yc1 yh ye ys yk => by obtain ⟨ye0, ye1, -⟩ := ye; show AdrP ((y2 40)) 2 1 (y2 41); rw [ye0, ye1]; exact yh, fun y1 y2 yw yc yI yw1 yc1 yh ye ys yk => by obtain ⟨ye0, -⟩ := ye; show (y2 42) = vS e2.Client; rw [ye0]; exact yh, fun y1 y2 yw yc yI yw1 yc1 yh ye ys yk => by obtain ⟨ye0, -⟩ := ye; show (y2 43) = p_; rw [ye0]; exact yh, fun y1 y2 yw yc yI yw1 yc1 yh ye ys yk => by obtain ⟨ye0, -⟩ := ye; show (y2 44) = p_; rw [ye0]; exact yh, fun y1 y2 yw yc yI yw1 yc1 yh ye ys yk => by obtain ⟨ye0, -⟩ := ye; show AdrP p_ 1 1 (y2 45); rw [ye0]; exact yh, fun y1 y2 yw yc yI yw1 yc1 yh ye ys yk => by obtain ⟨ye0, -⟩ := ye; show (y2 46) = sl1.val; rw [ye0]; exact yh, fun y1 y2 yw yc yI yw1 yc1 yh ye ys yk => by obtain ⟨ye0, -⟩ := ye; show (y2 47) = vI i; rw [ye0]; exact yh, fun y1 y2 yw yc yI yw1 yc1 yh ye ys yk => by obtain ⟨ye0, -⟩ := ye; show Adr sl1.val (i).toNat 4 (y2 48); rw [ye0]; exact yh, fun y1 y2 yw yc yI yw1 yc1 yh ye ys yk => by obtain ⟨ye0, ye1, -⟩ := ye; show AdrP ((y2 48)) 2 1 (y2 49); rw [ye0, ye1]; exact yh, fun y1 y2 yw yc yI yw1 yc1 yh ye ys yk => by obtain ⟨ye0, -⟩ := ye; show (y2 50) = vS e3.Client; rw [ye0]; exact yh, fun y1 y2 yw yc yI yw1 yc1 yh ye ys yk => by obtain ⟨ye0, -⟩ := ye; show (y2 51) = vB (!(ltS e2.Client e3.Client || decide (e2.Client = e3.Client))); rw [ye0]; exact yh, fun y1 y2 yw yc yI yw1 yc1 yh ye ys yk => by obtain ⟨ye0, -⟩ := ye; show (y2 52) = vB (!(ltS e2.Client e3.Client || decide (e2.Client = e3.Client))); rw [ye0]; exact yh, trivial⟩ ?_)
              · rintro f_14 w_15 c_15 hB10 hs10 ⟨-⟩ o ho; obtain rfl : _ = o := Option.some.inj ho
                exact OS.move (v := vI at_) rfl ((hB10 7 (by kernel_rfl)).trans h19) ⟨_, St.refl, rfl⟩
              · rintro f_15 w_16 c_16 hB11 hs11 ⟨g10, -⟩ o ho; obtain rfl : _ = o := Option.some.inj ho
                replace g10 : (f_15 34) = vI at_ := g10
                exact OS.bin (a := vI at_) (b := vI (0 : Int)) rfl g10 rfl bI_gtr ⟨_, St.refl, rfl⟩
              · rintro f_16 w_17 c_17 hB12 hs12 ⟨g11, -⟩ o ho; obtain rfl : _ = o := Option.some.inj ho
                replace g11 : (f_16 35) = vB (decide ((0 : Int) < at_)) := g11
                exact OS.move (v := vB (decide ((0 : Int) < at_))) rfl g11 ⟨_, St.refl, rfl⟩
              · rintro f_17 w_18 c_18 hB13 hs13 ⟨g12, -⟩ o ho; obtain rfl : _ = o := Option.some.inj ho
                replace g12 : (f_17 36) = vB (decide ((0 : Int) < at_)) := g12
                refine ⟨_, g12, rfl, fun _ => ?_, fun h => absurd (h.symm.trans hb3) (by decide)⟩
                exact OS.move (v := v_) rfl ((hB13 5 (by kernel_rfl)).trans h17) ⟨_, St.refl, rfl⟩
              · rintro f_18 w_19 c_19 hB14 hs14 ⟨g13, -⟩ o ho; obtain rfl : _ = o := Option.some.inj ho
                replace g13 : (f_18 36) = vB (decide ((0 : Int) < at_)) := g13
                refine ⟨_, g13, rfl, fun _ => ?_, fun h => absurd (h.symm.trans hb3) (by decide)⟩
                exact OS.move (v := vI at_) rfl ((hB14 7 (by kernel_rfl)).trans h19) ⟨_, St.refl, rfl⟩
              · rintro f_19 w_20 c_20 hB15 hs15 ⟨g14, g15, -⟩ o ho; obtain rfl : _ = o := Option.some.inj ho
                replace g14 : (f_19 36) = vB (decide ((0 : Int) < at_)) := g14
                replace g15 : (f_19 38) = vI at_ := g15
                refine ⟨_, g14, rfl, fun _ => ?_, fun h => absurd (h.symm.trans hb3) (by decide)⟩
                exact OS.bin (a := vI at_) (b := vI (1 : Int)) rfl g15 rfl bI_sub ⟨_, St.refl, rfl⟩
              · rintro f_20 w_21 c_21 hB16 hs16 ⟨g16, g17, g18, -⟩ o ho; obtain rfl : _ = o := Option.some.inj ho
                replace g16 : (f_20 36) = vB (decide ((0 : Int) < at_)) := g16
                replace g17 : (f_20 37) = v_ := g17
                replace g18 : (f_20 39) = vI (W (at_ - (1 : Int))) := g18
                refine ⟨_, g16, rfl, fun _ => ?_, fun h => absurd (h.symm.trans hb3) (by decide)⟩
                have o21 := o17.keep (s3.t hs16) (by decide)
                exact OS.idx rfl Tryd.runUnderlying38 Tryd.sizeOf35 g17 o21.isSl g18 ha1 hb4 (fun _ h => ⟨_, St.refl, h⟩)
              · rintro f_21 w_22 c_22 hB17 hs17 ⟨g19, g20, -⟩ o ho; obtain rfl : _ = o := Option.some.inj ho
                replace g19 : (f_21 36) = vB (decide ((0 : Int) < at_)) := g19
                replace g20 : Adr v_ (W (at_ - (1 : Int))).toNat 4 (f_21 40) := g20
                refine ⟨_, g19, rfl, fun _ => ?_, fun h => absurd (h.symm.trans hb3) (by decide)⟩
                exact OS.fieldAddrA rfl Tryd.runUnderlying35 rfl Tryd.sizeOf9 rfl rfl g20 (fun _ h => ⟨_, St.refl, h⟩)
              · rintro f_22 w_23 c_23 hB18 hs18 ⟨g21, g22, g23, -⟩ o ho; obtain rfl : _ = o := Option.some.inj ho
                replace g21 : (f_22 36) = vB (decide ((0 : Int) < at_)) := g21
                replace g22 : Adr v_ (W (at_ - (1 : Int))).toNat 4 (f_22 40) := g22
                replace g23 : AdrP ((f_22 40)) 2 1 (f_22 41) := g23
                refine ⟨_, g21, rfl, fun _ => ?_, fun h => absurd (h.symm.trans hb3) (by decide)⟩
                have o22 := o18.keep hs18 (by decide)
                exact OS.ld1 (u := vS e2.Client) rfl Tryd.isAgg9 rfl ((o22.ld g22 hc1).sub g23 (sub_of rfl)) ⟨_, St.refl, rfl⟩
              · rintro f_23 w_24 c_24 hB19 hs19 ⟨g24, -⟩ o ho; obtain rfl : _ = o := Option.some.inj ho
                replace g24 : (f_23 36) = vB (decide ((0 : Int) < at_)) := g24
                refine ⟨_, g24, rfl, fun _ => ?_, fun h => absurd (h.symm.trans hb3) (by decide)⟩
                exact OS.move (v := p_) rfl ((hB19 0 (by kernel_rfl)).trans h15) ⟨_, St.refl, rfl⟩
              · rintro f_24 w_25 c_25 hB20 hs20 ⟨g25, g26, -⟩ o ho; obtain rfl : _ = o := Option.some.inj ho
                replace g25 : (f_24 36) = vB (decide ((0 : Int) < at_)) := g25
                replace g26 : (f_24 43) = p_ := g26
                refine ⟨_, g25, rfl, fun _ => ?_, fun h => absurd (h.symm.trans hb3) (by decide)⟩
                have o23 := o7.keep ((hs9.t s3).t hs20) (by decide)
                exact OS.nilCheckBx rfl g26 o23 ⟨_, St.refl, rfl⟩
              · rintro f_25 w_26 c_26 hB21 hs21 ⟨g27, g28, -⟩ o ho; obtain rfl : _ = o := Option.some.inj ho
                replace g27 : (f_25 36) = vB (decide ((0 : Int) < at_)) := g27
                replace g28 : (f_25 44) = p_ := g28
                refine ⟨_, g27, rfl, fun _ => ?_, fun h => absurd (h.symm.trans hb3) (by decide)⟩
                have o24 := o19.keep hs21 (by decide)
                exact OS.fieldAddrBx rfl Tryd.runUnderlying77 rfl Tryd.sizeOf38 rfl g28 o24 (fun _ h => ⟨_, St.refl, h⟩)
              · rintro f_26 w_27 c_27 hB22 hs22 ⟨g29, g30, -⟩ o ho; obtain rfl : _ = o := Option.some.inj ho
                replace g29 : (f_26 36) = vB (decide ((0 : Int) < at_)) := g29
                replace g30 : AdrP p_ 1 1 (f_26 45) := g30
                refine ⟨_, g29, rfl, fun _ => ?_, fun h => absurd (h.symm.trans hb3) (by decide)⟩
                have o25 := o19.keep hs22 (by decide)
                exact OS.ld1 (u := sl1.val) rfl Tryd.isAgg38 rfl (o25.ldn g30 (sub_of rfl)) ⟨_, St.refl, rfl⟩
              · rintro f_27 w_28 c_28 hB23 hs23 ⟨g31, -⟩ o ho; obtain rfl : _ = o := Option.some.inj ho
                replace g31 : (f_27 36) = vB (decide ((0 : Int) < at_)) := g31
                refine ⟨_, g31, rfl, fun _ => ?_, fun h => absurd (h.symm.trans hb3) (by decide)⟩
                exact OS.move (v := vI i) rfl ((hB23 6 (by kernel_rfl)).trans h18) ⟨_, St.refl, rfl⟩
              · rintro f_28 w_29 c_29 hB24 hs24 ⟨g32, g33, g34, -⟩ o ho; obtain rfl : _ = o := Option.some.inj ho
                replace g32 : (f_28 36) = vB (decide ((0 : Int) < at_)) := g32
                replace g33 : (f_28 46) = sl1.val := g33
                replace g34 : (f_28 47) = vI i := g34
                refine ⟨_, g32, rfl, fun _ => ?_, fun h => absurd (h.symm.trans hb3) (by decide)⟩
                have o26 := o8.keep ((hs9.t s3).t hs24) (by decide)
                exact OS.idx rfl Tryd.runUnderlying38 Tryd.sizeOf35 g33 o26.isSl g34 ha2 hb5 (fun _ h => ⟨_, St.refl, h⟩)
              · rintro f_29 w_30 c_30 hB25 hs25 ⟨g35, g36, -⟩ o ho; obtain rfl : _ = o := Option.some.inj ho
                replace g35 : (f_29 36) = vB (decide ((0 : Int) < at_)) := g35
                replace g36 : Adr sl1.val (i).toNat 4 (f_29 48) := g36
                refine ⟨_, g35, rfl, fun _ => ?_, fun h => absurd (h.symm.trans hb3) (by decide)⟩
                exact OS.fieldAddrA rfl Tryd.runUnderlying35 rfl Tryd.sizeOf9 rfl rfl g36 (fun _ h => ⟨_, St.refl, h⟩)
              · rintro f_30 w_31 c_31 hB26 hs26 ⟨g37, g38, g39, -⟩ o ho; obtain rfl : _ = o := Option.some.inj ho
                replace g37 : (f_30 36) = vB (decide ((0 : Int) < at_)) := g37
                replace g38 : Adr sl1.val (i).toNat 4 (f_30 48) := g38
                replace g39 : AdrP ((f_30 48)) 2 1 (f_30 49) := g39
                refine ⟨_, g37, rfl, fun _ => ?_, fun h => absurd (h.symm.trans hb3) (by decide)⟩
                have o27 := o20.keep hs26 (by decide)
                exact OS.ld1 (u := vS e3.Client) rfl Tryd.isAgg9 rfl ((o27.ld g38 hc2).sub g39 (sub_of rfl)) ⟨_, St.refl, rfl⟩
              · rintro f_31 w_32 c_32 hB27 hs27 ⟨g40, g41, g42, -⟩ o ho; obtain rfl : _ = o := Option.some.inj ho
                replace g40 : (f_31 36) = vB (decide ((0 : Int) < at_)) := g40
                replace g41 : (f_31 42) = vS e2.Client := g41
                replace g42 : (f_31 50) = vS e3.Client := g42
                refine ⟨_, g40, rfl, fun _ => ?_, fun h => absurd (h.symm.trans hb3) (by decide)⟩
                exact OS.bin (a := vS e2.Client) (b := vS e3.Client) rfl g41 g42 bS_gtr ⟨_, St.refl, rfl⟩
              · rintro f_32 w_33 c_33 hB28 hs28 ⟨g43, g44, -⟩ o ho; obtain rfl : _ = o := Option.some.inj ho
                replace g43 : (f_32 36) = vB (decide ((0 : Int) < at_)) := g43
                replace g44 : (f_32 51) = vB (!(ltS e2.Client e3.Client || decide (e2.Client = e3.Client))) := g44
                exact OS.pickT rfl (vb_t g43 hb3) g44 ⟨_, St.refl, rfl⟩
              · rintro f_33 w_34 c_34 hB29 hs29 ⟨g45, g46, g47, g48, g49, g50, g51, g52, g53, g54, g55, g56, g57, g58, g59, g60, -⟩
                replace g45 : (f_33 37) = v_ := g45
                replace g46 : (f_33 38) = vI at_ := g46
                replace g47 : (f_33 39) = vI (W (at_ - (1 : Int))) := g47
                replace g48 : Adr v_ (W (at_ - (1 : Int))).toNat 4 (f_33 40) := g48
                replace g49 : AdrP ((f_33 40)) 2 1 (f_33 41) := g49
                replace g50 : (f_33 42) = vS e2.Client := g50
                replace g51 : (f_33 43) = p_ := g51
                replace g52 : (f_33 44) = p_ := g52
                replace g53 : AdrP p_ 1 1 (f_33 45) := g53
                replace g54 : (f_33 46) = sl1.val := g54
                replace g55 : (f_33 47) = vI i := g55
                replace g56 : Adr sl1.val (i).toNat 4 (f_33 48) := g56
                replace g57 : AdrP ((f_33 48)) 2 1 (f_33 49) := g57
                replace g58 : (f_33 50) = vS e3.Client := g58
                replace g59 : (f_33 51) = vB (!(ltS e2.Client e3.Client || decide (e2.Client = e3.Client))) := g59
                replace g60 : (f_33 52) = vB (!(ltS e2.Client e3.Client || decide (e2.Client = e3.Client))) := g60
                have h27 := (hB29 0 (by kernel_rfl)).trans h15
                have h28 := (hB29 3 (by kernel_rfl)).trans h16
                have h29 := (hB29 5 (by kernel_rfl)).trans h17
                have h30 := (hB29 6 (by kernel_rfl)).trans h18
                have h31 := (hB29 7 (by kernel_rfl)).trans h19
                have h32 := (hB29 12 (by kernel_rfl)).trans h20
                have h33 := (hB29 13 (by kernel_rfl)).trans h21
                have h34 := (hB29 14 (by kernel_rfl)).trans h22
                have h35 := (hB29 15 (by kernel_rfl)).trans h23
                have h36 := (hB29 16 (by kernel_rfl)).trans h24
                have h37 := (hB29 17 (by kernel_rfl)).trans h25
                have h38 := (hB29 18 (by kernel_rfl)).trans h26
                refine WR.nil ?_
                refine WC.cond (!(ltS e2.Client e3.Client || decide (e2.Client = e3.Client))) g60 (fun hb6 => ?_) (fun hb6 => ?_)
                · rw [if_pos hb6] at hl1
                  refine WC.skip ?_
                  refine WC.block ?_
                  refine WC.region ?_
                  refine WR.k rfl rfl rfl (OS.move (v := vI at_) rfl h31 ?_)
                  refine WR.k rfl rfl rfl (OS.bin (a := vI at_) (b := vI (1 : Int)) rfl rfl rfl bI_sub ?_)
                  refine WR.k rfl rfl rfl (OS.assign (v := vI (W (at_ - (1 : Int)))) rfl rfl ?_)
                  refine WR.nil ?_
                  exact ⟨k, by omega, _, _, hl1, h27, h28, h29, h30, rfl, h32, h33, h34, h35, h36, h37, h38, (s3.t hs29).mono (by decide)⟩
                · rw [if_neg (nt hb6)] at hl1
                  refine WC.exit ?_
                  cases hl1
                  exact ⟨_, h27, h28, h29, h30, h31, h32, h33, h34, h35, h36, h37, h38, (s3.t hs29).mono (by decide)⟩
            · rw [if_neg (nt hb3)] at hl1
              refine WC.seq (WC.draw3 (c := c_14) ⟨19, [[], [], [], [], [], [], [], [], [], [], [], [], [], [], [], [], [], [], []], [[], [], [], [], [], [], [], [], [], [], [], [], [], [], [], [], [], [], []], [], [[], [0], [1], [2], [2], [2], [2], [2], [2], [2], [2], [2], [2], [2], [2], [2], [2], [2], [2]], [18]⟩ [[], [], [], [], [], [], [], [], [], [], [], [], [], [], [], [], [], [], []] [[34], [35], [36], [37], [38], [39], [40], [41], [42], [43], [44], [45], [46], [47], [48], [49], [50], [51], [52]] [fun yf yw yc => (yf 34) = vI at_, fun yf yw yc => (yf 35) = vB (decide ((0 : Int) < at_)), fun yf yw yc => (yf 36) = vB (decide ((0 : Int) < at_)), fun yf yw yc => (yf 37) = undef, fun yf yw yc => (yf 38) = undef, fun yf yw yc => (yf 39) = undef, fun yf yw yc => (yf 40) = undef, fun yf yw yc => (yf 41) = undef, fun yf yw yc => (yf 42) = undef, fun yf yw yc => (yf 43) = undef, fun yf yw yc => (yf 44) = undef, fun yf yw yc => (yf 45) = undef, fun yf yw yc => (yf 46) = undef, fun yf yw yc => (yf 47) = undef, fun yf yw yc => (yf 48) = undef, fun yf yw yc => (yf 49) = undef, fun yf yw yc => (yf 50) = undef, fun yf yw yc => (yf 51) = undef, fun yf yw yc => (yf 52) = vB false] hmix (by kernel_rfl) (by kernel_rfl) ⟨?_, ?_, ?_, ?_, ?_, ?_, ?_, ?_, ?_, ?_, ?_, ?_, ?_, ?_, ?_, ?_, ?_, ?_, ?_, trivial⟩ ⟨fun y1 y2 yw yc yI yw1 yc1 yh ye ys yk => by obtain ⟨ye0, -⟩ := ye; show (y2 34) = vI at_; rw [ye0]; exact yh, fun y1 y2 yw yc yI yw1 yc1 yh ye ys yk => by obtain ⟨ye0, -⟩ := ye; show (y2 35) = vB (decide ((0 : Int) < at_)); rw [ye0]; exact yh, fun y1 y2 yw yc yI yw1 yc1 yh ye ys yk => by obtain ⟨ye0, -⟩ := ye; show (y2 36) = vB (decide ((0 : Int) < at_)); rw [ye0]; exact yh, fun y1 y2 yw yc yI yw1 yc1 yh ye ys yk => by obtain ⟨ye0, -⟩ := ye; show (y2 37) = undef; rw [ye0]; exact yh, fun y1 y2 yw yc yI yw1 yc1 yh ye ys yk => by obtain ⟨ye0, -⟩ := ye; show (y2 38) = undef; rw [ye0]; exact yh, fun y1 y2 yw yc yI yw1 yc1 yh ye ys yk => by obtain ⟨ye0, -⟩ := ye; show (y2 39) = undef; rw [ye0]; exact yh, fun y1 y2 yw yc yI yw1 yc1 yh ye ys yk => by obtain ⟨ye0, -⟩ := ye; show (y2 40) = undef; rw [ye0]; exact yh, fun y1 y2 yw yc yI yw1 yc1 yh ye ys yk => by obtain ⟨ye0, -⟩ := ye; show (y2 41) = undef; rw [ye0]; exact yh, fun y1 y2 yw yc yI yw1 yc1 yh ye ys yk => by obtain ⟨ye0, -⟩ := ye; show (y2 42) = undef; rw [ye0]; exact yh, fun y1 y2 yw yc yI yw1 yc1 yh ye ys yk => by obtain ⟨ye0, -⟩ := ye; show (y2 43) = undef; rw [ye0]; exact yh, fun y1 y2 yw yc yI yw1 yc1 yh ye ys yk => by obtain ⟨ye0, -⟩ := ye; show (y2 44) = undef; rw [ye0]; exact yh, fun y1 y2 yw yc yI yw1 yc1 yh ye ys yk => by obtain ⟨ye0, -⟩ := ye; show (y2 45) = undef; rw [ye0]; exact yh, fun y1 y2 yw yc yI yw1 yc1 yh ye ys yk => by obtain ⟨ye0, -⟩ := ye; show (y2 46) = undef; rw [ye0]; exact yh, fun y1 y2 yw yc yI yw1 yc1 yh ye ys yk => by obtain ⟨ye0, -⟩ := ye; show (y2 47) = undef; rw [ye0]; exact yh, fun y1 y2 yw yc yI yw1 yc1 yh ye ys yk => by obtain ⟨ye0, -⟩ := ye; show (y2 48) = undef; rw [ye0]; exact yh, fun y1 y2 yw yc yI yw1 yc1 yh ye ys yk => by obtain ⟨ye0, -⟩ := ye; show (y2 49) = undef; rw [ye0]; exact yh, fun y1 y2 yw yc yI yw1 yc1 yh ye ys yk => by obtain ⟨ye0, -⟩ := ye; show (y2 50) = undef; rw [ye0]; exact yh, fun y1 y2 yw yc yI yw1 yc1 yh ye ys yk => by obtain ⟨ye0, -⟩ := ye; show (y2 51) = undef; rw [ye0]; exact yh, fun y1 y2 yw yc yI yw1 yc1 yh ye ys yk => by obtain ⟨ye0, -⟩ := ye; show (y2 52) = vB false; rw [ye0]; exact yh, trivial⟩ ?_)
              · rintro f_34 w_35 c_35 hB30 hs30 ⟨-⟩ o ho; obtain rfl : _ = o := Option.some.inj ho
                exact OS.move (v := vI at_) rfl ((hB30 7 (by kernel_rfl)).trans h19) ⟨_, St.refl, rfl⟩
              · rintro f_35 w_36 c_36 hB31 hs31 ⟨g61, -⟩ o ho; obtain rfl : _ = o := Option.some.inj ho
                replace g61 : (f_35 34) = vI at_ := g61
                exact OS.bin (a := vI at_) (b := vI (0 : Int)) rfl g61 rfl bI_gtr ⟨_, St.refl, rfl⟩
              · rintro f_36 w_37 c_37 hB32 hs32 ⟨g62, -⟩ o ho; obtain rfl : _ = o := Option.some.inj ho
                replace g62 : (f_36 35) = vB (decide ((0 : Int) < at_)) := g62
                exact OS.move (v := vB (decide ((0 : Int) < at_))) rfl g62 ⟨_, St.refl, rfl⟩
              · rintro f_37 w_38 c_38 hB33 hs33 ⟨g63, -⟩ o ho; obtain rfl : _ = o := Option.some.inj ho
                replace g63 : (f_37 36) = vB (decide ((0 : Int) < at_)) := g63
                exact ⟨_, g63, rfl, fun h => absurd (h.symm.trans hb3) (by decide), fun _ => ⟨_, St.refl, rfl⟩⟩
              · rintro f_38 w_39 c_39 hB34 hs34 ⟨g64, -⟩ o ho; obtain rfl : _ = o := Option.some.inj ho
                replace g64 : (f_38 36) = vB (decide ((0 : Int) < at_)) := g64
                exact ⟨_, g64, rfl, fun h => absurd (h.symm.trans hb3) (by decide), fun _ => ⟨_, St.refl, rfl⟩⟩
              · rintro f_39 w_40 c_40 hB35 hs35 ⟨g65, -⟩ o ho; obtain rfl : _ = o := Option.some.inj ho
                replace g65 : (f_39 36) = vB (decide ((0 : Int) < at_)) := g65
                exact ⟨_, g65, rfl, fun h => absurd (h.symm.trans hb3) (by decide), fun _ => ⟨_, St.refl, rfl⟩⟩
              · rintro f_40 w_41 c_41 hB36 hs36 ⟨g66, -⟩ o ho; obtain rfl : _ = o := Option.some.inj ho
                replace g66 : (f_40 36) = vB (decide ((0 : Int) < at_)) := g66
                exact ⟨_, g66, rfl, fun h => absurd (h.symm.trans hb3) (by decide), fun _ => ⟨_, St.refl, rfl⟩⟩
              · rintro f_41 w_42 c_42 hB37 hs37 ⟨g67, -⟩ o ho; obtain rfl : _ = o := Option.some.inj ho
                replace g67 : (f_41 36) = vB (decide ((0 : Int) < at_)) := g67
                exact ⟨_, g67, rfl, fun h => absurd (h.symm.trans hb3) (by decide), fun _ => ⟨_, St.refl, rfl⟩⟩
              · rintro f_42 w_43 c_43 hB38 hs38 ⟨g68, -⟩ o ho; obtain rfl : _ = o := Option.some.inj ho
                replace g68 : (f_42 36) = vB (decide ((0 : Int) < at_)) := g68
                exact ⟨_, g68, rfl, fun h => absurd (h.symm.trans hb3) (by decide), fun _ => ⟨_, St.refl, rfl⟩⟩
              · rintro f_43 w_44 c_44 hB39 hs39 ⟨g69, -⟩ o ho; obtain rfl : _ = o := Option.some.inj ho
                replace g69 : (f_43 36) = vB (decide ((0 : Int) < at_)) := g69
                exact ⟨_, g69, rfl, fun h => absurd (h.symm.trans hb3) (by decide), fun _ => ⟨_, St.refl, rfl⟩⟩
              · rintro f_44 w_45 c_45 hB40 hs40 ⟨g70, -⟩ o ho; obtain rfl : _ = o := Option.some.inj ho
                replace g70 : (f_44 36) = vB (decide ((0 : Int) < at_)) := g70
                exact ⟨_, g70, rfl, fun h => absurd (h.symm.trans hb3) (by decide), fun _ => ⟨_, St.refl, rfl⟩⟩
              · rintro f_45 w_46 c_46 hB41 hs41 ⟨g71, -⟩ o ho; obtain rfl : _ = o := Option.some.inj ho
                replace g71 : (f_45 36) = vB (decide ((0 : Int) < at_)) := g71
                exact ⟨_, g71, rfl, fun h => absurd (h.symm.trans hb3) (by decide), fun _ => ⟨_, St.refl, rfl⟩⟩
              · rintro f_46 w_47 c_47 hB42 hs42 ⟨g72, -⟩ o ho; obtain rfl : _ = o := Option.some.inj ho
                replace g72 : (f_46 36) = vB (decide ((0 : Int) < at_)) := g72
                exact ⟨_, g72, rfl, fun h => absurd (h.symm.trans hb3) (by decide), fun _ => ⟨_, St.refl, rfl⟩⟩
              · rintro f_47 w_48 c_48 hB43 hs43 ⟨g73, -⟩ o ho; obtain rfl : _ = o := Option.some.inj ho
                replace g73 : (f_47 36) = vB (decide ((0 : Int) < at_)) := g73
                exact ⟨_, g73, rfl, fun h => absurd (h.symm.trans hb3) (by decide), fun _ => ⟨_, St.refl, rfl⟩⟩
              · rintro f_48 w_49 c_49 hB44 hs44 ⟨g74, -⟩ o ho; obtain rfl : _ = o := Option.some.inj ho
                replace g74 : (f_48 36) = vB (decide ((0 : Int) < at_)) := g74
                exact ⟨_, g74, rfl, fun h => absurd (h.symm.trans hb3) (by decide), fun _ => ⟨_, St.refl, rfl⟩⟩
              · rintro f_49 w_50 c_50 hB45 hs45 ⟨g75, -⟩ o ho; obtain rfl : _ = o := Option.some.inj ho
                replace g75 : (f_49 36) = vB (decide ((0 : Int) < at_)) := g75
                exact ⟨_, g75, rfl, fun h => absurd (h.symm.trans hb3) (by decide), fun _ => ⟨_, St.refl, rfl⟩⟩
              · rintro f_50 w_51 c_51 hB46 hs46 ⟨g76, -⟩ o ho; obtain rfl : _ = o := Option.some.inj ho
                replace g76 : (f_50 36) = vB (decide ((0 : Int) < at_)) := g76
                exact ⟨_, g76, rfl, fun h => absurd (h.symm.trans hb3) (by decide), fun _ => ⟨_, St.refl, rfl⟩⟩
              · rintro f_51 w_52 c_52 hB47 hs47 ⟨g77, -⟩ o ho; obtain rfl : _ = o := Option.some.inj ho
                replace g77 : (f_51 36) = vB (decide ((0 : Int) < at_)) := g77
                exact ⟨_, g77, rfl, fun h => absurd (h.symm.trans hb3) (by decide), fun _ => ⟨_, St.refl, rfl⟩⟩
              · rintro f_52 w_53 c_53 hB48 hs48 ⟨g78, -⟩ o ho; obtain rfl : _ = o := Option.some.inj ho
                replace g78 : (f_52 36) = vB (decide ((0 : Int) < at_)) := g78
                exact OS.pickF rfl (vb_f g78 hb3) rfl ⟨_, St.refl, rfl⟩
              · rintro f_53 w_54 c_54 hB49 hs49 ⟨g79, -⟩
                replace g79 : (f_53 52) = vB false := g79
                have h39 := (hB49 0 (by kernel_rfl)).trans h15
                have h40 := (hB49 3 (by kernel_rfl)).trans h16
                have h41 := (hB49 5 (by kernel_rfl)).trans h17
                have h42 := (hB49 6 (by kernel_rfl)).trans h18
                have h43 := (hB49 7 (by kernel_rfl)).trans h19
                have h44 := (hB49 12 (by kernel_rfl)).trans h20
                have h45 := (hB49 13 (by kernel_rfl)).trans h21
                have h46 := (hB49 14 (by kernel_rfl)).trans h22
                have h47 := (hB49 15 (by kernel_rfl)).trans h23
                have h48 := (hB49 16 (by kernel_rfl)).trans h24
                have h49 := (hB49 17 (by kernel_rfl)).trans h25
                have h50 := (hB49 18 (by kernel_rfl)).trans h26
                refine WR.nil ?_
                refine WC.condF g79 ?_
                refine WC.exit ?_
                cases hl1
                exact ⟨_, h39, h40, h41, h42, h43, h44, h45, h46, h47, h48, h49, h50, (s3.t hs49).mono (by decide)⟩
          · rintro f_12 w_13 ⟨c_13, h51, h52, h53, h54, h55, h56, h57, h58, h59, h60, h61, h62, s4⟩
            refine WC.seq (WC.region ?_)
            refine WR.k rfl rfl rfl (OS.assign (v := (.slice none 0 0)) rfl rfl ?_)
            refine WR.nil ?_
            refine WC.seq (WC.region ?_)
            refine WR.k rfl rfl rfl (OS.move (v := (.slice none 0 0)) rfl rfl ?_)
            refine WR.k rfl rfl rfl (OS.move (v := v_) rfl h53 ?_)
            refine WR.k rfl rfl rfl (OS.move (v := vI at_1) rfl h55 ?_)
            have o28 := o17.keep s4 (by decide)
            obtain ⟨ys, hys, hl⟩ := bind_some hl
            obtain ⟨ha3, hb7, hc3, hys⟩ := sub_some hys
            refine WR.k rfl rfl rfl (OS.sliceOwn (E := E35) rfl Tryd.underlying38 Tryd.sizeOf35 rfl o28 (Bd.some rfl (by omega)) (by omega) ?_); intro v_2 y
            replace y : Ow E35 54 w_13 c_13 v_2 ys := by rw [hys]; exact y
            obtain ⟨xs, hxs, hl⟩ := bind_some hl
            obtain ⟨ha4, hxs⟩ := app_some hxs
            refine WR.k rfl rfl rfl (OS.append (E := E35) (c := c_13) (i := 61) (xs := ([] : List S_api_Consent)) (ys := ys) rfl Tryd.underlying38 Tryd.underlying38 (.inl rfl) I35 rfl rfl rfl rfl rfl Ow.nil y.vw.src (lim_bytes (by decide) ha4) (lim_max (b := 56) (by decide) ha4) ?_); intro v_3 w_55 c_55 o29 s5
            replace o29 : Ow E35 61 w_55 c_55 v_3 xs := by rw [hxs]; exact o29
            refine WR.k rfl rfl rfl (OS.assign (v := v_3) rfl rfl ?_)
            refine WR.nil ?_
            refine WC.seq (WC.region ?_)
            refine WR.k rfl rfl rfl (OS.move (v := v_3) rfl rfl ?_)
            refine WR.k rfl rfl rfl (OS.move (v := p_) rfl h51 ?_)
            have o30 := o7.keep ((hs9.t s4).t s5) (by decide)
            refine WR.k rfl rfl rfl (OS.nilCheckBx rfl rfl o30 ?_)
            refine WR.k rfl rfl rfl (OS.fieldAddrBx rfl Tryd.runUnderlying77 rfl Tryd.sizeOf38 rfl rfl o30 ?_); intro p_3 a10
            refine WR.k rfl rfl rfl (OS.ld1 (u := sl1.val) rfl Tryd.isAgg38 rfl (o30.ldn a10 (sub_of rfl)) ?_)
            refine WR.k rfl rfl rfl (OS.move (v := vI i) rfl h54 ?_)
            have o31 := o8.keep ((hs9.t s4).t s5) (by decide)
            obtain ⟨e4, he4, hl⟩ := bind_some hl
            obtain ⟨ha5, hb8, hc4⟩ := gt_some he4
            refine WR.k rfl rfl rfl (OS.idx rfl Tryd.runUnderlying38 Tryd.sizeOf35 rfl o31.isSl rfl ha5 hb8 ?_); intro p_4 a11
            refine WR.k rfl rfl rfl (OS.ldN (us := E35.e e4) rfl Tryd.isAgg35 Tryd.sizeOf35 rfl (o31.ld a11 hc4) rfl ?_)
            obtain ⟨l2, hl2, hl⟩ := bind_some hl
            replace hl2 := (Option.some.inj hl2).symm
            refine WR.k rfl rfl rfl (OS.bslice (E := E35) (c := c_55) 62 ([e4] : List S_api_Consent) [(0, .agg (E35.e e4).toArray)] rfl ⟨rfl, rfl, trivial⟩ (fun _ => by kernel_rfl) rfl (by decide) ?_); intro v_4 w_56 c_56 o32 s6
            replace o32 : Ow E35 62 w_56 c_56 v_4 l2 := by rw [hl2]; exact o32
            have o33 := o29.keep s6 (by decide)
            obtain ⟨xs1, hxs1, hl⟩ := bind_some hl
            obtain ⟨ha6, hxs1⟩ := app_some hxs1
            refine WR.k rfl rfl rfl (OS.append (E := E35) (c := c_56) (i := 61) (xs := xs) (ys := l2) rfl Tryd.underlying38 Tryd.underlying38 (.inl rfl) I35 rfl rfl rfl rfl rfl o33 o32.vw.src (lim_bytes (by decide) ha6) (lim_max (b := 56) (by decide) ha6) ?_); intro v_5 w_57 c_57 o34 s7
            replace o34 : Ow E35 61 w_57 c_57 v_5 xs1 := by rw [hxs1]; exact o34
            refine WR.k rfl rfl rfl (OS.assign (v := v_5) rfl rfl ?_)
            refine WR.nil ?_
            refine WC.region ?_
            refine WR.k rfl rfl rfl (OS.move (v := v_5) rfl rfl ?_)
            refine WR.k rfl rfl rfl (OS.move (v := v_) rfl h53 ?_)
            refine WR.k rfl rfl rfl (OS.move (v := vI at_1) rfl h55 ?_)
            have o35 := o28.keep ((s5.t s6).t s7) (by decide)
            obtain ⟨ys1, hys1, hl⟩ := bind_some hl
            obtain ⟨ha7, hb9, hc5, hys1⟩ := sub_some hys1
            refine WR.k rfl rfl rfl (OS.sliceV (E := E35) rfl Tryd.underlying38 Tryd.sizeOf35 rfl o35.vw (Bd.some rfl ha7) Bd.none rfl (by omega) (by omega) ?_); intro v_6 y1
            replace y1 : Vw E35 54 w_57 c_57 v_6 ys1 := by rw [hys1]; exact y1
            obtain ⟨xs2, hxs2, hl⟩ := bind_some hl
            obtain ⟨ha8, hxs2⟩ := app_some hxs2
            refine WR.k rfl rfl rfl (OS.append (E := E35) (c := c_57) (i := 61) (xs := xs1) (ys := ys1) rfl Tryd.underlying38 Tryd.underlying38 (.inl rfl) I35 rfl rfl rfl rfl rfl o34 y1.src (lim_bytes (by decide) ha8) (lim_max (b := 56) (by decide) ha8) ?_); intro v_7 w_58 c_58 o36 s8
            replace o36 : Ow E35 61 w_58 c_58 v_7 xs2 := by rw [hxs2]; exact o36
            refine WR.k rfl rfl rfl (OS.assign (v := v_7) rfl rfl ?_)
            refine WR.nil ?_
            refine WC.region ?_
            refine WR.k rfl rfl rfl (OS.move (v := vI i) rfl h54 ?_)
            refine WR.k rfl rfl rfl (OS.bin (a := vI i) (b := vI (1 : Int)) rfl rfl rfl bI_add ?_)
            refine WR.k rfl rfl rfl (OS.assign (v := vI (W (i + (1 : Int)))) rfl rfl ?_)
            refine WR.nil ?_
            obtain ⟨c_59, s9, o37⟩ := o36.recol 54
            exact ⟨k, by omega, _, _, _, _, hl, h51, h52, rfl, rfl, o37, (((((((s2.t hs9).t s4).t s5).t s6).t s7).t s8).t s9).mono (by decide)⟩
    · rw [if_neg (nt hb)] at hl
      refine WC.exit ?_
      cases hl
      obtain ⟨c_60, s10, o38⟩ := o5.recol 48
      exact ⟨_, _, h, h2, o38, (s2.t s10).mono (by decide)⟩
  · rintro f_ w_1 ⟨v_1, c_1, h63, h64, o6, s11⟩
    refine WC.seq (WC.region ?_)
    refine WR.k rfl rfl rfl (OS.move (v := v_1) rfl h64 ?_)
    refine WR.k rfl rfl rfl (OS.assign (v := v_1) rfl rfl ?_)
    refine WR.nil ?_
    refine WC.ret ?_
    repeat first | refine thenQ_ret ?_ | refine blkQ_ret ?_
    obtain ⟨sl2, e5⟩ := isSlv o6.isSl; subst e5
    cases hp
    obtain ⟨c_61, s12, o39⟩ := o6.recol 2000
    exact fnQ.l1 (fn := Tryd.f48) rfl (.inl ⟨_, rfl, rfl⟩) ⟨_, _, rfl, ((s1.t s11).t s12).leave hcw (by decide), o39⟩

-- (*holdfast/holdfastref13.Store).Allow
set_option maxHeartbeats 4000000 in
theorem W33 (K : Nat) (w0 : World) (cw : Col) (hcw : ∀ b, cw b < 40) {s : S_holdfastref13_Store} {c_ : S_api_Consent} {r : Int × S_holdfastref13_Store} (hp : holdfastref13_Store_Allow K s c_ = some r) {sl : Sl} {sl1 : Sl} {p_ : Value} (o : Bx 3 w0 cw p_ [sl.val, sl1.val]) (o1 : Vw E32 1 w0 cw sl.val s.c_) (o2 : Vw E35 1 w0 cw sl1.val s.a) :
    Calls Tryd.prog 33 [p_, .agg (E35.e c_).toArray].toArray w0 fun e w1 => ∃ (sl4 : Sl) (sl5 : Sl) (d : Col), e = .returned (vI r.1) ∧ St [3] w0 cw w1 d ∧ Bx 3 w1 d p_ [sl4.val, sl5.val] ∧ Vw E32 1 w1 d sl4.val r.2.c_ ∧ Vw E35 1 w1 d sl5.val r.2.a := by
  refine calls_intro Tryd.func33 rfl Tryd.ntmps33 rfl ?_
  unfold holdfastref13_Store_Allow at hp
  refine WC.seq (WC.region ?_)
  refine WR.k rfl rfl rfl (OS.boxBx (us := [vS c_.Owner.Tenant, vS c_.Owner.User, vS c_.Client, vU8 c_.Scopes]) (c := cw) 40 rfl rfl rfl ?_); intro p_1 w_ c_1 o3 s1
  refine WR.k rfl rfl rfl (OS.assign (v := vI (0 : Int)) rfl rfl ?_)
  refine WR.nil ?_
  refine WC.seq ?_
  refine WC.seq (WC.region ?_)
  refine WR.k rfl rfl rfl (OS.move (v := p_) rfl rfl ?_)
  have o4 := o.keep s1 (by decide)
  refine WR.k rfl rfl rfl (OS.eqPtrS rfl (.inl ⟨rfl, rfl⟩) Tryd.underlying45 rfl o4 rfl ?_)
  refine WR.nil ?_
  refine WC.condF rfl ?_
  refine WC.skip ?_
  refine WC.seq ?_
  refine WC.seq (WC.region ?_)
  refine WR.k rfl rfl rfl (OS.fieldAddrBx rfl Tryd.runUnderlying35 rfl Tryd.sizeOf26 rfl rfl o3 ?_); intro p_2 a1
  refine WR.k rfl rfl rfl (OS.fieldAddrP rfl Tryd.runUnderlying26 rfl Tryd.sizeOf9 rfl rfl a1 ?_); intro p_3 a2
  refine WR.k rfl rfl rfl (OS.ld1 (u := vS c_.Owner.Tenant) rfl Tryd.isAgg9 rfl (o3.ldn a2 (sub_of rfl)) ?_)
  obtain ⟨r_, hr_, hp⟩ := bind_some hp
  refine WR.k rfl rfl rfl (OS.callF (vs := [vS c_.Owner.Tenant]) rfl ⟨rfl, trivial⟩ Tryd.call44 ((W44 K w_ (rcc [] c_1) (rcc_lt c_1 rfl) hr_).mono ?_))
  rintro _ w_1 ⟨d1, rfl, s2⟩
  refine ⟨_, rfl, ?_⟩
  obtain ⟨c_2, s3⟩ : ∃ c_2, St [] w_ c_1 w_1 c_2 := ⟨_, s2.mg2 (sh := 10000) rfl⟩
  refine WR.k rfl rfl rfl (OS.not rfl rfl ?_)
  refine WR.k rfl rfl rfl (OS.move (v := vB (!r_)) rfl rfl ?_)
  obtain ⟨b, ht, hp⟩ := bind_some hp
  refine WR.cut2 6 (fun f_ w_2 => ∃ (c_3 : Col), f_ 0 = p_ ∧ f_ 3 = p_1 ∧ f_ 22 = vB b ∧ St [] w_1 c_2 w_2 c_3) ?_ ?_
  · rcases Bool.eq_false_or_eq_true (!r_) with hg | hg
    · rw [if_pos hg] at ht
      refine WR.gF rfl rfl (vb_t rfl hg) rfl rfl ?_
      refine WR.gF rfl rfl (vb_t rfl hg) rfl rfl ?_
      refine WR.gF rfl rfl (vb_t rfl hg) rfl rfl ?_
      refine WR.gF rfl rfl (vb_t rfl hg) rfl rfl ?_
      refine WR.gF rfl rfl (vb_t rfl hg) rfl rfl ?_
      refine WR.k rfl rfl rfl (OS.pickT rfl (vb_t rfl hg) rfl ?_)
      cases ht
      refine WR.nil ?_
      exact ⟨_, rfl, rfl, rfl, St.refl.mono (by decide)⟩
    · rw [if_neg (nt hg)] at ht
      have o5 := o3.keep s3 (by decide)
      refine WR.kT rfl rfl (vb_f rfl hg) rfl rfl (OS.fieldAddrBx rfl Tryd.runUnderlying35 rfl Tryd.sizeOf26 rfl rfl o5 ?_); intro p_4 a3
      refine WR.kT rfl rfl (vb_f rfl hg) rfl rfl (OS.fieldAddrP rfl Tryd.runUnderlying26 rfl Tryd.sizeOf9 rfl rfl a3 ?_); intro p_5 a4
      refine WR.kT rfl rfl (vb_f rfl hg) rfl rfl (OS.ld1 (u := vS c_.Owner.User) rfl Tryd.isAgg9 rfl (o5.ldn a4 (sub_of rfl)) ?_)
      obtain ⟨r_1, hr_1, ht⟩ := bind_some ht
      refine WR.kT rfl rfl (vb_f rfl hg) rfl rfl (OS.callF (vs := [vS c_.Owner.User]) rfl ⟨rfl, trivial⟩ Tryd.call44 ((W44 K w_1 (rcc [] c_2) (rcc_lt c_2 rfl) hr_1).mono ?_))
      rintro _ w_3 ⟨d2, rfl, s4⟩
      refine ⟨_, rfl, ?_⟩
      obtain ⟨c_4, s5⟩ : ∃ c_4, St [] w_1 c_2 w_3 c_4 := ⟨_, s4.mg2 (sh := 30000) rfl⟩
      refine WR.kT rfl rfl (vb_f rfl hg) rfl rfl (OS.not rfl rfl ?_)
      refine WR.k rfl rfl rfl (OS.pickF rfl (vb_f rfl hg) rfl ?_)
      cases ht
      refine WR.nil ?_
      exact ⟨_, rfl, rfl, rfl, s5.mono (by decide)⟩
  · rintro f_ w_2 ⟨c_3, h, h1, h2, s6⟩
    refine WR.nil ?_
    refine WC.cond (b) h2 (fun hb => ?_) (fun hb => ?_)
    · rw [if_pos hb] at hp
      refine WC.seq (WC.region ?_)
      refine WR.k rfl rfl rfl (OS.assign (v := vI (8 : Int)) rfl rfl ?_)
      refine WR.nil ?_
      refine WC.ret ?_
      repeat first | refine thenQ_ret ?_ | refine blkQ_ret ?_
      cases hp
      have o6 := o4.keep (s3.t s6) (by decide)
      have o7 := o1.keep ((s1.t s3).t s6) (by decide)
      have o8 := o2.keep ((s1.t s3).t s6) (by decide)
      exact fnQ.l1 (fn := Tryd.f33) rfl (.inl ⟨_, rfl, rfl⟩) ⟨_, _, _, rfl, ((s1.t s3).t s6).leave hcw (by decide), o6, o7, o8⟩
    · rw [if_neg (nt hb)] at hp
      refine WC.skip ?_
      refine WC.seq (WC.region ?_)
      refine WR.k rfl rfl rfl (OS.move (v := p_) rfl h ?_)
      have o9 := o3.keep (s3.t s6) (by decide)
      refine WR.k rfl rfl rfl (OS.fieldAddrBx rfl Tryd.runUnderlying35 rfl Tryd.sizeOf26 rfl h1 o9 ?_); intro p_6 a5
      refine WR.k rfl rfl rfl (OS.fieldAddrP rfl Tryd.runUnderlying26 rfl Tryd.sizeOf9 rfl rfl a5 ?_); intro p_7 a6
      refine WR.k rfl rfl rfl (OS.ld1 (u := vS c_.Owner.Tenant) rfl Tryd.isAgg9 rfl (o9.ldn a6 (sub_of rfl)) ?_)
      refine WR.k rfl rfl rfl (OS.fieldAddrBx rfl Tryd.runUnderlying35 rfl Tryd.sizeOf9 rfl h1 o9 ?_); intro p_8 a7
      refine WR.k rfl rfl rfl (OS.ld1 (u := vS c_.Client) rfl Tryd.isAgg9 rfl (o9.ldn a7 (sub_of rfl)) ?_)
      have o10 := o4.keep (s3.t s6) (by decide)
      have o11 := o1.keep ((s1.t s3).t s6) (by decide)
      have o12 := o2.keep ((s1.t s3).t s6) (by decide)
      obtain ⟨r_2, hr_2, hp⟩ := bind_some hp
      refine WR.k rfl rfl rfl (OS.callF (vs := [p_, vS c_.Owner.Tenant, vS c_.Client]) rfl ⟨rfl, rfl, rfl, trivial⟩ Tryd.call45 ((W45 (sl := sl) (sl1 := sl1) K w_2 (rcc [3] c_3) (rcc_lt c_3 rfl) hr_2 (o10.tr (rc_tr (by decide))) (o11.tr (rc_tr rfl)) (o12.tr (rc_tr rfl))).mono ?_))
      rintro _ w_4 ⟨d3, rfl, s7⟩
      refine ⟨_, rfl, ?_⟩
      obtain ⟨c_5, s8⟩ : ∃ c_5, St [] w_2 c_3 w_4 c_5 := ⟨_, s7.mg2 (sh := 40000) rfl⟩
      refine WR.k rfl rfl rfl (OS.assign (v := vI r_2) rfl rfl ?_)
      refine WR.nil ?_
      refine WC.seq ?_
      refine WC.seq (WC.region ?_)
      refine WR.k rfl rfl rfl (OS.move (v := vI r_2) rfl rfl ?_)
      refine WR.k rfl rfl rfl (OS.bin (a := vI r_2) (b := vI (0 : Int)) rfl rfl rfl bI_lss ?_)
      refine WR.nil ?_
      refine WC.cond (decide (r_2 < (0 : Int))) rfl (fun hb1 => ?_) (fun hb1 => ?_)
      · rw [if_pos hb1] at hp
        refine WC.seq (WC.region ?_)
        refine WR.k rfl rfl rfl (OS.assign (v := vI (4 : Int)) rfl rfl ?_)
        refine WR.nil ?_
        refine WC.ret ?_
        repeat first | refine thenQ_ret ?_ | refine blkQ_ret ?_
        cases hp
        have o13 := o10.keep s8 (by decide)
        have o14 := o11.keep s8 (by decide)
        have o15 := o12.keep s8 (by decide)
        exact fnQ.l1 (fn := Tryd.f33) rfl (.inl ⟨_, rfl, rfl⟩) ⟨_, _, _, rfl, (((s1.t s3).t s6).t s8).leave hcw (by decide), o13, o14, o15⟩
      · rw [if_neg (nt hb1)] at hp
        refine WC.skip ?_
        refine WC.seq ?_
        have o16 := o9.keep s8 (by decide)
        have o17 := o10.keep s8 (by decide)
        have o18 := o11.keep s8 (by decide)
        obtain ⟨e1, he1, hp⟩ := bind_some hp
        obtain ⟨ha, hb2, hc⟩ := gt_some he1
        refine WC.seq (WC.draw3 (c := c_5) ⟨13, [[], [], [], [], [], [], [], [], [], [], [], [], []], [[], [], [], [], [], [], [], [], [], [], [], [], []], [], [[], [0], [], [2], [3], [4], [], [5, 6], [7], [7, 8], [1, 9], [], [11]], [10, 12]⟩ [[], [], [], [], [], [], [], [], [], [], [], [], []] [[32], [33], [34], [35], [36], [37], [38], [39], [39, 40], [41], [42], [43], [44]] [fun yf yw yc => AdrP p_1 3 1 (yf 32), fun yf yw yc => (yf 33) = vU8 c_.Scopes, fun yf yw yc => (yf 34) = p_, fun yf yw yc => (yf 35) = p_, fun yf yw yc => AdrP p_ 0 1 (yf 36), fun yf yw yc => (yf 37) = sl.val, fun yf yw yc => (yf 38) = vI r_2, fun yf yw yc => Adr sl.val (r_2).toNat 4 (yf 39), fun yf yw yc => AdrP ((yf 39)) 3 1 (yf 40), fun yf yw yc => (yf 41) = vU8 e1.Scopes, fun yf yw yc => (yf 42) = vU8 (c_.Scopes &&& e1.Scopes), fun yf yw yc => AdrP p_1 3 1 (yf 43), fun yf yw yc => (yf 44) = vU8 c_.Scopes] hmix (by kernel_rfl) (by kernel_rfl) ⟨?_, ?_, ?_, ?_, ?_, ?_, ?_, ?_, ?_, ?_, ?_, ?_, ?_, trivial⟩ ⟨fun y1 y2 yw yc yI yw1 yc1 yh ye ys yk => by obtain ⟨ye0, -⟩ := ye; show AdrP p_1 3 1 (y2 32); rw [ye0]; exact yh, fun y1 y2 yw yc yI yw1 yc1 yh ye ys yk => by obtain ⟨ye0, -⟩ := ye; show (y2 33) = vU8 c_.Scopes; rw [ye0]; exact yh, fun y1 y2 yw yc yI yw1 yc1 yh ye ys yk => by obtain ⟨ye0, -⟩ := ye; show (y2 34) = p_; rw [ye0]; exact yh, fun y1 y2 yw yc yI yw1 yc1 yh ye ys yk => by obtain ⟨ye0, -⟩ := ye; show (y2 35) = p_; rw [ye0]; exact yh, fun y1 y2 yw yc yI yw1 yc1 yh ye ys yk => by obtain ⟨ye0, -⟩ := ye; show AdrP p_ 0 1 (y2 36); rw [ye0]; exact yh, fun y1 y2 yw yc yI yw1 yc1 yh ye ys yk => by obtain ⟨ye0, -⟩ := ye; show (y2 37) = sl.val; rw [ye0]; exact yh, fun y1 y2 yw yc yI yw1 yc1 yh ye ys yk => by obtain ⟨ye0, -⟩ := ye; show (y2 38) = vI r_2; rw [ye0]; exact yh, fun y1 y2 yw yc yI yw1 yc1 yh ye ys yk => by obtain ⟨ye0, -⟩ := ye; show Adr sl.val (r_2).toNat 4 (y2 39); rw [ye0]; exact yh, fun y1 y2 yw yc yI yw1 yc1 yh ye ys yk => by obtain ⟨ye0, ye1, -⟩ := ye; show AdrP ((y2 39)) 3 1 (y2 40); rw [ye0, ye1]; exact yh, fun y1 y2 yw yc yI yw1 yc1 yh ye ys yk => by obtain ⟨ye0, -⟩ := ye; show (y2 41) = vU8 e1.Scopes; rw [ye0]; exact yh, fun y1 y2 yw yc yI yw1 yc1 yh ye ys yk => by obtain ⟨ye0, -⟩ := ye; show (y2 42) = vU8 (c_.Scopes &&& e1.Scopes); rw [ye0]; exact yh, fun y1 y2 yw yc yI yw1 yc1 yh ye ys yk => by obtain ⟨ye0, -⟩ := ye; show AdrP p_1 3 1 (y2 43); rw [ye0]; exact yh, fun y1 y2 yw yc yI yw1 yc1 yh ye ys yk => by obtain ⟨ye0, -⟩ := ye; show (y2 44) = vU8 c_.Scopes; rw [ye0]; exact yh, trivial⟩ ?_)
        · rintro f_1 w_5 c_6 hB hs ⟨-⟩ o ho; obtain rfl : _ = o := Option.some.inj ho
          have o19 := o9.keep (s8.t hs) (by decide)
          exact OS.fieldAddrBx rfl Tryd.runUnderlying35 rfl Tryd.sizeOf30 rfl ((hB 3 (by kernel_rfl)).trans h1) o19 (fun _ h => ⟨_, St.refl, h⟩)
        · rintro f_2 w_6 c_7 hB1 hs1 ⟨g, -⟩ o ho; obtain rfl : _ = o := Option.some.inj ho
          replace g : AdrP p_1 3 1 (f_2 32) := g
          have o20 := o16.keep hs1 (by decide)
          exact OS.ld1 (u := vU8 c_.Scopes) rfl Tryd.isAgg30 rfl (o20.ldn g (sub_of rfl)) ⟨_, St.refl, rfl⟩
        · rintro f_3 w_7 c_8 hB2 hs2 ⟨-⟩ o ho; obtain rfl : _ = o := Option.some.inj ho
          exact OS.move (v := p_) rfl ((hB2 0 (by kernel_rfl)).trans h) ⟨_, St.refl, rfl⟩
        · rintro f_4 w_8 c_9 hB3 hs3 ⟨g1, -⟩ o ho; obtain rfl : _ = o := Option.some.inj ho
          replace g1 : (f_4 34) = p_ := g1
          have o21 := o10.keep (s8.t hs3) (by decide)
          exact OS.nilCheckBx rfl g1 o21 ⟨_, St.refl, rfl⟩
        · rintro f_5 w_9 c_10 hB4 hs4 ⟨g2, -⟩ o ho; obtain rfl : _ = o := Option.some.inj ho
          replace g2 : (f_5 35) = p_ := g2
          have o22 := o17.keep hs4 (by decide)
          exact OS.fieldAddrBx rfl Tryd.runUnderlying77 rfl Tryd.sizeOf36 rfl g2 o22 (fun _ h => ⟨_, St.refl, h⟩)
        · rintro f_6 w_10 c_11 hB5 hs5 ⟨g3, -⟩ o ho; obtain rfl : _ = o := Option.some.inj ho
          replace g3 : AdrP p_ 0 1 (f_6 36) := g3
          have o23 := o17.keep hs5 (by decide)
          exact OS.ld1 (u := sl.val) rfl Tryd.isAgg36 rfl (o23.ldn g3 (sub_of rfl)) ⟨_, St.refl, rfl⟩
        · rintro f_7 w_11 c_12 hB6 hs6 ⟨-⟩ o ho; obtain rfl : _ = o := Option.some.inj ho
          exact OS.move (v := vI r_2) rfl ((hB6 5 (by kernel_rfl)).trans (show _ = vI r_2 from rfl)) ⟨_, St.refl, rfl⟩
        · rintro f_8 w_12 c_13 hB7 hs7 ⟨g4, g5, -⟩ o ho; obtain rfl : _ = o := Option.some.inj ho
          replace g4 : (f_8 37) = sl.val := g4
          replace g5 : (f_8 38) = vI r_2 := g5
          have o24 := o11.keep (s8.t hs7) (by decide)
          exact OS.idx rfl Tryd.runUnderlying36 Tryd.sizeOf32 g4 o24.isSl g5 ha hb2 (fun _ h => ⟨_, St.refl, h⟩)
        · rintro f_9 w_13 c_14 hB8 hs8 ⟨g6, -⟩ o ho; obtain rfl : _ = o := Option.some.inj ho
          replace g6 : Adr sl.val (r_2).toNat 4 (f_9 39) := g6
          exact OS.fieldAddrA rfl Tryd.runUnderlying32 rfl Tryd.sizeOf30 rfl rfl g6 (fun _ h => ⟨_, St.refl, h⟩)
        · rintro f_10 w_14 c_15 hB9 hs9 ⟨g7, g8, -⟩ o ho; obtain rfl : _ = o := Option.some.inj ho
          replace g7 : Adr sl.val (r_2).toNat 4 (f_10 39) := g7
          replace g8 : AdrP ((f_10 39)) 3 1 (f_10 40) := g8
          have o25 := o18.keep hs9 (by decide)
          exact OS.ld1 (u := vU8 e1.Scopes) rfl Tryd.isAgg30 rfl ((o25.ld g7 hc).sub g8 (sub_of rfl)) ⟨_, St.refl, rfl⟩
        · rintro f_11 w_15 c_16 hB10 hs10 ⟨g9, g10, -⟩ o ho; obtain rfl : _ = o := Option.some.inj ho
          replace g9 : (f_11 33) = vU8 c_.Scopes := g9
          replace g10 : (f_11 41) = vU8 e1.Scopes := g10
          exact OS.bin (a := vU8 c_.Scopes) (b := vU8 e1.Scopes) rfl g9 g10 b8_and ⟨_, St.refl, rfl⟩
        · rintro f_12 w_16 c_17 hB11 hs11 ⟨-⟩ o ho; obtain rfl : _ = o := Option.some.inj ho
          have o26 := o16.keep hs11 (by decide)
          exact OS.fieldAddrBx rfl Tryd.runUnderlying35 rfl Tryd.sizeOf30 rfl ((hB11 3 (by kernel_rfl)).trans h1) o26 (fun _ h => ⟨_, St.refl, h⟩)
        · rintro f_13 w_17 c_18 hB12 hs12 ⟨g11, -⟩ o ho; obtain rfl : _ = o := Option.some.inj ho
          replace g11 : AdrP p_1 3 1 (f_13 43) := g11
          have o27 := o16.keep hs12 (by decide)
          exact OS.ld1 (u := vU8 c_.Scopes) rfl Tryd.isAgg30 rfl (o27.ldn g11 (sub_of rfl)) ⟨_, St.refl, rfl⟩
        · rintro f_14 w_18 c_19 hB13 hs13 ⟨g12, g13, -⟩
          replace g12 : (f_14 42) = vU8 (c_.Scopes &&& e1.Scopes) := g12
          replace g13 : (f_14 44) = vU8 c_.Scopes := g13
          have h3 := (hB13 0 (by kernel_rfl)).trans h
          have h4 := (hB13 3 (by kernel_rfl)).trans h1
          refine WR.k rfl rfl rfl (OS.bin (a := vU8 (c_.Scopes &&& e1.Scopes)) (b := vU8 c_.Scopes) rfl g12 g13 b8_neq ?_)
          refine WR.nil ?_
          refine WC.cond (!decide (c_.Scopes &&& e1.Scopes = c_.Scopes)) rfl (fun hb3 => ?_) (fun hb3 => ?_)
          · rw [if_pos hb3] at hp
            refine WC.seq (WC.region ?_)
            refine WR.k rfl rfl rfl (OS.assign (v := vI (14 : Int)) rfl rfl ?_)
            refine WR.nil ?_
            refine WC.ret ?_
            repeat first | refine thenQ_ret ?_ | refine blkQ_ret ?_
            cases hp
            have o28 := o17.keep hs13 (by decide)
            have o29 := o18.keep hs13 (by decide)
            have o30 := o12.keep (s8.t hs13) (by decide)
            exact fnQ.l1 (fn := Tryd.f33) rfl (.inl ⟨_, rfl, rfl⟩) ⟨_, _, _, rfl, ((((s1.t s3).t s6).t s8).t hs13).leave hcw (by decide), o28, o29, o30⟩
          · rw [if_neg (nt hb3)] at hp
            refine WC.skip ?_
            refine WC.seq (WC.region ?_)
            refine WR.k rfl rfl rfl (OS.move (v := p_) rfl h3 ?_)
            have o31 := o16.keep hs13 (by decide)
            refine WR.k rfl rfl rfl (OS.fieldAddrBx rfl Tryd.runUnderlying35 rfl Tryd.sizeOf26 rfl h4 o31 ?_); intro p_9 a13
            refine WR.k rfl rfl rfl (OS.ldN (us := [vS c_.Owner.Tenant, vS c_.Owner.User]) rfl Tryd.isAgg26 Tryd.sizeOf26 rfl (o31.ldn a13 (sub_of rfl)) rfl ?_)
            refine WR.k rfl rfl rfl (OS.fieldAddrBx rfl Tryd.runUnderlying35 rfl Tryd.sizeOf9 rfl h4 o31 ?_); intro p_10 a14
            refine WR.k rfl rfl rfl (OS.ld1 (u := vS c_.Client) rfl Tryd.isAgg9 rfl (o31.ldn a14 (sub_of rfl)) ?_)
            have o32 := o17.keep hs13 (by decide)
            have o33 := o18.keep hs13 (by decide)
            have o34 := o12.keep (s8.t hs13) (by decide)
            obtain ⟨r_3, hr_3, hp⟩ := bind_some hp
            refine WR.k rfl rfl rfl (OS.callF (vs := [p_, .agg (E26.e c_.Owner).toArray, vS c_.Client]) rfl ⟨rfl, rfl, rfl, trivial⟩ Tryd.call47 ((W47 (sl := sl) (sl1 := sl1) K w_18 (rcc [3] c_19) (rcc_lt c_19 rfl) hr_3 (o32.tr (rc_tr (by decide))) (o33.tr (rc_tr rfl)) (o34.tr (rc_tr rfl))).mono ?_))
            rintro _ w_19 ⟨d4, rfl, s9⟩
            refine ⟨_, rfl, ?_⟩
            obtain ⟨c_20, s10⟩ : ∃ c_20, St [] w_18 c_19 w_19 c_20 := ⟨_, s9.mg2 (sh := 50000) rfl⟩
            refine WR.k rfl rfl rfl (OS.assign (v := vI r_3) rfl rfl ?_)
            refine WR.nil ?_
            refine WC.seq ?_
            refine WC.seq (WC.region ?_)
            refine WR.k rfl rfl rfl (OS.move (v := vI r_3) rfl rfl ?_)
            refine WR.k rfl rfl rfl (OS.bin (a := vI r_3) (b := vI (0 : Int)) rfl rfl rfl bI_lss ?_)
            refine WR.k rfl rfl rfl (OS.move (v := vB (decide (r_3 < (0 : Int)))) rfl rfl ?_)
            obtain ⟨b1, ht1, hp⟩ := bind_some hp
            refine WR.cut2 7 (fun f_15 w_20 => ∃ (c_21 : Col), f_15 0 = p_ ∧ f_15 3 = p_1 ∧ f_15 6 = vI r_3 ∧ f_15 61 = vB b1 ∧ St [] w_19 c_20 w_20 c_21) ?_ ?_
            · rcases Bool.eq_false_or_eq_true (decide (r_3 < (0 : Int))) with hg1 | hg1
              · rw [if_pos hg1] at ht1
                refine WR.kT rfl rfl (vb_t rfl hg1) rfl rfl (OS.move (v := p_) rfl h3 ?_)
                have o35 := o31.keep s10 (by decide)
                refine WR.kT rfl rfl (vb_t rfl hg1) rfl rfl (OS.fieldAddrBx rfl Tryd.runUnderlying35 rfl Tryd.sizeOf26 rfl h4 o35 ?_); intro p_11 a15
                refine WR.kT rfl rfl (vb_t rfl hg1) rfl rfl (OS.ldN (us := [vS c_.Owner.Tenant, vS c_.Owner.User]) rfl Tryd.isAgg26 Tryd.sizeOf26 rfl (o35.ldn a15 (sub_of rfl)) rfl ?_)
                have o36 := o32.keep s10 (by decide)
                have o37 := o33.keep s10 (by decide)
                have o38 := o34.keep s10 (by decide)
                obtain ⟨r_4, hr_4, ht1⟩ := bind_some ht1
                refine WR.kT rfl rfl (vb_t rfl hg1) rfl rfl (OS.callF (vs := [p_, .agg (E26.e c_.Owner).toArray]) rfl ⟨rfl, rfl, trivial⟩ Tryd.call48 ((W48 (sl := sl) (sl1 := sl1) K w_19 (rcc [3] c_20) (rcc_lt c_20 rfl) hr_4 (o36.tr (rc_tr (by decide))) (o37.tr (rc_tr rfl)) (o38.tr (rc_tr rfl))).mono ?_))
                rintro _ w_21 ⟨sl2, d5, rfl, s11, o39⟩
                refine ⟨_, rfl, ?_⟩
                obtain ⟨c_22, s12, o39⟩ : ∃ c_22, St [] w_19 c_20 w_21 c_22 ∧ Ow E35 72000 w_21 c_22 sl2.val r_4 := ⟨_, s11.mg2 (sh := 70000) rfl, o39.tr (mg2_back s11 rfl)⟩
                refine WR.kT rfl rfl (vb_t rfl hg1) rfl rfl (OS.lenSl rfl Tryd.runUnderlying38 rfl o39.isSl ?_)
                refine WR.kT rfl rfl (vb_t rfl hg1) rfl rfl (OS.bin (a := vI (r_4.length : Int)) (b := vI (4 : Int)) rfl rfl rfl bI_geq ?_)
                refine WR.k rfl rfl rfl (OS.pickT rfl (vb_t rfl hg1) rfl ?_)
                cases ht1
                refine WR.nil ?_
                exact ⟨_, h3, h4, rfl, rfl, s12.mono (by decide)⟩
              · rw [if_neg (nt hg1)] at ht1
                refine WR.gF rfl rfl (vb_f rfl hg1) rfl rfl ?_
                refine WR.gF rfl rfl (vb_f rfl hg1) rfl rfl ?_
                refine WR.gF rfl rfl (vb_f rfl hg1) rfl rfl ?_
                refine WR.gF rfl rfl (vb_f rfl hg1) rfl rfl ?_
                refine WR.gF rfl rfl (vb_f rfl hg1) rfl rfl ?_
                refine WR.gF rfl rfl (vb_f rfl hg1) rfl rfl ?_
                refine WR.k rfl rfl rfl (OS.pickF rfl (vb_f rfl hg1) rfl ?_)
                cases ht1
                refine WR.nil ?_
                exact ⟨_, h3, h4, rfl, rfl, St.refl.mono (by decide)⟩
            · rintro f_15 w_20 ⟨c_21, h5, h6, h7, h8, s13⟩
              refine WR.nil ?_
              refine WC.cond (b1) h8 (fun hb4 => ?_) (fun hb4 => ?_)
              · rw [if_pos hb4] at hp
                refine WC.seq (WC.region ?_)
                refine WR.k rfl rfl rfl (OS.assign (v := vI (25 : Int)) rfl rfl ?_)
                refine WR.nil ?_
                refine WC.ret ?_
                repeat first | refine thenQ_ret ?_ | refine blkQ_ret ?_
                cases hp
                have o40 := o32.keep (s10.t s13) (by decide)
                have o41 := o33.keep (s10.t s13) (by decide)
                have o42 := o34.keep (s10.t s13) (by decide)
                exact fnQ.l1 (fn := Tryd.f33) rfl (.inl ⟨_, rfl, rfl⟩) ⟨_, _, _, rfl, ((((((s1.t s3).t s6).t s8).t hs13).t s10).t s13).leave hcw (by decide), o40, o41, o42⟩
              · rw [if_neg (nt hb4)] at hp
                refine WC.skip ?_
                refine WC.seq (WC.region ?_)
                refine WR.k rfl rfl rfl (OS.assign (v := (.slice none 0 0)) rfl rfl ?_)
                refine WR.nil ?_
                refine WC.seq ?_
                refine WC.seq (WC.region ?_)
                refine WR.k rfl rfl rfl (OS.assign (v := vI (0 : Int)) rfl rfl ?_)
                refine WR.nil ?_
                obtain ⟨q, hl, hp⟩ := bind_some hp
                obtain ⟨a17, hx⟩ : ∃ z, z = q := ⟨_, rfl⟩; subst hx
                refine WC.blockJ2 (fun f_16 w_22 => ∃ (v_1 : Value) (c_23 : Col), f_16 0 = p_ ∧ f_16 3 = p_1 ∧ f_16 7 = v_1 ∧ Ow E35 41 w_22 c_23 v_1 a17 ∧ St [41] w_20 c_21 w_22 c_23) ?_ ?_
                · refine WC.loop (fun n => fun f_17 w_23 => ∃ (a16 : List S_api_Consent) (j : Int) (v_ : Value) (c_24 : Col), holdfastref13_Store_Allow.l1 n s r_3 a16 j = some a17 ∧ f_17 0 = p_ ∧ f_17 3 = p_1 ∧ f_17 6 = vI r_3 ∧ f_17 7 = v_ ∧ f_17 8 = vI j ∧ Ow E35 41 w_23 c_24 v_ a16 ∧ St [41] w_20 c_21 w_23 c_24) K ⟨_, _, _, _, hl, h5, h6, h7, rfl, rfl, Ow.nil, St.refl.mono (by decide)⟩ ?_
                  rintro n f_17 w_23 ⟨a16, j, v_, c_24, hl, h9, h10, h11, h12, h13, o43, s14⟩
                  cases n with
                  | zero => exact absurd hl (by simp [holdfastref13_Store_Allow.l1])
                  | succ k =>
                  rw [holdfastref13_Store_Allow.l1] at hl
                  refine WC.seq ?_
                  refine WC.seq (WC.region ?_)
                  refine WR.k rfl rfl rfl (OS.move (v := vI j) rfl h13 ?_)
                  refine WR.k rfl rfl rfl (OS.move (v := p_) rfl h9 ?_)
                  have o45 := o32.keep ((s10.t s13).t s14) (by decide)
                  refine WR.k rfl rfl rfl (OS.nilCheckBx rfl rfl o45 ?_)
                  refine WR.k rfl rfl rfl (OS.fieldAddrBx rfl Tryd.runUnderlying77 rfl Tryd.sizeOf38 rfl rfl o45 ?_); intro p_12 a18
                  refine WR.k rfl rfl rfl (OS.ld1 (u := sl1.val) rfl Tryd.isAgg38 rfl (o45.ldn a18 (sub_of rfl)) ?_)
                  have o46 := o34.keep ((s10.t s13).t s14) (by decide)
                  refine WR.k rfl rfl rfl (OS.lenSl rfl Tryd.runUnderlying38 rfl o46.isSl ?_)
                  refine WR.k rfl rfl rfl (OS.bin (a := vI j) (b := vI (s.a.length : Int)) rfl rfl rfl bI_lss ?_)
                  refine WR.nil ?_
                  refine WC.cond (decide (j < (s.a.length : Int))) rfl (fun hb5 => ?_) (fun hb5 => ?_)
                  · rw [if_pos hb5] at hl
                    refine WC.skip ?_
                    refine WC.seq ?_
                    refine WC.block ?_
                    refine WC.seq (WC.region ?_)
                    refine WR.k rfl rfl rfl (OS.move (v := vI j) rfl h13 ?_)
                    refine WR.k rfl rfl rfl (OS.move (v := vI r_3) rfl h11 ?_)
                    refine WR.k rfl rfl rfl (OS.bin (a := vI j) (b := vI r_3) rfl rfl rfl bI_neq ?_)
                    refine WR.nil ?_
                    refine WC.cond (!decide (j = r_3)) rfl (fun hb6 => ?_) (fun hb6 => ?_)
                    · rw [if_pos hb6] at hl
                      refine WC.region ?_
                      refine WR.k rfl rfl rfl (OS.move (v := v_) rfl h12 ?_)
                      refine WR.k rfl rfl rfl (OS.move (v := p_) rfl h9 ?_)
                      refine WR.k rfl rfl rfl (OS.nilCheckBx rfl rfl o45 ?_)
                      refine WR.k rfl rfl rfl (OS.fieldAddrBx rfl Tryd.runUnderlying77 rfl Tryd.sizeOf38 rfl rfl o45 ?_); intro p_13 a19
                      refine WR.k rfl rfl rfl (OS.ld1 (u := sl1.val) rfl Tryd.isAgg38 rfl (o45.ldn a19 (sub_of rfl)) ?_)
                      refine WR.k rfl rfl rfl (OS.move (v := vI j) rfl h13 ?_)
                      obtain ⟨e2, he2, hl⟩ := bind_some hl
                      obtain ⟨ha1, hb7, hc1⟩ := gt_some he2
                      refine WR.k rfl rfl rfl (OS.idx rfl Tryd.runUnderlying38 Tryd.sizeOf35 rfl o46.isSl rfl ha1 hb7 ?_); intro p_14 a20
                      refine WR.k rfl rfl rfl (OS.ldN (us := E35.e e2) rfl Tryd.isAgg35 Tryd.sizeOf35 rfl (o46.ld a20 hc1) rfl ?_)
                      obtain ⟨l1, hl1, hl⟩ := bind_some hl
                      replace hl1 := (Option.some.inj hl1).symm
                      refine WR.k rfl rfl rfl (OS.bslice (E := E35) (c := c_24) 47 ([e2] : List S_api_Consent) [(0, .agg (E35.e e2).toArray)] rfl ⟨rfl, rfl, trivial⟩ (fun _ => by kernel_rfl) rfl (by decide) ?_); intro v_2 w_24 c_25 o47 s15
                      replace o47 : Ow E35 47 w_24 c_25 v_2 l1 := by rw [hl1]; exact o47
                      have o48 := o43.keep s15 (by decide)
                      obtain ⟨a21, ha21, hl⟩ := bind_some hl
                      obtain ⟨ha2, ha21⟩ := app_some ha21
                      refine WR.k rfl rfl rfl (OS.append (E := E35) (c := c_25) (i := 41) (xs := a16) (ys := l1) rfl Tryd.underlying38 Tryd.underlying38 (.inl rfl) I35 rfl rfl rfl rfl rfl o48 o47.vw.src (lim_bytes (by decide) ha2) (lim_max (b := 56) (by decide) ha2) ?_); intro v_3 w_25 c_26 o49 s16
                      replace o49 : Ow E35 41 w_25 c_26 v_3 a21 := by rw [ha21]; exact o49
                      refine WR.k rfl rfl rfl (OS.assign (v := v_3) rfl rfl ?_)
                      refine WR.nil ?_
                      refine WC.region ?_
                      refine WR.k rfl rfl rfl (OS.move (v := vI j) rfl h13 ?_)
                      refine WR.k rfl rfl rfl (OS.bin (a := vI j) (b := vI (1 : Int)) rfl rfl rfl bI_add ?_)
                      refine WR.k rfl rfl rfl (OS.assign (v := vI (W (j + (1 : Int)))) rfl rfl ?_)
                      refine WR.nil ?_
                      exact ⟨k, by omega, _, _, _, _, hl, h9, h10, h11, rfl, rfl, o49, ((s14.t s15).t s16).mono (by decide)⟩
                    · rw [if_neg (nt hb6)] at hl
                      refine WC.skip ?_
                      refine WC.region ?_
                      refine WR.k rfl rfl rfl (OS.move (v := vI j) rfl h13 ?_)
                      refine WR.k rfl rfl rfl (OS.bin (a := vI j) (b := vI (1 : Int)) rfl rfl rfl bI_add ?_)
                      refine WR.k rfl rfl rfl (OS.assign (v := vI (W (j + (1 : Int)))) rfl rfl ?_)
                      refine WR.nil ?_
                      exact ⟨k, by omega, _, _, _, _, hl, h9, h10, h11, h12, rfl, o43, s14.mono (by decide)⟩
                  · rw [if_neg (nt hb5)] at hl
                    refine WC.exit ?_
                    cases hl
                    exact ⟨_, _, h9, h10, h12, o43, s14.mono (by decide)⟩
                · rintro f_16 w_22 ⟨v_1, c_23, h14, h15, h16, o44, s17⟩
                  refine WC.seq (WC.region ?_)
                  refine WR.k rfl rfl rfl (OS.move (v := p_) rfl h14 ?_)
                  refine WR.k rfl rfl rfl (OS.move (v := v_1) rfl h16 ?_)
                  have o50 := o31.keep ((s10.t s13).t s17) (by decide)
                  refine WR.k rfl rfl rfl (OS.ldN (us := [vS c_.Owner.Tenant, vS c_.Owner.User, vS c_.Client, vU8 c_.Scopes]) rfl Tryd.isAgg35 Tryd.sizeOf35 h15 o50.ldAll rfl ?_)
                  obtain ⟨l2, hl2, hp⟩ := bind_some hp
                  replace hl2 := (Option.some.inj hl2).symm
                  refine WR.k rfl rfl rfl (OS.bslice (E := E35) (c := c_23) 48 ([c_] : List S_api_Consent) [(0, .agg (E35.e c_).toArray)] rfl ⟨rfl, rfl, trivial⟩ (fun _ => by kernel_rfl) rfl (by decide) ?_); intro v_4 w_26 c_27 o51 s18
                  replace o51 : Ow E35 48 w_26 c_27 v_4 l2 := by rw [hl2]; exact o51
                  have o52 := o44.keep s18 (by decide)
                  obtain ⟨a22, ha22, hp⟩ := bind_some hp
                  obtain ⟨ha3, ha22⟩ := app_some ha22
                  refine WR.k rfl rfl rfl (OS.append (E := E35) (c := c_27) (i := 41) (xs := a17) (ys := l2) rfl Tryd.underlying38 Tryd.underlying38 (.inl rfl) I35 rfl rfl rfl rfl rfl o52 o51.vw.src (lim_bytes (by decide) ha3) (lim_max (b := 56) (by decide) ha3) ?_); intro v_5 w_27 c_28 o53 s19
                  replace o53 : Ow E35 41 w_27 c_28 v_5 a22 := by rw [ha22]; exact o53
                  have o54 := o32.keep ((((s10.t s13).t s17).t s18).t s19) (by decide)
                  refine WR.k rfl rfl rfl (OS.nilCheckBx rfl rfl o54 ?_)
                  refine WR.k rfl rfl rfl (OS.fieldAddrBx rfl Tryd.runUnderlying77 rfl Tryd.sizeOf38 rfl rfl o54 ?_); intro p_15 a23
                  obtain ⟨sl3, e3⟩ := isSlv o53.isSl; subst e3
                  refine WR.k0 rfl rfl (OS.stBxAt (v := sl3.val) (vs := [sl3.val]) (ws := [sl.val, sl3.val]) rfl Tryd.sizeOf38 rfl rfl rfl o54 a23 rfl (Nat.le_of_ble_eq_true rfl) (one_of rfl) rfl ?_); intro w_28 o55 s20
                  refine WR.nil ?_
                  refine WC.seq (WC.region ?_)
                  refine WR.k rfl rfl rfl (OS.assign (v := vI (0 : Int)) rfl rfl ?_)
                  refine WR.nil ?_
                  refine WC.ret ?_
                  repeat first | refine thenQ_ret ?_ | refine blkQ_ret ?_
                  cases hp
                  have o57 := o53.keep s20 (by decide)
                  obtain ⟨c_29, s21, o56⟩ := o57.recol 1
                  have o58 := o55.keep s21 (by decide)
                  have o59 := o33.keep ((((((s10.t s13).t s17).t s18).t s19).t s20).t s21) (by decide)
                  exact fnQ.l1 (fn := Tryd.f33) rfl (.inl ⟨_, rfl, rfl⟩) ⟨_, _, _, rfl, (((((((((((s1.t s3).t s6).t s8).t hs13).t s10).t s13).t s17).t s18).t s19).t s20).t s21).leave hcw (by decide), o58, o59, o56.vw⟩

-- (*holdfast/grant.Store).Withdraw
set_option maxHeartbeats 4000000 in
theorem W34 (K : Nat) (w0 : World) (cw : Col) (hcw : ∀ b, cw b < 40) {s : S_grant_Store} {o3 : S_api_Owner} {client : List UInt8} {r : Int × S_grant_Store} (hp : grant_Store_Withdraw K s o3 client = some r) {b : Nat} {b1 : Nat} {p_ : Value} (o : Bx 3 w0 cw p_ [(.map (some b)), (.map (some b1))]) (o1 : Mp kv64 (VR.flat vv32) 4 w0 cw (.map (some b)) s.clients) (o2 : Mp kv67 (VR.flat vv30) 5 w0 cw (.map (some b1)) s.consents) :
    Calls Tryd.prog 34 [p_, .agg (E26.e o3).toArray, vS client].toArray w0 fun e w1 => ∃ (b2 : Nat) (b3 : Nat) (d : Col), e = .returned (vI r.1) ∧ St [3, 4, 5] w0 cw w1 d ∧ Bx 3 w1 d p_ [(.map (some b2)), (.map (some b3))] ∧ Mp kv64 (VR.flat vv32) 4 w1 d (.map (some b2)) r.2.clients ∧ Mp kv67 (VR.flat vv30) 5 w1 d (.map (some b3)) r.2.consents := by
  refine calls_intro Tryd.func34 rfl Tryd.ntmps34 rfl ?_
  unfold grant_Store_Withdraw at hp
  refine WC.seq (WC.region ?_)
  refine WR.k rfl rfl rfl (OS.boxBx (us := [vS o3.Tenant, vS o3.User]) (c := cw) 40 rfl rfl rfl ?_); intro p_1 w_ c_ o4 s1
  refine WR.k rfl rfl rfl (OS.assign (v := vI (0 : Int)) rfl rfl ?_)
  refine WR.nil ?_
  refine WC.seq (WC.region ?_)
  refine WR.k rfl rfl rfl (OS.move (v := p_) rfl rfl ?_)
  refine WR.k rfl rfl rfl (OS.ldN (us := [vS o3.Tenant, vS o3.User]) rfl Tryd.isAgg26 Tryd.sizeOf26 rfl o4.ldAll rfl ?_)
  refine WR.k rfl rfl rfl (OS.move (v := vS client) rfl rfl ?_)
  have o5 := o.keep s1 (by decide)
  have o6 := o1.keep s1 (by decide) (by decide)
  have o7 := o2.keep s1 (by decide) (by decide)
  obtain ⟨r_, hr_, hp⟩ := bind_some hp
  refine WR.k rfl rfl rfl (OS.callF (vs := [p_, .agg (E26.e o3).toArray, vS client]) rfl ⟨rfl, rfl, rfl, trivial⟩ Tryd.call15 ((W15 K w_ (rcc [3, 4, 5] c_) (rcc_lt c_ rfl) hr_ (o5.tr (rc_tr (by decide))) (o6.tr (rc_tr (by decide))) (o7.tr (rc_tr (by decide)))).mono ?_))
  rintro _ w_1 ⟨d1, rfl, s2⟩
  refine ⟨_, rfl, ?_⟩
  obtain ⟨c_1, s3⟩ : ∃ c_1, St [] w_ c_ w_1 c_1 := ⟨_, s2.mg2 (sh := 10000) rfl⟩
  refine WR.k rfl rfl rfl (OS.move (v := .tuple #[.agg (E35.e r_.1).toArray, vI r_.2]) rfl rfl ?_)
  refine WR.k rfl rfl rfl (OS.extract (v := .agg (E35.e r_.1).toArray) rfl rfl rfl ?_)
  refine WR.k rfl rfl rfl (OS.extract (v := vI r_.2) rfl rfl rfl ?_)
  refine WR.k rfl rfl rfl (OS.allocBx (us := [vS ([] : List UInt8), vS ([] : List UInt8), vS ([] : List UInt8), vU8 (0 : UInt8)]) (c := c_1) 41 rfl Tryd.zeroValue35 rfl ?_); intro p_2 w_2 c_2 o8 s4
  refine WR.k0 rfl rfl (OS.stBxAll (v := .agg (E35.e r_.1).toArray) (ws := [vS r_.1.Owner.Tenant, vS r_.1.Owner.User, vS r_.1.Client, vU8 r_.1.Scopes]) rfl Tryd.sizeOf35 rfl rfl rfl o8 rfl rfl (one_of rfl) ?_); intro w_3 o9 s5
  refine WR.k rfl rfl rfl (OS.assign (v := vI r_.2) rfl rfl ?_)
  refine WR.nil ?_
  refine WC.seq ?_
  refine WC.seq (WC.region ?_)
  refine WR.k rfl rfl rfl (OS.move (v := vI r_.2) rfl rfl ?_)
  refine WR.k rfl rfl rfl (OS.bin (a := vI r_.2) (b := vI (0 : Int)) rfl rfl rfl bI_eql ?_)
  refine WR.nil ?_
  refine WC.endJ (fun f_ w_4 => ∃ (x : List (S_grant_use × UInt8)) (c_3 : Col), grant_Store_Withdraw.j1 K r_ s x = some r ∧ f_ 0 = p_ ∧ f_ 8 = vI r_.2 ∧ Mp kv67 (VR.flat vv30) 5 w_4 c_3 (.map (some b1)) x ∧ Bx 3 w_4 c_3 p_ [(.map (some b)), (.map (some b1))] ∧ St [5] w_3 c_2 w_4 c_3) ?_ ?_
  · refine WC.cond (decide (r_.2 = (0 : Int))) rfl (fun hb => ?_) (fun hb => ?_)
    · rw [if_pos hb] at hp
      have o12 := o5.keep ((s3.t s4).t s5) (by decide)
      have o13 := o4.keep ((s3.t s4).t s5) (by decide)
      refine WC.draw3 (c := c_2) ⟨7, [[], [], [], [], [], [], []], [[], [], [], [], [], [], []], [], [[], [0], [1], [2], [], [], [4, 5]], [3, 6]⟩ [[], [], [], [], [], [], []] [[18], [19], [20], [21], [22], [23], [24]] [fun yf yw yc => (yf 18) = p_, fun yf yw yc => (yf 19) = p_, fun yf yw yc => AdrP p_ 1 1 (yf 20), fun yf yw yc => (yf 21) = (.map (some b1)), fun yf yw yc => (yf 22) = .agg (E26.e o3).toArray, fun yf yw yc => (yf 23) = vS client, fun yf yw yc => (yf 24) = .agg (E67.e (⟨o3, client⟩ : S_grant_use)).toArray] hmix (by kernel_rfl) (by kernel_rfl) ⟨?_, ?_, ?_, ?_, ?_, ?_, ?_, trivial⟩ ⟨fun y1 y2 yw yc yI yw1 yc1 yh ye ys yk => by obtain ⟨ye0, -⟩ := ye; show (y2 18) = p_; rw [ye0]; exact yh, fun y1 y2 yw yc yI yw1 yc1 yh ye ys yk => by obtain ⟨ye0, -⟩ := ye; show (y2 19) = p_; rw [ye0]; exact yh, fun y1 y2 yw yc yI yw1 yc1 yh ye ys yk => by obtain ⟨ye0, -⟩ := ye; show AdrP p_ 1 1 (y2 20); rw [ye0]; exact yh, fun y1 y2 yw yc yI yw1 yc1 yh ye ys yk => by obtain ⟨ye0, -⟩ := ye; show (y2 21) = (.map (some b1)); rw [ye0]; exact yh, fun y1 y2 yw yc yI yw1 yc1 yh ye ys yk => by obtain ⟨ye0, -⟩ := ye; show (y2 22) = .agg (E26.e o3).toArray; rw [ye0]; exact yh, fun y1 y2 yw yc yI yw1 yc1 yh ye ys yk => by obtain ⟨ye0, -⟩ := ye; show (y2 23) = vS client; rw [ye0]; exact yh, fun y1 y2 yw yc yI yw1 yc1 yh ye ys yk => by obtain ⟨ye0, -⟩ := ye; show (y2 24) = .agg (E67.e (⟨o3, client⟩ : S_grant_use)).toArray; rw [ye0]; exact yh, trivial⟩ ?_
      · rintro f_1 w_5 c_4 hB hs ⟨-⟩ o ho; obtain rfl : _ = o := Option.some.inj ho
        exact OS.move (v := p_) rfl ((hB 0 (by kernel_rfl)).trans (show _ = p_ from rfl)) ⟨_, St.refl, rfl⟩
      · rintro f_2 w_6 c_5 hB1 hs1 ⟨g, -⟩ o ho; obtain rfl : _ = o := Option.some.inj ho
        replace g : (f_2 18) = p_ := g
        have o14 := o5.keep (((s3.t s4).t s5).t hs1) (by decide)
        exact OS.nilCheckBx rfl g o14 ⟨_, St.refl, rfl⟩
      · rintro f_3 w_7 c_6 hB2 hs2 ⟨g1, -⟩ o ho; obtain rfl : _ = o := Option.some.inj ho
        replace g1 : (f_3 19) = p_ := g1
        have o15 := o12.keep hs2 (by decide)
        exact OS.fieldAddrBx rfl Tryd.runUnderlying59 rfl Tryd.sizeOf57 rfl g1 o15 (fun _ h => ⟨_, St.refl, h⟩)
      · rintro f_4 w_8 c_7 hB3 hs3 ⟨g2, -⟩ o ho; obtain rfl : _ = o := Option.some.inj ho
        replace g2 : AdrP p_ 1 1 (f_4 20) := g2
        have o16 := o12.keep hs3 (by decide)
        exact OS.ld1 (u := (.map (some b1))) rfl Tryd.isAgg57 rfl (o16.ldn g2 (sub_of rfl)) ⟨_, St.refl, rfl⟩
      · rintro f_5 w_9 c_8 hB4 hs4 ⟨-⟩ o ho; obtain rfl : _ = o := Option.some.inj ho
        have o17 := o4.keep (((s3.t s4).t s5).t hs4) (by decide)
        exact OS.ldN (us := [vS o3.Tenant, vS o3.User]) rfl Tryd.isAgg26 Tryd.sizeOf26 ((hB4 4 (by kernel_rfl)).trans (show _ = p_1 from rfl)) o17.ldAll rfl ⟨_, St.refl, rfl⟩
      · rintro f_6 w_10 c_9 hB5 hs5 ⟨-⟩ o ho; obtain rfl : _ = o := Option.some.inj ho
        exact OS.move (v := vS client) rfl ((hB5 2 (by kernel_rfl)).trans (show _ = vS client from rfl)) ⟨_, St.refl, rfl⟩
      · rintro f_7 w_11 c_10 hB6 hs6 ⟨g3, g4, -⟩ o ho; obtain rfl : _ = o := Option.some.inj ho
        replace g3 : (f_7 22) = .agg (E26.e o3).toArray := g3
        replace g4 : (f_7 23) = vS client := g4
        exact OS.build (v := .agg (E67.e (⟨o3, client⟩ : S_grant_use)).toArray) [(0, .agg (E26.e o3).toArray), (1, vS client)] rfl ⟨rfl, g3, rfl, g4, trivial⟩ (fun _ => by kernel_rfl) ⟨_, St.refl, rfl⟩
      · rintro f_8 w_12 c_11 hB7 hs7 ⟨g5, g6, -⟩
        replace g5 : (f_8 21) = (.map (some b1)) := g5
        replace g6 : (f_8 24) = .agg (E67.e (⟨o3, client⟩ : S_grant_use)).toArray := g6
        have h := (hB7 0 (by kernel_rfl)).trans (show _ = p_ from rfl)
        have h1 := (hB7 8 (by kernel_rfl)).trans (show _ = vI r_.2 from rfl)
        have o18 := o7.keep (((s3.t s4).t s5).t hs7) (by decide) (by decide)
        obtain ⟨m, hm, hp⟩ := bind_some hp
        replace hm := (Option.some.inj hm).symm
        refine WR.k0 rfl rfl (OS.mapDel (a := (⟨o3, client⟩ : S_grant_use)) rfl K67 Tryd.underlying57 g5 g6 o18 (by decide) ?_); intro w_13 o19 s6
        replace o19 : Mp kv67 (VR.flat vv30) 5 w_13 c_11 (.map (some b1)) m := by rw [hm]; exact o19
        refine WR.nil ?_
        have o20 := o12.keep (hs7.t s6) (by decide)
        exact ⟨_, _, hp, h, h1, o19, o20, (hs7.t s6).mono (by decide)⟩
    · rw [if_neg (nt hb)] at hp
      refine WC.skip ?_
      have o21 := o7.keep ((s3.t s4).t s5) (by decide) (by decide)
      have o22 := o5.keep ((s3.t s4).t s5) (by decide)
      exact ⟨_, _, hp, rfl, rfl, o21, o22, St.refl.mono (by decide)⟩
  · rintro f_ w_4 ⟨x, c_3, hp, h2, h3, o11, o10, s7⟩
    unfold grant_Store_Withdraw.j1 at hp
    refine WC.seq (WC.region ?_)
    refine WR.k rfl rfl rfl (OS.move (v := vI r_.2) rfl h3 ?_)
    refine WR.k rfl rfl rfl (OS.assign (v := vI r_.2) rfl rfl ?_)
    refine WR.nil ?_
    refine WC.ret ?_
    repeat first | refine thenQ_ret ?_ | refine blkQ_ret ?_
    cases hp
    have o23 := o6.keep (((s3.t s4).t s5).t s7) (by decide) (by decide)
    exact fnQ.l1 (fn := Tryd.f34) rfl (.inl ⟨_, rfl, rfl⟩) ⟨_, _, _, rfl, ((((s1.t s3).t s4).t s5).t s7).leave hcw (by decide), o10, o23, o11⟩

-- (*holdfast/holdfastref13.Store).Withdraw
set_option maxHeartbeats 4000000 in
theorem W35 (K : Nat) (w0 : World) (cw : Col) (hcw : ∀ b, cw b < 40) {s : S_holdfastref13_Store} {o3 : S_api_Owner} {client : List UInt8} {r : Int × S_holdfastref13_Store} (hp : holdfastref13_Store_Withdraw K s o3 client = some r) {sl : Sl} {sl1 : Sl} {p_ : Value} (o : Bx 3 w0 cw p_ [sl.val, sl1.val]) (o1 : Vw E32 1 w0 cw sl.val s.c_) (o2 : Vw E35 1 w0 cw sl1.val s.a) :
    Calls Tryd.prog 35 [p_, .agg (E26.e o3).toArray, vS client].toArray w0 fun e w1 => ∃ (sl3 : Sl) (sl4 : Sl) (d : Col), e = .returned (vI r.1) ∧ St [3] w0 cw w1 d ∧ Bx 3 w1 d p_ [sl3.val, sl4.val] ∧ Vw E32 1 w1 d sl3.val r.2.c_ ∧ Vw E35 1 w1 d sl4.val r.2.a := by
  refine calls_intro Tryd.func35 rfl Tryd.ntmps35 rfl ?_
  unfold holdfastref13_Store_Withdraw at hp
  refine WC.seq (WC.region ?_)
  refine WR.k rfl rfl rfl (OS.boxBx (us := [vS o3.Tenant, vS o3.User]) (c := cw) 40 rfl rfl rfl ?_); intro p_1 w_ c_ o4 s1
  refine WR.k rfl rfl rfl (OS.assign (v := vI (0 : Int)) rfl rfl ?_)
  refine WR.nil ?_
  refine WC.seq ?_
  refine WC.seq (WC.region ?_)
  refine WR.k rfl rfl rfl (OS.move (v := p_) rfl rfl ?_)
  have o5 := o.keep s1 (by decide)
  refine WR.k rfl rfl rfl (OS.eqPtrS rfl (.inl ⟨rfl, rfl⟩) Tryd.underlying45 rfl o5 rfl ?_)
  refine WR.nil ?_
  refine WC.condF rfl ?_
  refine WC.skip ?_
  refine WC.seq (WC.region ?_)
  refine WR.k rfl rfl rfl (OS.move (v := p_) rfl rfl ?_)
  refine WR.k rfl rfl rfl (OS.ldN (us := [vS o3.Tenant, vS o3.User]) rfl Tryd.isAgg26 Tryd.sizeOf26 rfl o4.ldAll rfl ?_)
  refine WR.k rfl rfl rfl (OS.move (v := vS client) rfl rfl ?_)
  have o6 := o1.keep s1 (by decide)
  have o7 := o2.keep s1 (by decide)
  obtain ⟨r_, hr_, hp⟩ := bind_some hp
  refine WR.k rfl rfl rfl (OS.callF (vs := [p_, .agg (E26.e o3).toArray, vS client]) rfl ⟨rfl, rfl, rfl, trivial⟩ Tryd.call47 ((W47 (sl := sl) (sl1 := sl1) K w_ (rcc [3] c_) (rcc_lt c_ rfl) hr_ (o5.tr (rc_tr (by decide))) (o6.tr (rc_tr rfl)) (o7.tr (rc_tr rfl))).mono ?_))
  rintro _ w_1 ⟨d1, rfl, s2⟩
  refine ⟨_, rfl, ?_⟩
  obtain ⟨c_1, s3⟩ : ∃ c_1, St [] w_ c_ w_1 c_1 := ⟨_, s2.mg2 (sh := 10000) rfl⟩
  refine WR.k rfl rfl rfl (OS.assign (v := vI r_) rfl rfl ?_)
  refine WR.nil ?_
  refine WC.seq ?_
  refine WC.seq (WC.region ?_)
  refine WR.k rfl rfl rfl (OS.move (v := vI r_) rfl rfl ?_)
  refine WR.k rfl rfl rfl (OS.bin (a := vI r_) (b := vI (0 : Int)) rfl rfl rfl bI_lss ?_)
  refine WR.nil ?_
  refine WC.cond (decide (r_ < (0 : Int))) rfl (fun hb => ?_) (fun hb => ?_)
  · rw [if_pos hb] at hp
    refine WC.seq (WC.region ?_)
    refine WR.k rfl rfl rfl (OS.assign (v := vI (4 : Int)) rfl rfl ?_)
    refine WR.nil ?_
    refine WC.ret ?_
    repeat first | refine thenQ_ret ?_ | refine blkQ_ret ?_
    cases hp
    have o8 := o5.keep s3 (by decide)
    have o9 := o6.keep s3 (by decide)
    have o10 := o7.keep s3 (by decide)
    exact fnQ.l1 (fn := Tryd.f35) rfl (.inl ⟨_, rfl, rfl⟩) ⟨_, _, _, rfl, (s1.t s3).leave hcw (by decide), o8, o9, o10⟩
  · rw [if_neg (nt hb)] at hp
    refine WC.skip ?_
    refine WC.seq (WC.region ?_)
    refine WR.k rfl rfl rfl (OS.assign (v := (.slice none 0 0)) rfl rfl ?_)
    refine WR.nil ?_
    refine WC.seq (WC.region ?_)
    refine WR.k rfl rfl rfl (OS.move (v := (.slice none 0 0)) rfl rfl ?_)
    refine WR.k rfl rfl rfl (OS.move (v := p_) rfl rfl ?_)
    have o11 := o5.keep s3 (by decide)
    refine WR.k rfl rfl rfl (OS.nilCheckBx rfl rfl o11 ?_)
    refine WR.k rfl rfl rfl (OS.fieldAddrBx rfl Tryd.runUnderlying77 rfl Tryd.sizeOf38 rfl rfl o11 ?_); intro p_2 a1
    refine WR.k rfl rfl rfl (OS.ld1 (u := sl1.val) rfl Tryd.isAgg38 rfl (o11.ldn a1 (sub_of rfl)) ?_)
    refine WR.k rfl rfl rfl (OS.move (v := vI r_) rfl rfl ?_)
    have o12 := o7.keep s3 (by decide)
    obtain ⟨ys, hys, hp⟩ := bind_some hp
    obtain ⟨ha, hb1, hc, hys⟩ := sub_some hys
    refine WR.k rfl rfl rfl (OS.sliceV (E := E35) rfl Tryd.underlying38 Tryd.sizeOf35 rfl o12 Bd.none (Bd.some rfl (by omega)) rfl (by omega) (by omega) ?_); intro v_ y
    replace y : Vw E35 1 w_1 c_1 v_ ys := by rw [hys]; exact y
    obtain ⟨xs, hxs, hp⟩ := bind_some hp
    obtain ⟨ha1, hxs⟩ := app_some hxs
    refine WR.k rfl rfl rfl (OS.append (E := E35) (c := c_1) (i := 41) (xs := ([] : List S_api_Consent)) (ys := ys) rfl Tryd.underlying38 Tryd.underlying38 (.inl rfl) I35 rfl rfl rfl rfl rfl Ow.nil y.src (lim_bytes (by decide) ha1) (lim_max (b := 56) (by decide) ha1) ?_); intro v_1 w_2 c_2 o13 s4
    replace o13 : Ow E35 41 w_2 c_2 v_1 xs := by rw [hxs]; exact o13
    refine WR.k rfl rfl rfl (OS.assign (v := v_1) rfl rfl ?_)
    refine WR.nil ?_
    refine WC.seq (WC.region ?_)
    refine WR.k rfl rfl rfl (OS.move (v := p_) rfl rfl ?_)
    refine WR.k rfl rfl rfl (OS.move (v := v_1) rfl rfl ?_)
    refine WR.k rfl rfl rfl (OS.move (v := p_) rfl rfl ?_)
    have o14 := o11.keep s4 (by decide)
    refine WR.k rfl rfl rfl (OS.nilCheckBx rfl rfl o14 ?_)
    refine WR.k rfl rfl rfl (OS.fieldAddrBx rfl Tryd.runUnderlying77 rfl Tryd.sizeOf38 rfl rfl o14 ?_); intro p_3 a2
    refine WR.k rfl rfl rfl (OS.ld1 (u := sl1.val) rfl Tryd.isAgg38 rfl (o14.ldn a2 (sub_of rfl)) ?_)
    refine WR.k rfl rfl rfl (OS.move (v := vI r_) rfl rfl ?_)
    refine WR.k rfl rfl rfl (OS.bin (a := vI r_) (b := vI (1 : Int)) rfl rfl rfl bI_add ?_)
    have o15 := o12.keep s4 (by decide)
    obtain ⟨ys1, hys1, hp⟩ := bind_some hp
    obtain ⟨ha2, hb2, hc1, hys1⟩ := sub_some hys1
    refine WR.k rfl rfl rfl (OS.sliceV (E := E35) rfl Tryd.underlying38 Tryd.sizeOf35 rfl o15 (Bd.some rfl ha2) Bd.none rfl (by omega) (by omega) ?_); intro v_2 y1
    replace y1 : Vw E35 1 w_2 c_2 v_2 ys1 := by rw [hys1]; exact y1
    obtain ⟨xs1, hxs1, hp⟩ := bind_some hp
    obtain ⟨ha3, hxs1⟩ := app_some hxs1
    refine WR.k rfl rfl rfl (OS.append (E := E35) (c := c_2) (i := 41) (xs := xs) (ys := ys1) rfl Tryd.underlying38 Tryd.underlying38 (.inl rfl) I35 rfl rfl rfl rfl rfl o13 y1.src (lim_bytes (by decide) ha3) (lim_max (b := 56) (by decide) ha3) ?_); intro v_3 w_3 c_3 o16 s5
    replace o16 : Ow E35 41 w_3 c_3 v_3 xs1 := by rw [hxs1]; exact o16
    have o17 := o14.keep s5 (by decide)
    refine WR.k rfl rfl rfl (OS.nilCheckBx rfl rfl o17 ?_)
    refine WR.k rfl rfl rfl (OS.fieldAddrBx rfl Tryd.runUnderlying77 rfl Tryd.sizeOf38 rfl rfl o17 ?_); intro p_4 a3
    obtain ⟨sl2, e1⟩ := isSlv o16.isSl; subst e1
    refine WR.k0 rfl rfl (OS.stBxAt (v := sl2.val) (vs := [sl2.val]) (ws := [sl.val, sl2.val]) rfl Tryd.sizeOf38 rfl rfl rfl o17 a3 rfl (Nat.le_of_ble_eq_true rfl) (one_of rfl) rfl ?_); intro w_4 o18 s6
    refine WR.nil ?_
    refine WC.seq (WC.region ?_)
    refine WR.k rfl rfl rfl (OS.assign (v := vI (0 : Int)) rfl rfl ?_)
    refine WR.nil ?_
    refine WC.ret ?_
    repeat first | refine thenQ_ret ?_ | refine blkQ_ret ?_
    cases hp
    have o20 := o16.keep s6 (by decide)
    obtain ⟨c_4, s7, o19⟩ := o20.recol 1
    have o21 := o18.keep s7 (by decide)
    have o22 := o6.keep ((((s3.t s4).t s5).t s6).t s7) (by decide)
    exact fnQ.l1 (fn := Tryd.f35) rfl (.inl ⟨_, rfl, rfl⟩) ⟨_, _, _, rfl, (((((s1.t s3).t s4).t s5).t s6).t s7).leave hcw (by decide), o21, o22, o19.vw⟩

-- (*holdfast/holdfastref13.Store).DropUser
set_option maxHeartbeats 4000000 in
theorem W36 (K : Nat) (w0 : World) (cw : Col) (hcw : ∀ b, cw b < 40) {s : S_holdfastref13_Store} {o3 : S_api_Owner} {r : Int × S_holdfastref13_Store} (hp : holdfastref13_Store_DropUser K s o3 = some r) {sl : Sl} {sl1 : Sl} {p_ : Value} (o : Bx 3 w0 cw p_ [sl.val, sl1.val]) (o1 : Vw E32 1 w0 cw sl.val s.c_) (o2 : Vw E35 1 w0 cw sl1.val s.a) :
    Calls Tryd.prog 36 [p_, .agg (E26.e o3).toArray].toArray w0 fun e w1 => ∃ (sl3 : Sl) (sl4 : Sl) (d : Col), e = .returned (vI r.1) ∧ St [3] w0 cw w1 d ∧ Bx 3 w1 d p_ [sl3.val, sl4.val] ∧ Vw E32 1 w1 d sl3.val r.2.c_ ∧ Vw E35 1 w1 d sl4.val r.2.a := by
  refine calls_intro Tryd.func36 rfl Tryd.ntmps36 rfl ?_
  unfold holdfastref13_Store_DropUser at hp
  refine WC.seq (WC.region ?_)
  refine WR.k rfl rfl rfl (OS.boxBx (us := [vS o3.Tenant, vS o3.User]) (c := cw) 40 rfl rfl rfl ?_); intro p_1 w_ c_ o4 s1
  refine WR.k rfl rfl rfl (OS.assign (v := vI (0 : Int)) rfl rfl ?_)
  refine WR.nil ?_
  refine WC.seq ?_
  refine WC.seq (WC.region ?_)
  refine WR.k rfl rfl rfl (OS.move (v := p_) rfl rfl ?_)
  have o5 := o.keep s1 (by decide)
  refine WR.k rfl rfl rfl (OS.eqPtrS rfl (.inl ⟨rfl, rfl⟩) Tryd.underlying45 rfl o5 rfl ?_)
  refine WR.nil ?_
  refine WC.condF rfl ?_
  refine WC.skip ?_
  refine WC.seq (WC.region ?_)
  refine WR.k rfl rfl rfl (OS.assign (v := (.slice none 0 0)) rfl rfl ?_)
  refine WR.nil ?_
  refine WC.seq ?_
  refine WC.seq (WC.region ?_)
  refine WR.k rfl rfl rfl (OS.assign (v := vI (0 : Int)) rfl rfl ?_)
  refine WR.nil ?_
  obtain ⟨q, hl, hp⟩ := bind_some hp
  obtain ⟨a2, hx⟩ : ∃ z, z = q := ⟨_, rfl⟩; subst hx
  refine WC.blockJ2 (fun f_ w_1 => ∃ (v_1 : Value) (c_1 : Col), f_ 0 = p_ ∧ f_ 5 = v_1 ∧ Ow E35 41 w_1 c_1 v_1 a2 ∧ St [41] w_ c_ w_1 c_1) ?_ ?_
  · refine WC.loop (fun n => fun f_1 w_2 => ∃ (a1 : List S_api_Consent) (i : Int) (v_ : Value) (c_2 : Col), holdfastref13_Store_DropUser.l1 n s o3 a1 i = some a2 ∧ f_1 0 = p_ ∧ f_1 3 = p_1 ∧ f_1 5 = v_ ∧ f_1 6 = vI i ∧ Ow E35 41 w_2 c_2 v_ a1 ∧ St [41] w_ c_ w_2 c_2) K ⟨_, _, _, _, hl, rfl, rfl, rfl, rfl, Ow.nil, St.refl.mono (by decide)⟩ ?_
    rintro n f_1 w_2 ⟨a1, i, v_, c_2, hl, h, h1, h2, h3, o6, s2⟩
    cases n with
    | zero => exact absurd hl (by simp [holdfastref13_Store_DropUser.l1])
    | succ k =>
    rw [holdfastref13_Store_DropUser.l1] at hl
    refine WC.seq ?_
    refine WC.seq (WC.region ?_)
    refine WR.k rfl rfl rfl (OS.move (v := vI i) rfl h3 ?_)
    refine WR.k rfl rfl rfl (OS.move (v := p_) rfl h ?_)
    have o8 := o5.keep s2 (by decide)
    refine WR.k rfl rfl rfl (OS.nilCheckBx rfl rfl o8 ?_)
    refine WR.k rfl rfl rfl (OS.fieldAddrBx rfl Tryd.runUnderlying77 rfl Tryd.sizeOf38 rfl rfl o8 ?_); intro p_2 a3
    refine WR.k rfl rfl rfl (OS.ld1 (u := sl1.val) rfl Tryd.isAgg38 rfl (o8.ldn a3 (sub_of rfl)) ?_)
    have o9 := o2.keep (s1.t s2) (by decide)
    refine WR.k rfl rfl rfl (OS.lenSl rfl Tryd.runUnderlying38 rfl o9.isSl ?_)
    refine WR.k rfl rfl rfl (OS.bin (a := vI i) (b := vI (s.a.length : Int)) rfl rfl rfl bI_lss ?_)
    refine WR.nil ?_
    refine WC.cond (decide (i < (s.a.length : Int))) rfl (fun hb => ?_) (fun hb => ?_)
    · rw [if_pos hb] at hl
      refine WC.skip ?_
      refine WC.seq ?_
      refine WC.block ?_
      obtain ⟨e1, he1, hl⟩ := bind_some hl
      obtain ⟨ha, hb1, hc⟩ := gt_some he1
      have o10 := o4.keep s2 (by decide)
      refine WC.seq (WC.draw3 (c := c_2) ⟨9, [[], [], [], [], [], [], [], [], []], [[], [], [], [], [], [], [], [], []], [], [[], [0], [1], [2], [], [3, 4], [5], [5, 6], []], [7, 8]⟩ [[], [], [], [], [], [], [], [], []] [[19], [20], [21], [22], [23], [24], [24, 25], [26], [27]] [fun yf yw yc => (yf 19) = p_, fun yf yw yc => (yf 20) = p_, fun yf yw yc => AdrP p_ 1 1 (yf 21), fun yf yw yc => (yf 22) = sl1.val, fun yf yw yc => (yf 23) = vI i, fun yf yw yc => Adr sl1.val (i).toNat 4 (yf 24), fun yf yw yc => AdrP ((yf 24)) 0 1 (yf 25), fun yf yw yc => (yf 26) = .agg (E26.e e1.Owner).toArray, fun yf yw yc => (yf 27) = .agg (E26.e o3).toArray] hmix (by kernel_rfl) (by kernel_rfl) ⟨?_, ?_, ?_, ?_, ?_, ?_, ?_, ?_, ?_, trivial⟩ ⟨fun y1 y2 yw yc yI yw1 yc1 yh ye ys yk => by obtain ⟨ye0, -⟩ := ye; show (y2 19) = p_; rw [ye0]; exact yh, fun y1 y2 yw yc yI yw1 yc1 yh ye ys yk => by obtain ⟨ye0, -⟩ := ye; show (y2 20) = p_; rw [ye0]; exact yh, fun y1 y2 yw yc yI yw1 yc1 yh ye ys yk => by obtain ⟨ye0, -⟩ := ye; show AdrP p_ 1 1 (y2 21); rw [ye0]; exact yh, fun y1 y2 yw yc yI yw1 yc1 yh ye ys yk => by obtain ⟨ye0, -⟩ := ye; show (y2 22) = sl1.val; rw [ye0]; exact yh, fun y1 y2 yw yc yI yw1 yc1 yh ye ys yk => by obtain ⟨ye0, -⟩ := ye; show (y2 23) = vI i; rw [ye0]; exact yh, fun y1 y2 yw yc yI yw1 yc1 yh ye ys yk => by obtain ⟨ye0, -⟩ := ye; show Adr sl1.val (i).toNat 4 (y2 24); rw [ye0]; exact yh, fun y1 y2 yw yc yI yw1 yc1 yh ye ys yk => by obtain ⟨ye0, ye1, -⟩ := ye; show AdrP ((y2 24)) 0 1 (y2 25); rw [ye0, ye1]; exact yh, fun y1 y2 yw yc yI yw1 yc1 yh ye ys yk => by obtain ⟨ye0, -⟩ := ye; show (y2 26) = .agg (E26.e e1.Owner).toArray; rw [ye0]; exact yh, fun y1 y2 yw yc yI yw1 yc1 yh ye ys yk => by obtain ⟨ye0, -⟩ := ye; show (y2 27) = .agg (E26.e o3).toArray; rw [ye0]; exact yh, trivial⟩ ?_)
      · rintro f_2 w_3 c_3 hB hs ⟨-⟩ o ho; obtain rfl : _ = o := Option.some.inj ho
        exact OS.move (v := p_) rfl ((hB 0 (by kernel_rfl)).trans h) ⟨_, St.refl, rfl⟩
      · rintro f_3 w_4 c_4 hB1 hs1 ⟨g, -⟩ o ho; obtain rfl : _ = o := Option.some.inj ho
        replace g : (f_3 19) = p_ := g
        have o11 := o8.keep hs1 (by decide)
        exact OS.nilCheckBx rfl g o11 ⟨_, St.refl, rfl⟩
      · rintro f_4 w_5 c_5 hB2 hs2 ⟨g1, -⟩ o ho; obtain rfl : _ = o := Option.some.inj ho
        replace g1 : (f_4 20) = p_ := g1
        have o12 := o8.keep hs2 (by decide)
        exact OS.fieldAddrBx rfl Tryd.runUnderlying77 rfl Tryd.sizeOf38 rfl g1 o12 (fun _ h => ⟨_, St.refl, h⟩)
      · rintro f_5 w_6 c_6 hB3 hs3 ⟨g2, -⟩ o ho; obtain rfl : _ = o := Option.some.inj ho
        replace g2 : AdrP p_ 1 1 (f_5 21) := g2
        have o13 := o8.keep hs3 (by decide)
        exact OS.ld1 (u := sl1.val) rfl Tryd.isAgg38 rfl (o13.ldn g2 (sub_of rfl)) ⟨_, St.refl, rfl⟩
      · rintro f_6 w_7 c_7 hB4 hs4 ⟨-⟩ o ho; obtain rfl : _ = o := Option.some.inj ho
        exact OS.move (v := vI i) rfl ((hB4 6 (by kernel_rfl)).trans h3) ⟨_, St.refl, rfl⟩
      · rintro f_7 w_8 c_8 hB5 hs5 ⟨g3, g4, -⟩ o ho; obtain rfl : _ = o := Option.some.inj ho
        replace g3 : (f_7 22) = sl1.val := g3
        replace g4 : (f_7 23) = vI i := g4
        have o14 := o9.keep hs5 (by decide)
        exact OS.idx rfl Tryd.runUnderlying38 Tryd.sizeOf35 g3 o14.isSl g4 ha hb1 (fun _ h => ⟨_, St.refl, h⟩)
      · rintro f_8 w_9 c_9 hB6 hs6 ⟨g5, -⟩ o ho; obtain rfl : _ = o := Option.some.inj ho
        replace g5 : Adr sl1.val (i).toNat 4 (f_8 24) := g5
        exact OS.fieldAddrA rfl Tryd.runUnderlying35 rfl Tryd.sizeOf26 rfl rfl g5 (fun _ h => ⟨_, St.refl, h⟩)
      · rintro f_9 w_10 c_10 hB7 hs7 ⟨g6, g7, -⟩ o ho; obtain rfl : _ = o := Option.some.inj ho
        replace g6 : Adr sl1.val (i).toNat 4 (f_9 24) := g6
        replace g7 : AdrP ((f_9 24)) 0 1 (f_9 25) := g7
        have o15 := o9.keep hs7 (by decide)
        exact OS.ldN (us := [vS e1.Owner.Tenant, vS e1.Owner.User]) rfl Tryd.isAgg26 Tryd.sizeOf26 rfl ((o15.ld g6 hc).sub g7 (sub_of rfl)) rfl ⟨_, St.refl, rfl⟩
      · rintro f_10 w_11 c_11 hB8 hs8 ⟨-⟩ o ho; obtain rfl : _ = o := Option.some.inj ho
        have o16 := o4.keep (s2.t hs8) (by decide)
        exact OS.ldN (us := [vS o3.Tenant, vS o3.User]) rfl Tryd.isAgg26 Tryd.sizeOf26 ((hB8 3 (by kernel_rfl)).trans h1) o16.ldAll rfl ⟨_, St.refl, rfl⟩
      · rintro f_11 w_12 c_12 hB9 hs9 ⟨g8, g9, -⟩
        replace g8 : (f_11 26) = .agg (E26.e e1.Owner).toArray := g8
        replace g9 : (f_11 27) = .agg (E26.e o3).toArray := g9
        have h4 := (hB9 0 (by kernel_rfl)).trans h
        have h5 := (hB9 3 (by kernel_rfl)).trans h1
        have h6 := (hB9 5 (by kernel_rfl)).trans h2
        have h7 := (hB9 6 (by kernel_rfl)).trans h3
        refine WR.k rfl rfl rfl (OS.eqSt (us := E26.e e1.Owner) (vs := E26.e o3) rfl (.inr ⟨rfl, rfl⟩) Tryd.eqGuardType26 g8 g9 (fun w => q26 9998 _ _ w) ?_)
        refine WR.nil ?_
        refine WC.cond (!decide (e1.Owner = o3)) rfl (fun hb2 => ?_) (fun hb2 => ?_)
        · rw [if_pos hb2] at hl
          refine WC.region ?_
          refine WR.k rfl rfl rfl (OS.move (v := v_) rfl h6 ?_)
          refine WR.k rfl rfl rfl (OS.move (v := p_) rfl h4 ?_)
          have o17 := o8.keep hs9 (by decide)
          refine WR.k rfl rfl rfl (OS.nilCheckBx rfl rfl o17 ?_)
          refine WR.k rfl rfl rfl (OS.fieldAddrBx rfl Tryd.runUnderlying77 rfl Tryd.sizeOf38 rfl rfl o17 ?_); intro p_3 a7
          refine WR.k rfl rfl rfl (OS.ld1 (u := sl1.val) rfl Tryd.isAgg38 rfl (o17.ldn a7 (sub_of rfl)) ?_)
          refine WR.k rfl rfl rfl (OS.move (v := vI i) rfl h7 ?_)
          have o18 := o9.keep hs9 (by decide)
          obtain ⟨e2, he2, hl⟩ := bind_some hl
          obtain ⟨ha1, hb3, hc1⟩ := gt_some he2
          refine WR.k rfl rfl rfl (OS.idx rfl Tryd.runUnderlying38 Tryd.sizeOf35 rfl o18.isSl rfl ha1 hb3 ?_); intro p_4 a8
          refine WR.k rfl rfl rfl (OS.ldN (us := E35.e e2) rfl Tryd.isAgg35 Tryd.sizeOf35 rfl (o18.ld a8 hc1) rfl ?_)
          obtain ⟨l1, hl1, hl⟩ := bind_some hl
          replace hl1 := (Option.some.inj hl1).symm
          refine WR.k rfl rfl rfl (OS.bslice (E := E35) (c := c_12) 47 ([e2] : List S_api_Consent) [(0, .agg (E35.e e2).toArray)] rfl ⟨rfl, rfl, trivial⟩ (fun _ => by kernel_rfl) rfl (by decide) ?_); intro v_2 w_13 c_13 o19 s3
          replace o19 : Ow E35 47 w_13 c_13 v_2 l1 := by rw [hl1]; exact o19
          have o20 := o6.keep (hs9.t s3) (by decide)
          obtain ⟨a9, ha9, hl⟩ := bind_some hl
          obtain ⟨ha2, ha9⟩ := app_some ha9
          refine WR.k rfl rfl rfl (OS.append (E := E35) (c := c_13) (i := 41) (xs := a1) (ys := l1) rfl Tryd.underlying38 Tryd.underlying38 (.inl rfl) I35 rfl rfl rfl rfl rfl o20 o19.vw.src (lim_bytes (by decide) ha2) (lim_max (b := 56) (by decide) ha2) ?_); intro v_3 w_14 c_14 o21 s4
          replace o21 : Ow E35 41 w_14 c_14 v_3 a9 := by rw [ha9]; exact o21
          refine WR.k rfl rfl rfl (OS.assign (v := v_3) rfl rfl ?_)
          refine WR.nil ?_
          refine WC.region ?_
          refine WR.k rfl rfl rfl (OS.move (v := vI i) rfl h7 ?_)
          refine WR.k rfl rfl rfl (OS.bin (a := vI i) (b := vI (1 : Int)) rfl rfl rfl bI_add ?_)
          refine WR.k rfl rfl rfl (OS.assign (v := vI (W (i + (1 : Int)))) rfl rfl ?_)
          refine WR.nil ?_
          exact ⟨k, by omega, _, _, _, _, hl, h4, h5, rfl, rfl, o21, (((s2.t hs9).t s3).t s4).mono (by decide)⟩
        · rw [if_neg (nt hb2)] at hl
          refine WC.skip ?_
          refine WC.region ?_
          refine WR.k rfl rfl rfl (OS.move (v := vI i) rfl h7 ?_)
          refine WR.k rfl rfl rfl (OS.bin (a := vI i) (b := vI (1 : Int)) rfl rfl rfl bI_add ?_)
          refine WR.k rfl rfl rfl (OS.assign (v := vI (W (i + (1 : Int)))) rfl rfl ?_)
          refine WR.nil ?_
          have o22 := o6.keep hs9 (by decide)
          exact ⟨k, by omega, _, _, _, _, hl, h4, h5, h6, rfl, o22, (s2.t hs9).mono (by decide)⟩
    · rw [if_neg (nt hb)] at hl
      refine WC.exit ?_
      cases hl
      exact ⟨_, _, h, h2, o6, s2.mono (by decide)⟩
  · rintro f_ w_1 ⟨v_1, c_1, h8, h9, o7, s5⟩
    refine WC.seq (WC.region ?_)
    refine WR.k rfl rfl rfl (OS.move (v := p_) rfl h8 ?_)
    have o23 := o5.keep s5 (by decide)
    refine WR.k rfl rfl rfl (OS.nilCheckBx rfl rfl o23 ?_)
    refine WR.k rfl rfl rfl (OS.fieldAddrBx rfl Tryd.runUnderlying77 rfl Tryd.sizeOf38 rfl rfl o23 ?_); intro p_5 a10
    refine WR.k rfl rfl rfl (OS.ld1 (u := sl1.val) rfl Tryd.isAgg38 rfl (o23.ldn a10 (sub_of rfl)) ?_)
    have o24 := o2.keep (s1.t s5) (by decide)
    refine WR.k rfl rfl rfl (OS.lenSl rfl Tryd.runUnderlying38 rfl o24.isSl ?_)
    refine WR.k rfl rfl rfl (OS.move (v := v_1) rfl h9 ?_)
    refine WR.k rfl rfl rfl (OS.lenSl rfl Tryd.runUnderlying38 rfl o7.isSl ?_)
    refine WR.k rfl rfl rfl (OS.bin (a := vI (s.a.length : Int)) (b := vI (a2.length : Int)) rfl rfl rfl bI_sub ?_)
    refine WR.k rfl rfl rfl (OS.assign (v := vI (W ((s.a.length : Int) - (a2.length : Int)))) rfl rfl ?_)
    refine WR.nil ?_
    refine WC.seq (WC.region ?_)
    refine WR.k rfl rfl rfl (OS.move (v := p_) rfl h8 ?_)
    refine WR.k rfl rfl rfl (OS.move (v := v_1) rfl h9 ?_)
    refine WR.k rfl rfl rfl (OS.nilCheckBx rfl rfl o23 ?_)
    refine WR.k rfl rfl rfl (OS.fieldAddrBx rfl Tryd.runUnderlying77 rfl Tryd.sizeOf38 rfl rfl o23 ?_); intro p_6 a11
    obtain ⟨sl2, e3⟩ := isSlv o7.isSl; subst e3
    refine WR.k0 rfl rfl (OS.stBxAt (v := sl2.val) (vs := [sl2.val]) (ws := [sl.val, sl2.val]) rfl Tryd.sizeOf38 rfl rfl rfl o23 a11 rfl (Nat.le_of_ble_eq_true rfl) (one_of rfl) rfl ?_); intro w_15 o25 s6
    refine WR.nil ?_
    refine WC.seq (WC.region ?_)
    refine WR.k rfl rfl rfl (OS.move (v := vI (W ((s.a.length : Int) - (a2.length : Int)))) rfl rfl ?_)
    refine WR.k rfl rfl rfl (OS.assign (v := vI (W ((s.a.length : Int) - (a2.length : Int)))) rfl rfl ?_)
    refine WR.nil ?_
    refine WC.ret ?_
    repeat first | refine thenQ_ret ?_ | refine blkQ_ret ?_
    cases hp
    have o27 := o7.keep s6 (by decide)
    obtain ⟨c_15, s7, o26⟩ := o27.recol 1
    have o28 := o25.keep s7 (by decide)
    have o29 := o1.keep (((s1.t s5).t s6).t s7) (by decide)
    exact fnQ.l1 (fn := Tryd.f36) rfl (.inl ⟨_, rfl, rfl⟩) ⟨_, _, _, rfl, (((s1.t s5).t s6).t s7).leave hcw (by decide), o28, o29, o26.vw⟩

-- (*holdfast/holdfastref13.Store).May
set_option maxHeartbeats 4000000 in
theorem W37 (K : Nat) (w0 : World) (cw : Col) (hcw : ∀ b, cw b < 40) {s : S_holdfastref13_Store} {o3 : S_api_Owner} {client : List UInt8} {redirect : List UInt8} {scopes : UInt8} {r : Int} (hp : holdfastref13_Store_May K s o3 client redirect scopes = some r) {sl : Sl} {sl1 : Sl} {p_ : Value} (o : Bx 3 w0 cw p_ [sl.val, sl1.val]) (o1 : Vw E32 1 w0 cw sl.val s.c_) (o2 : Vw E35 1 w0 cw sl1.val s.a) :
    Calls Tryd.prog 37 [p_, .agg (E26.e o3).toArray, vS client, vS redirect, vU8 scopes].toArray w0 fun e w1 => ∃ (d : Col), e = .returned (vI r) ∧ St [] w0 cw w1 d := by
  refine calls_intro Tryd.func37 rfl Tryd.ntmps37 rfl ?_
  unfold holdfastref13_Store_May at hp
  refine WC.seq (WC.region ?_)
  refine WR.k rfl rfl rfl (OS.boxBx (us := [vS o3.Tenant, vS o3.User]) (c := cw) 40 rfl rfl rfl ?_); intro p_1 w_ c_ o4 s1
  refine WR.k rfl rfl rfl (OS.assign (v := vI (0 : Int)) rfl rfl ?_)
  refine WR.nil ?_
  refine WC.seq ?_
  refine WC.seq (WC.region ?_)
  refine WR.k rfl rfl rfl (OS.move (v := p_) rfl rfl ?_)
  have o5 := o.keep s1 (by decide)
  refine WR.k rfl rfl rfl (OS.eqPtrS rfl (.inl ⟨rfl, rfl⟩) Tryd.underlying45 rfl o5 rfl ?_)
  refine WR.nil ?_
  refine WC.condF rfl ?_
  refine WC.skip ?_
  have o6 := o1.keep s1 (by decide)
  have o7 := o2.keep s1 (by decide)
  obtain ⟨r_, hr_, hp⟩ := bind_some hp
  refine WC.seq (WC.draw3 (c := c_) ⟨8, [[], [], [], [], [], [], [], []], [[], [], [], [], [], [], [], []], [], [[], [], [1], [], [0, 2, 3], [], [], []], [4, 5, 6, 7]⟩ [[], [], [], [], [], [], [], []] [[15], [16], [17], [18], [19], [20], [21], [22]] [fun yf yw yc => (yf 15) = p_, fun yf yw yc => AdrP p_1 0 1 (yf 16), fun yf yw yc => (yf 17) = vS o3.Tenant, fun yf yw yc => (yf 18) = vS client, fun yf yw yc => (yf 19) = vI r_, fun yf yw yc => (yf 20) = p_, fun yf yw yc => (yf 21) = .agg (E26.e o3).toArray, fun yf yw yc => (yf 22) = vS client] hmix (by kernel_rfl) (by kernel_rfl) ⟨?_, ?_, ?_, ?_, ?_, ?_, ?_, ?_, trivial⟩ ⟨fun y1 y2 yw yc yI yw1 yc1 yh ye ys yk => by obtain ⟨ye0, -⟩ := ye; show (y2 15) = p_; rw [ye0]; exact yh, fun y1 y2 yw yc yI yw1 yc1 yh ye ys yk => by obtain ⟨ye0, -⟩ := ye; show AdrP p_1 0 1 (y2 16); rw [ye0]; exact yh, fun y1 y2 yw yc yI yw1 yc1 yh ye ys yk => by obtain ⟨ye0, -⟩ := ye; show (y2 17) = vS o3.Tenant; rw [ye0]; exact yh, fun y1 y2 yw yc yI yw1 yc1 yh ye ys yk => by obtain ⟨ye0, -⟩ := ye; show (y2 18) = vS client; rw [ye0]; exact yh, fun y1 y2 yw yc yI yw1 yc1 yh ye ys yk => by obtain ⟨ye0, -⟩ := ye; show (y2 19) = vI r_; rw [ye0]; exact yh, fun y1 y2 yw yc yI yw1 yc1 yh ye ys yk => by obtain ⟨ye0, -⟩ := ye; show (y2 20) = p_; rw [ye0]; exact yh, fun y1 y2 yw yc yI yw1 yc1 yh ye ys yk => by obtain ⟨ye0, -⟩ := ye; show (y2 21) = .agg (E26.e o3).toArray; rw [ye0]; exact yh, fun y1 y2 yw yc yI yw1 yc1 yh ye ys yk => by obtain ⟨ye0, -⟩ := ye; show (y2 22) = vS client; rw [ye0]; exact yh, trivial⟩ ?_)
  · rintro f_ w_1 c_1 hB hs ⟨-⟩ o ho; obtain rfl : _ = o := Option.some.inj ho
    exact OS.move (v := p_) rfl ((hB 0 (by kernel_rfl)).trans (show _ = p_ from rfl)) ⟨_, St.refl, rfl⟩
  · rintro f_1 w_2 c_2 hB1 hs1 ⟨-⟩ o ho; obtain rfl : _ = o := Option.some.inj ho
    have o8 := o4.keep hs1 (by decide)
    exact OS.fieldAddrBx rfl Tryd.runUnderlying26 rfl Tryd.sizeOf9 rfl ((hB1 6 (by kernel_rfl)).trans (show _ = p_1 from rfl)) o8 (fun _ h => ⟨_, St.refl, h⟩)
  · rintro f_2 w_3 c_3 hB2 hs2 ⟨g, -⟩ o ho; obtain rfl : _ = o := Option.some.inj ho
    replace g : AdrP p_1 0 1 (f_2 16) := g
    have o9 := o4.keep hs2 (by decide)
    exact OS.ld1 (u := vS o3.Tenant) rfl Tryd.isAgg9 rfl (o9.ldn g (sub_of rfl)) ⟨_, St.refl, rfl⟩
  · rintro f_3 w_4 c_4 hB3 hs3 ⟨-⟩ o ho; obtain rfl : _ = o := Option.some.inj ho
    exact OS.move (v := vS client) rfl ((hB3 2 (by kernel_rfl)).trans (show _ = vS client from rfl)) ⟨_, St.refl, rfl⟩
  · rintro f_4 w_5 c_5 hB4 hs4 ⟨g1, g2, g3, -⟩ o ho; obtain rfl : _ = o := Option.some.inj ho
    replace g1 : (f_4 15) = p_ := g1
    replace g2 : (f_4 17) = vS o3.Tenant := g2
    replace g3 : (f_4 18) = vS client := g3
    have o10 := o5.keep hs4 (by decide)
    have o11 := o1.keep (s1.t hs4) (by decide)
    have o12 := o2.keep (s1.t hs4) (by decide)
    refine OS.callF (vs := [p_, vS o3.Tenant, vS client]) rfl ⟨g1, g2, g3, trivial⟩ Tryd.call45 ((W45 (sl := sl) (sl1 := sl1) K w_5 (rcc [3] c_5) (rcc_lt c_5 rfl) hr_ (o10.tr (rc_tr (by decide))) (o11.tr (rc_tr rfl)) (o12.tr (rc_tr rfl))).mono ?_)
    rintro _ yw ⟨yd, rfl, ys⟩
    exact ⟨_, rfl, _, ys.mg2 (I := []) (sh := 10000) rfl, rfl⟩
  · rintro f_5 w_6 c_6 hB5 hs5 ⟨-⟩ o ho; obtain rfl : _ = o := Option.some.inj ho
    exact OS.move (v := p_) rfl ((hB5 0 (by kernel_rfl)).trans (show _ = p_ from rfl)) ⟨_, St.refl, rfl⟩
  · rintro f_6 w_7 c_7 hB6 hs6 ⟨-⟩ o ho; obtain rfl : _ = o := Option.some.inj ho
    have o13 := o4.keep hs6 (by decide)
    exact OS.ldN (us := [vS o3.Tenant, vS o3.User]) rfl Tryd.isAgg26 Tryd.sizeOf26 ((hB6 6 (by kernel_rfl)).trans (show _ = p_1 from rfl)) o13.ldAll rfl ⟨_, St.refl, rfl⟩
  · rintro f_7 w_8 c_8 hB7 hs7 ⟨-⟩ o ho; obtain rfl : _ = o := Option.some.inj ho
    exact OS.move (v := vS client) rfl ((hB7 2 (by kernel_rfl)).trans (show _ = vS client from rfl)) ⟨_, St.refl, rfl⟩
  · rintro f_8 w_9 c_9 hB8 hs8 ⟨g4, g5, g6, g7, -⟩
    replace g4 : (f_8 19) = vI r_ := g4
    replace g5 : (f_8 20) = p_ := g5
    replace g6 : (f_8 21) = .agg (E26.e o3).toArray := g6
    replace g7 : (f_8 22) = vS client := g7
    have h := (hB8 0 (by kernel_rfl)).trans (show _ = p_ from rfl)
    have h1 := (hB8 3 (by kernel_rfl)).trans (show _ = vS redirect from rfl)
    have h2 := (hB8 4 (by kernel_rfl)).trans (show _ = vU8 scopes from rfl)
    have o14 := o5.keep hs8 (by decide)
    have o15 := o6.keep hs8 (by decide)
    have o16 := o7.keep hs8 (by decide)
    obtain ⟨r_1, hr_1, hp⟩ := bind_some hp
    refine WR.k rfl rfl rfl (OS.callF (vs := [p_, .agg (E26.e o3).toArray, vS client]) rfl ⟨g5, g6, g7, trivial⟩ Tryd.call47 ((W47 (sl := sl) (sl1 := sl1) K w_9 (rcc [3] c_9) (rcc_lt c_9 rfl) hr_1 (o14.tr (rc_tr (by decide))) (o15.tr (rc_tr rfl)) (o16.tr (rc_tr rfl))).mono ?_))
    rintro _ w_10 ⟨d1, rfl, s2⟩
    refine ⟨_, rfl, ?_⟩
    obtain ⟨c_10, s3⟩ : ∃ c_10, St [] w_9 c_9 w_10 c_10 := ⟨_, s2.mg2 (sh := 20000) rfl⟩
    refine WR.k rfl rfl rfl (OS.assign (v := vI r_) rfl g4 ?_)
    refine WR.k rfl rfl rfl (OS.assign (v := vI r_1) rfl rfl ?_)
    refine WR.nil ?_
    refine WC.seq ?_
    refine WC.block ?_
    refine WC.seq (WC.region ?_)
    refine WR.k rfl rfl rfl (OS.move (v := vI r_) rfl rfl ?_)
    refine WR.k rfl rfl rfl (OS.bin (a := vI r_) (b := vI (0 : Int)) rfl rfl rfl bI_lss ?_)
    refine WR.k rfl rfl rfl (OS.move (v := vB (decide (r_ < (0 : Int)))) rfl rfl ?_)
    refine WR.cut2 3 (fun f_9 w_11 => f_9 0 = p_ ∧ f_9 3 = vS redirect ∧ f_9 4 = vU8 scopes ∧ f_9 11 = vI r_ ∧ f_9 12 = vI r_1 ∧ f_9 30 = vB ((decide (r_ < (0 : Int))) || (decide (r_1 < (0 : Int)))) ∧ w_10 = w_11) ?_ ?_
    · rcases Bool.eq_false_or_eq_true (decide (r_ < (0 : Int))) with hg | hg
      · refine WR.gF rfl rfl (vb_t rfl hg) rfl rfl ?_
        refine WR.gF rfl rfl (vb_t rfl hg) rfl rfl ?_
        refine WR.k rfl rfl rfl (OS.pickT rfl (vb_t rfl hg) rfl ?_)
        refine WR.nil ?_
        exact ⟨h, h1, h2, rfl, rfl, (or_t hg), rfl⟩
      · refine WR.kT rfl rfl (vb_f rfl hg) rfl rfl (OS.move (v := vI r_1) rfl rfl ?_)
        refine WR.kT rfl rfl (vb_f rfl hg) rfl rfl (OS.bin (a := vI r_1) (b := vI (0 : Int)) rfl rfl rfl bI_lss ?_)
        refine WR.k rfl rfl rfl (OS.pickF rfl (vb_f rfl hg) rfl ?_)
        refine WR.nil ?_
        exact ⟨h, h1, h2, rfl, rfl, (or_f hg), rfl⟩
    · rintro f_9 _ ⟨h3, h4, h5, h6, h7, h8, rfl⟩
      refine WR.k rfl rfl rfl (OS.assign (v := vB ((decide (r_ < (0 : Int))) || (decide (r_1 < (0 : Int))))) rfl h8 ?_)
      refine WR.nil ?_
      refine WC.cond ((decide (r_ < (0 : Int))) || (decide (r_1 < (0 : Int)))) rfl (fun hb => ?_) (fun hb => ?_)
      · rw [if_pos hb] at hp
        refine WC.seq (WC.region ?_)
        refine WR.k rfl rfl rfl (OS.assign (v := vI (4 : Int)) rfl rfl ?_)
        refine WR.nil ?_
        refine WC.ret ?_
        repeat first | refine thenQ_ret ?_ | refine blkQ_ret ?_
        cases hp
        exact fnQ.l1 (fn := Tryd.f37) rfl (.inl ⟨_, rfl, rfl⟩) ⟨_, rfl, ((s1.t hs8).t s3).leave hcw (by decide)⟩
      · rw [if_neg (nt hb)] at hp
        refine WC.seq (WC.region ?_)
        refine WR.k rfl rfl rfl (OS.move (v := p_) rfl h3 ?_)
        have o17 := o14.keep s3 (by decide)
        refine WR.k rfl rfl rfl (OS.nilCheckBx rfl rfl o17 ?_)
        refine WR.k rfl rfl rfl (OS.fieldAddrBx rfl Tryd.runUnderlying77 rfl Tryd.sizeOf36 rfl rfl o17 ?_); intro p_2 a2
        refine WR.k rfl rfl rfl (OS.ld1 (u := sl.val) rfl Tryd.isAgg36 rfl (o17.ldn a2 (sub_of rfl)) ?_)
        refine WR.k rfl rfl rfl (OS.move (v := vI r_) rfl h6 ?_)
        have o18 := o15.keep s3 (by decide)
        obtain ⟨e1, he1, hp⟩ := bind_some hp
        obtain ⟨ha, hb1, hc⟩ := gt_some he1
        refine WR.k rfl rfl rfl (OS.idx rfl Tryd.runUnderlying36 Tryd.sizeOf32 rfl o18.isSl rfl ha hb1 ?_); intro p_3 a3
        refine WR.k rfl rfl rfl (OS.fieldAddrA rfl Tryd.runUnderlying32 rfl Tryd.sizeOf9 rfl rfl a3 ?_); intro p_4 a4
        refine WR.k rfl rfl rfl (OS.ld1 (u := vS e1.Redirect) rfl Tryd.isAgg9 rfl ((o18.ld a3 hc).sub a4 (sub_of rfl)) ?_)
        refine WR.k rfl rfl rfl (OS.move (v := vS redirect) rfl h4 ?_)
        refine WR.k rfl rfl rfl (OS.bin (a := vS e1.Redirect) (b := vS redirect) rfl rfl rfl bS_neq ?_)
        refine WR.k rfl rfl rfl (OS.assign (v := vB (!decide (e1.Redirect = redirect))) rfl rfl ?_)
        refine WR.nil ?_
        refine WC.cond (!decide (e1.Redirect = redirect)) rfl (fun hb2 => ?_) (fun hb2 => ?_)
        · rw [if_pos hb2] at hp
          refine WC.seq (WC.region ?_)
          refine WR.k rfl rfl rfl (OS.assign (v := vI (10 : Int)) rfl rfl ?_)
          refine WR.nil ?_
          refine WC.ret ?_
          repeat first | refine thenQ_ret ?_ | refine blkQ_ret ?_
          cases hp
          exact fnQ.l1 (fn := Tryd.f37) rfl (.inl ⟨_, rfl, rfl⟩) ⟨_, rfl, ((s1.t hs8).t s3).leave hcw (by decide)⟩
        · rw [if_neg (nt hb2)] at hp
          refine WC.seq (WC.region ?_)
          refine WR.k rfl rfl rfl (OS.move (v := vU8 scopes) rfl h5 ?_)
          refine WR.k rfl rfl rfl (OS.move (v := p_) rfl h3 ?_)
          refine WR.k rfl rfl rfl (OS.nilCheckBx rfl rfl o17 ?_)
          refine WR.k rfl rfl rfl (OS.fieldAddrBx rfl Tryd.runUnderlying77 rfl Tryd.sizeOf38 rfl rfl o17 ?_); intro p_5 a5
          refine WR.k rfl rfl rfl (OS.ld1 (u := sl1.val) rfl Tryd.isAgg38 rfl (o17.ldn a5 (sub_of rfl)) ?_)
          refine WR.k rfl rfl rfl (OS.move (v := vI r_1) rfl h7 ?_)
          have o19 := o16.keep s3 (by decide)
          obtain ⟨e2, he2, hp⟩ := bind_some hp
          obtain ⟨ha1, hb3, hc1⟩ := gt_some he2
          refine WR.k rfl rfl rfl (OS.idx rfl Tryd.runUnderlying38 Tryd.sizeOf35 rfl o19.isSl rfl ha1 hb3 ?_); intro p_6 a6
          refine WR.k rfl rfl rfl (OS.fieldAddrA rfl Tryd.runUnderlying35 rfl Tryd.sizeOf30 rfl rfl a6 ?_); intro p_7 a7
          refine WR.k rfl rfl rfl (OS.ld1 (u := vU8 e2.Scopes) rfl Tryd.isAgg30 rfl ((o19.ld a6 hc1).sub a7 (sub_of rfl)) ?_)
          refine WR.k rfl rfl rfl (OS.bin (a := vU8 scopes) (b := vU8 e2.Scopes) rfl rfl rfl b8_and ?_)
          refine WR.k rfl rfl rfl (OS.move (v := vU8 scopes) rfl h5 ?_)
          refine WR.k rfl rfl rfl (OS.bin (a := vU8 (scopes &&& e2.Scopes)) (b := vU8 scopes) rfl rfl rfl b8_neq ?_)
          refine WR.k rfl rfl rfl (OS.assign (v := vB (!decide (scopes &&& e2.Scopes = scopes))) rfl rfl ?_)
          refine WR.nil ?_
          refine WC.cond (!decide (scopes &&& e2.Scopes = scopes)) rfl (fun hb4 => ?_) (fun hb4 => ?_)
          · rw [if_pos hb4] at hp
            refine WC.seq (WC.region ?_)
            refine WR.k rfl rfl rfl (OS.assign (v := vI (14 : Int)) rfl rfl ?_)
            refine WR.nil ?_
            refine WC.ret ?_
            repeat first | refine thenQ_ret ?_ | refine blkQ_ret ?_
            cases hp
            exact fnQ.l1 (fn := Tryd.f37) rfl (.inl ⟨_, rfl, rfl⟩) ⟨_, rfl, ((s1.t hs8).t s3).leave hcw (by decide)⟩
          · rw [if_neg (nt hb4)] at hp
            refine WC.skip ?_
            refine WC.seq (WC.region ?_)
            refine WR.k rfl rfl rfl (OS.assign (v := vI (0 : Int)) rfl rfl ?_)
            refine WR.nil ?_
            refine WC.ret ?_
            repeat first | refine thenQ_ret ?_ | refine blkQ_ret ?_
            cases hp
            exact fnQ.l1 (fn := Tryd.f37) rfl (.inl ⟨_, rfl, rfl⟩) ⟨_, rfl, ((s1.t hs8).t s3).leave hcw (by decide)⟩

-- holdfast/holdfastlaw13.do
set_option maxHeartbeats 4000000 in
theorem W14 (K : Nat) (w0 : World) (cw : Col) (hcw : ∀ b, cw b < 40) {s : S_grant_Store} {r_ : S_holdfastref13_Store} {x : S_holdfastlaw13_Deed} {r : Bool × S_grant_Store × S_holdfastref13_Store} (hp : holdfastlaw13_do K s r_ x = some r) {b : Nat} {b1 : Nat} {p_ : Value} (o : Bx 3 w0 cw p_ [(.map (some b)), (.map (some b1))]) (o1 : Mp kv64 (VR.flat vv32) 4 w0 cw (.map (some b)) s.clients) (o2 : Mp kv67 (VR.flat vv30) 5 w0 cw (.map (some b1)) s.consents) {sl : Sl} {sl1 : Sl} {p_1 : Value} (o3 : Bx 6 w0 cw p_1 [sl.val, sl1.val]) (o4 : Vw E32 1 w0 cw sl.val r_.c_) (o5 : Vw E35 1 w0 cw sl1.val r_.a) :
    Calls Tryd.prog 14 [p_, p_1, .agg (E44.e x).toArray].toArray w0 fun e w1 => ∃ (b14 : Nat) (b15 : Nat) (sl14 : Sl) (sl15 : Sl) (d : Col), e = .returned (vB r.1) ∧ St [3, 4, 5, 6] w0 cw w1 d ∧ Bx 3 w1 d p_ [(.map (some b14)), (.map (some b15))] ∧ Mp kv64 (VR.flat vv32) 4 w1 d (.map (some b14)) r.2.1.clients ∧ Mp kv67 (VR.flat vv30) 5 w1 d (.map (some b15)) r.2.1.consents ∧ Bx 6 w1 d p_1 [sl14.val, sl15.val] ∧ Vw E32 1 w1 d sl14.val r.2.2.c_ ∧ Vw E35 1 w1 d sl15.val r.2.2.a := by
  refine calls_intro Tryd.func14 rfl Tryd.ntmps14 rfl ?_
  unfold holdfastlaw13_do at hp
  refine WC.seq (WC.region ?_)
  refine WR.k rfl rfl rfl (OS.boxBx (us := [vI x.Kind, vS x.Owner.Tenant, vS x.Owner.User, vS x.Client, vS x.Redirect, vU8 x.Scopes]) (c := cw) 40 rfl rfl rfl ?_); intro p_2 w_ c_ o6 s1
  refine WR.k rfl rfl rfl (OS.assign (v := vB false) rfl rfl ?_)
  refine WR.nil ?_
  refine WC.seq (WC.region ?_)
  refine WR.k rfl rfl rfl (OS.fieldAddrBx rfl Tryd.runUnderlying44 rfl Tryd.sizeOf26 rfl rfl o6 ?_); intro p_3 a1
  refine WR.k rfl rfl rfl (OS.fieldAddrP rfl Tryd.runUnderlying26 rfl Tryd.sizeOf9 rfl rfl a1 ?_); intro p_4 a2
  refine WR.k rfl rfl rfl (OS.ld1 (u := vS x.Owner.Tenant) rfl Tryd.isAgg9 rfl (o6.ldn a2 (sub_of rfl)) ?_)
  refine WR.k rfl rfl rfl (OS.assign (v := vS x.Owner.Tenant) rfl rfl ?_)
  refine WR.nil ?_
  refine WC.seq ?_
  refine WC.seq (WC.region ?_)
  refine WR.k rfl rfl rfl (OS.fieldAddrBx rfl Tryd.runUnderlying44 rfl Tryd.sizeOf3 rfl rfl o6 ?_); intro p_5 a3
  refine WR.k rfl rfl rfl (OS.ld1 (u := vI x.Kind) rfl Tryd.isAgg3 rfl (o6.ldn a3 (sub_of rfl)) ?_)
  refine WR.nil ?_
  refine WC.block ?_
  refine WC.seq (WC.region ?_)
  refine WR.k rfl rfl rfl (OS.bin (a := vI x.Kind) (b := vI (0 : Int)) rfl rfl rfl bI_eql ?_)
  refine WR.k rfl rfl rfl (OS.assign (v := vB (decide (x.Kind = (0 : Int)))) rfl rfl ?_)
  refine WR.nil ?_
  refine WC.cond (decide (x.Kind = (0 : Int))) rfl (fun hb => ?_) (fun hb => ?_)
  · rw [if_pos hb] at hp
    refine WC.seq (WC.region ?_)
    refine WR.k rfl rfl rfl (OS.move (v := vS x.Owner.Tenant) rfl rfl ?_)
    refine WR.k rfl rfl rfl (OS.fieldAddrBx rfl Tryd.runUnderlying44 rfl Tryd.sizeOf9 rfl rfl o6 ?_); intro p_6 a4
    refine WR.k rfl rfl rfl (OS.ld1 (u := vS x.Client) rfl Tryd.isAgg9 rfl (o6.ldn a4 (sub_of rfl)) ?_)
    refine WR.k rfl rfl rfl (OS.fieldAddrBx rfl Tryd.runUnderlying44 rfl Tryd.sizeOf9 rfl rfl o6 ?_); intro p_7 a5
    refine WR.k rfl rfl rfl (OS.ld1 (u := vS x.Redirect) rfl Tryd.isAgg9 rfl (o6.ldn a5 (sub_of rfl)) ?_)
    refine WR.k rfl rfl rfl (OS.fieldAddrBx rfl Tryd.runUnderlying44 rfl Tryd.sizeOf30 rfl rfl o6 ?_); intro p_8 a6
    refine WR.k rfl rfl rfl (OS.ld1 (u := vU8 x.Scopes) rfl Tryd.isAgg30 rfl (o6.ldn a6 (sub_of rfl)) ?_)
    refine WR.k rfl rfl rfl (OS.build (v := .agg (E32.e (⟨x.Owner.Tenant, x.Client, x.Redirect, x.Scopes⟩ : S_api_Client)).toArray) [(0, vS x.Owner.Tenant), (1, vS x.Client), (2, vS x.Redirect), (3, vU8 x.Scopes)] rfl ⟨rfl, rfl, rfl, rfl, rfl, rfl, rfl, rfl, trivial⟩ (fun _ => by kernel_rfl) ?_)
    refine WR.k rfl rfl rfl (OS.allocBx (us := [vS ([] : List UInt8), vS ([] : List UInt8), vS ([] : List UInt8), vU8 (0 : UInt8)]) (c := c_) 41 rfl Tryd.zeroValue32 rfl ?_); intro p_9 w_1 c_1 o7 s2
    refine WR.k0 rfl rfl (OS.stBxAll (v := .agg (E32.e (⟨x.Owner.Tenant, x.Client, x.Redirect, x.Scopes⟩ : S_api_Client)).toArray) (ws := [vS x.Owner.Tenant, vS x.Client, vS x.Redirect, vU8 x.Scopes]) rfl Tryd.sizeOf32 rfl rfl rfl o7 rfl rfl (one_of rfl) ?_); intro w_2 o8 s3
    refine WR.nil ?_
    have o9 := o.keep ((s1.t s2).t s3) (by decide)
    have o10 := o1.keep ((s1.t s2).t s3) (by decide) (by decide)
    have o11 := o2.keep ((s1.t s2).t s3) (by decide) (by decide)
    obtain ⟨r_1, hr_1, hp⟩ := bind_some hp
    refine WC.seq (WC.draw3 (c := c_1) ⟨5, [[], [], [1, 3, 4, 5], [], []], [[], [], [3, 4, 5], [], []], [3, 4, 5], [[], [], [0, 1], [], []], [2, 3, 4]⟩ [[], [], [], [3, 4, 5], [3, 4, 5]] [[29], [30], [31], [32], [33]] [fun yf yw yc => (yf 29) = p_, fun yf yw yc => (yf 30) = .agg (E32.e (⟨x.Owner.Tenant, x.Client, x.Redirect, x.Scopes⟩ : S_api_Client)).toArray, fun yf yw yc => ∃ (b2 : Nat) (b3 : Nat), (yf 31) = vI r_1.1 ∧ Bx 3 yw yc p_ [(.map (some b2)), (.map (some b3))] ∧ Mp kv64 (VR.flat vv32) 4 yw yc (.map (some b2)) r_1.2.clients ∧ Mp kv67 (VR.flat vv30) 5 yw yc (.map (some b3)) r_1.2.consents, fun yf yw yc => (yf 32) = p_1, fun yf yw yc => (yf 33) = .agg (E32.e (⟨x.Owner.Tenant, x.Client, x.Redirect, x.Scopes⟩ : S_api_Client)).toArray] hmix (by kernel_rfl) (by kernel_rfl) ⟨?_, ?_, ?_, ?_, ?_, trivial⟩ ⟨fun y1 y2 yw yc yI yw1 yc1 yh ye ys yk => by obtain ⟨ye0, -⟩ := ye; show (y2 29) = p_; rw [ye0]; exact yh, fun y1 y2 yw yc yI yw1 yc1 yh ye ys yk => by obtain ⟨ye0, -⟩ := ye; show (y2 30) = .agg (E32.e (⟨x.Owner.Tenant, x.Client, x.Redirect, x.Scopes⟩ : S_api_Client)).toArray; rw [ye0]; exact yh, fun y1 y2 yw yc yI yw1 yc1 yh ye ys yk => by obtain ⟨ye0, -⟩ := ye; obtain ⟨b2, b3, yg, o12, o13, o14⟩ := yh; exact ⟨b2, b3, (by rw [ye0]; exact yg), o12.keep ys (yk _ (by simp)), o13.keep ys (yk _ (by simp)) (yk _ (by simp)), o14.keep ys (yk _ (by simp)) (yk _ (by simp))⟩, fun y1 y2 yw yc yI yw1 yc1 yh ye ys yk => by obtain ⟨ye0, -⟩ := ye; show (y2 32) = p_1; rw [ye0]; exact yh, fun y1 y2 yw yc yI yw1 yc1 yh ye ys yk => by obtain ⟨ye0, -⟩ := ye; show (y2 33) = .agg (E32.e (⟨x.Owner.Tenant, x.Client, x.Redirect, x.Scopes⟩ : S_api_Client)).toArray; rw [ye0]; exact yh, trivial⟩ ?_)
    · rintro f_ w_3 c_2 hB hs ⟨-⟩ o ho; obtain rfl : _ = o := Option.some.inj ho
      exact OS.move (v := p_) rfl ((hB 0 (by kernel_rfl)).trans (show _ = p_ from rfl)) ⟨_, St.refl, rfl⟩
    · rintro f_1 w_4 c_3 hB1 hs1 ⟨-⟩ o ho; obtain rfl : _ = o := Option.some.inj ho
      have o15 := o8.keep hs1 (by decide)
      exact OS.ldN (us := [vS x.Owner.Tenant, vS x.Client, vS x.Redirect, vU8 x.Scopes]) rfl Tryd.isAgg32 Tryd.sizeOf32 ((hB1 8 (by kernel_rfl)).trans (show _ = p_9 from rfl)) o15.ldAll rfl ⟨_, St.refl, rfl⟩
    · rintro f_2 w_5 c_4 hB2 hs2 ⟨g, g1, -⟩ o ho; obtain rfl : _ = o := Option.some.inj ho
      replace g : (f_2 29) = p_ := g
      replace g1 : (f_2 30) = .agg (E32.e (⟨x.Owner.Tenant, x.Client, x.Redirect, x.Scopes⟩ : S_api_Client)).toArray := g1
      have o16 := o.keep (((s1.t s2).t s3).t hs2) (by decide)
      have o17 := o1.keep (((s1.t s2).t s3).t hs2) (by decide) (by decide)
      have o18 := o2.keep (((s1.t s2).t s3).t hs2) (by decide) (by decide)
      refine OS.callF (vs := [p_, .agg (E32.e (⟨x.Owner.Tenant, x.Client, x.Redirect, x.Scopes⟩ : S_api_Client)).toArray]) rfl ⟨g, g1, trivial⟩ Tryd.call8 ((W8 K w_5 (rcc [3, 4, 5] c_4) (rcc_lt c_4 rfl) hr_1 (o16.tr (rc_tr (by decide))) (o17.tr (rc_tr (by decide))) (o18.tr (rc_tr (by decide)))).mono ?_)
      rintro _ yw ⟨b2, b3, yd, rfl, ys, o12, o13, o14⟩
      exact ⟨_, rfl, _, ys.mg2 (I := [3, 4, 5]) (sh := 10000) rfl, b2, b3, rfl, o12.tr (mg2_back ys rfl), o13.tr (mg2_back ys rfl), o14.tr (mg2_back ys rfl)⟩
    · rintro f_3 w_6 c_5 hB3 hs3 ⟨-⟩ o ho; obtain rfl : _ = o := Option.some.inj ho
      exact OS.move (v := p_1) rfl ((hB3 1 (by kernel_rfl)).trans (show _ = p_1 from rfl)) ⟨_, St.refl, rfl⟩
    · rintro f_4 w_7 c_6 hB4 hs4 ⟨-⟩ o ho; obtain rfl : _ = o := Option.some.inj ho
      have o19 := o8.keep hs4 (by decide)
      exact OS.ldN (us := [vS x.Owner.Tenant, vS x.Client, vS x.Redirect, vU8 x.Scopes]) rfl Tryd.isAgg32 Tryd.sizeOf32 ((hB4 8 (by kernel_rfl)).trans (show _ = p_9 from rfl)) o19.ldAll rfl ⟨_, St.refl, rfl⟩
    · rintro f_5 w_8 c_7 hB5 hs5 ⟨g2, g3, g4, -⟩
      replace g2 : ∃ (b2 : Nat) (b3 : Nat), (f_5 31) = vI r_1.1 ∧ Bx 3 w_8 c_7 p_ [(.map (some b2)), (.map (some b3))] ∧ Mp kv64 (VR.flat vv32) 4 w_8 c_7 (.map (some b2)) r_1.2.clients ∧ Mp kv67 (VR.flat vv30) 5 w_8 c_7 (.map (some b3)) r_1.2.consents := g2
      obtain ⟨b2, b3, g2, o12, o13, o14⟩ := g2
      replace g3 : (f_5 32) = p_1 := g3
      replace g4 : (f_5 33) = .agg (E32.e (⟨x.Owner.Tenant, x.Client, x.Redirect, x.Scopes⟩ : S_api_Client)).toArray := g4
      have h := (hB5 0 (by kernel_rfl)).trans (show _ = p_ from rfl)
      have h1 := (hB5 1 (by kernel_rfl)).trans (show _ = p_1 from rfl)
      have o20 := o3.keep (((s1.t s2).t s3).t hs5) (by decide)
      have o21 := o4.keep (((s1.t s2).t s3).t hs5) (by decide)
      have o22 := o5.keep (((s1.t s2).t s3).t hs5) (by decide)
      obtain ⟨r_2, hr_2, hp⟩ := bind_some hp
      refine WR.k rfl rfl rfl (OS.callF (vs := [p_1, .agg (E32.e (⟨x.Owner.Tenant, x.Client, x.Redirect, x.Scopes⟩ : S_api_Client)).toArray]) rfl ⟨g3, g4, trivial⟩ Tryd.call30 ((W30 (sl := sl) (sl1 := sl1) K w_8 (rcc [6] c_7) (rcc_lt c_7 rfl) hr_2 (o20.tr (rc_tr (by decide))) (o21.tr (rc_tr rfl)) (o22.tr (rc_tr rfl))).mono ?_))
      rintro _ w_9 ⟨sl2, sl3, d1, rfl, s4, o23, o24, o25⟩
      refine ⟨_, rfl, ?_⟩
      obtain ⟨c_8, s5, o23, o24, o25⟩ : ∃ c_8, St [6] w_8 c_7 w_9 c_8 ∧ Bx 6 w_9 c_8 p_1 [sl2.val, sl3.val] ∧ Vw E32 1 w_9 c_8 sl2.val r_2.2.c_ ∧ Vw E35 1 w_9 c_8 sl3.val r_2.2.a := ⟨_, s4.mg2 (sh := 20000) rfl, o23.tr (mg2_back s4 rfl), o24.tr (mg2_back s4 rfl), o25.tr (mg2_back s4 rfl)⟩
      refine WR.k rfl rfl rfl (OS.bin (a := vI r_1.1) (b := vI r_2.1) rfl g2 rfl bI_eql ?_)
      refine WR.k rfl rfl rfl (OS.assign (v := vB (decide (r_1.1 = r_2.1))) rfl rfl ?_)
      refine WR.nil ?_
      refine WC.ret ?_
      repeat first | refine thenQ_ret ?_ | refine blkQ_ret ?_
      cases hp
      have o26 := o12.keep s5 (by decide)
      have o27 := o13.keep s5 (by decide) (by decide)
      have o28 := o14.keep s5 (by decide) (by decide)
      exact fnQ.l1 (fn := Tryd.f14) rfl (.inl ⟨_, rfl, rfl⟩) ⟨_, _, _, _, _, rfl, ((((s1.t s2).t s3).t hs5).t s5).leave hcw (by decide), o26, o27, o28, o23, o24, o25⟩
  · rw [if_neg (nt hb)] at hp
    refine WC.seq (WC.region ?_)
    refine WR.k rfl rfl rfl (OS.bin (a := vI x.Kind) (b := vI (1 : Int)) rfl rfl rfl bI_eql ?_)
    refine WR.k rfl rfl rfl (OS.assign (v := vB (decide (x.Kind = (1 : Int)))) rfl rfl ?_)
    refine WR.nil ?_
    refine WC.cond (decide (x.Kind = (1 : Int))) rfl (fun hb1 => ?_) (fun hb1 => ?_)
    · rw [if_pos hb1] at hp
      refine WC.seq (WC.region ?_)
      refine WR.k rfl rfl rfl (OS.move (v := p_) rfl rfl ?_)
      refine WR.k rfl rfl rfl (OS.move (v := vS x.Owner.Tenant) rfl rfl ?_)
      refine WR.k rfl rfl rfl (OS.fieldAddrBx rfl Tryd.runUnderlying44 rfl Tryd.sizeOf9 rfl rfl o6 ?_); intro p_10 a7
      refine WR.k rfl rfl rfl (OS.ld1 (u := vS x.Client) rfl Tryd.isAgg9 rfl (o6.ldn a7 (sub_of rfl)) ?_)
      refine WR.k rfl rfl rfl (OS.fieldAddrBx rfl Tryd.runUnderlying44 rfl Tryd.sizeOf30 rfl rfl o6 ?_); intro p_11 a8
      refine WR.k rfl rfl rfl (OS.ld1 (u := vU8 x.Scopes) rfl Tryd.isAgg30 rfl (o6.ldn a8 (sub_of rfl)) ?_)
      have o29 := o.keep s1 (by decide)
      have o30 := o1.keep s1 (by decide) (by decide)
      have o31 := o2.keep s1 (by decide) (by decide)
      obtain ⟨r_3, hr_3, hp⟩ := bind_some hp
      refine WR.k rfl rfl rfl (OS.callF (vs := [p_, vS x.Owner.Tenant, vS x.Client, vU8 x.Scopes]) rfl ⟨rfl, rfl, rfl, rfl, trivial⟩ Tryd.call19 ((W19 K w_ (rcc [3, 4, 5] c_) (rcc_lt c_ rfl) hr_3 (o29.tr (rc_tr (by decide))) (o30.tr (rc_tr (by decide))) (o31.tr (rc_tr (by decide)))).mono ?_))
      rintro _ w_10 ⟨b4, b5, d2, rfl, s6, o32, o33, o34⟩
      refine ⟨_, rfl, ?_⟩
      obtain ⟨c_9, s7, o32, o33, o34⟩ : ∃ c_9, St [3, 4, 5] w_ c_ w_10 c_9 ∧ Bx 3 w_10 c_9 p_ [(.map (some b4)), (.map (some b5))] ∧ Mp kv64 (VR.flat vv32) 4 w_10 c_9 (.map (some b4)) r_3.2.2.clients ∧ Mp kv67 (VR.flat vv30) 5 w_10 c_9 (.map (some b5)) r_3.2.2.consents := ⟨_, s6.mg2 (sh := 30000) rfl, o32.tr (mg2_back s6 rfl), o33.tr (mg2_back s6 rfl), o34.tr (mg2_back s6 rfl)⟩
      refine WR.k rfl rfl rfl (OS.move (v := .tuple #[vU8 r_3.1, vI r_3.2.1]) rfl rfl ?_)
      refine WR.k rfl rfl rfl (OS.extract (v := vU8 r_3.1) rfl rfl rfl ?_)
      refine WR.k rfl rfl rfl (OS.extract (v := vI r_3.2.1) rfl rfl rfl ?_)
      refine WR.k rfl rfl rfl (OS.assign (v := vU8 r_3.1) rfl rfl ?_)
      refine WR.k rfl rfl rfl (OS.assign (v := vI r_3.2.1) rfl rfl ?_)
      refine WR.nil ?_
      refine WC.seq (WC.region ?_)
      refine WR.k rfl rfl rfl (OS.move (v := p_1) rfl rfl ?_)
      refine WR.k rfl rfl rfl (OS.move (v := vS x.Owner.Tenant) rfl rfl ?_)
      have o35 := o6.keep s7 (by decide)
      refine WR.k rfl rfl rfl (OS.fieldAddrBx rfl Tryd.runUnderlying44 rfl Tryd.sizeOf9 rfl rfl o35 ?_); intro p_12 a9
      refine WR.k rfl rfl rfl (OS.ld1 (u := vS x.Client) rfl Tryd.isAgg9 rfl (o35.ldn a9 (sub_of rfl)) ?_)
      refine WR.k rfl rfl rfl (OS.fieldAddrBx rfl Tryd.runUnderlying44 rfl Tryd.sizeOf30 rfl rfl o35 ?_); intro p_13 a10
      refine WR.k rfl rfl rfl (OS.ld1 (u := vU8 x.Scopes) rfl Tryd.isAgg30 rfl (o35.ldn a10 (sub_of rfl)) ?_)
      have o36 := o3.keep (s1.t s7) (by decide)
      have o37 := o4.keep (s1.t s7) (by decide)
      have o38 := o5.keep (s1.t s7) (by decide)
      obtain ⟨r_4, hr_4, hp⟩ := bind_some hp
      refine WR.k rfl rfl rfl (OS.callF (vs := [p_1, vS x.Owner.Tenant, vS x.Client, vU8 x.Scopes]) rfl ⟨rfl, rfl, rfl, rfl, trivial⟩ Tryd.call31 ((W31 (sl := sl) (sl1 := sl1) K w_10 (rcc [6] c_9) (rcc_lt c_9 rfl) hr_4 (o36.tr (rc_tr (by decide))) (o37.tr (rc_tr rfl)) (o38.tr (rc_tr rfl))).mono ?_))
      rintro _ w_11 ⟨sl4, sl5, d3, rfl, s8, o39, o40, o41⟩
      refine ⟨_, rfl, ?_⟩
      obtain ⟨c_10, s9, o39, o40, o41⟩ : ∃ c_10, St [6] w_10 c_9 w_11 c_10 ∧ Bx 6 w_11 c_10 p_1 [sl4.val, sl5.val] ∧ Vw E32 1 w_11 c_10 sl4.val r_4.2.2.c_ ∧ Vw E35 1 w_11 c_10 sl5.val r_4.2.2.a := ⟨_, s8.mg2 (sh := 40000) rfl, o39.tr (mg2_back s8 rfl), o40.tr (mg2_back s8 rfl), o41.tr (mg2_back s8 rfl)⟩
      refine WR.k rfl rfl rfl (OS.move (v := .tuple #[vU8 r_4.1, vI r_4.2.1]) rfl rfl ?_)
      refine WR.k rfl rfl rfl (OS.extract (v := vU8 r_4.1) rfl rfl rfl ?_)
      refine WR.k rfl rfl rfl (OS.extract (v := vI r_4.2.1) rfl rfl rfl ?_)
      refine WR.k rfl rfl rfl (OS.assign (v := vU8 r_4.1) rfl rfl ?_)
      refine WR.k rfl rfl rfl (OS.assign (v := vI r_4.2.1) rfl rfl ?_)
      refine WR.nil ?_
      refine WC.seq (WC.region ?_)
      refine WR.k rfl rfl rfl (OS.move (v := vU8 r_3.1) rfl rfl ?_)
      refine WR.k rfl rfl rfl (OS.move (v := vU8 r_4.1) rfl rfl ?_)
      refine WR.k rfl rfl rfl (OS.bin (a := vU8 r_3.1) (b := vU8 r_4.1) rfl rfl rfl b8_eql ?_)
      refine WR.k rfl rfl rfl (OS.move (v := vB (decide (r_3.1 = r_4.1))) rfl rfl ?_)
      refine WR.cut2 4 (fun f_6 w_12 => f_6 0 = p_ ∧ f_6 1 = p_1 ∧ f_6 65 = vB ((decide (r_3.1 = r_4.1)) && (decide (r_3.2.1 = r_4.2.1))) ∧ w_11 = w_12) ?_ ?_
      · rcases Bool.eq_false_or_eq_true (decide (r_3.1 = r_4.1)) with hg | hg
        · refine WR.kT rfl rfl (vb_t rfl hg) rfl rfl (OS.move (v := vI r_3.2.1) rfl rfl ?_)
          refine WR.kT rfl rfl (vb_t rfl hg) rfl rfl (OS.move (v := vI r_4.2.1) rfl rfl ?_)
          refine WR.kT rfl rfl (vb_t rfl hg) rfl rfl (OS.bin (a := vI r_3.2.1) (b := vI r_4.2.1) rfl rfl rfl bI_eql ?_)
          refine WR.k rfl rfl rfl (OS.pickT rfl (vb_t rfl hg) rfl ?_)
          refine WR.nil ?_
          exact ⟨rfl, rfl, (and_t hg), rfl⟩
        · refine WR.gF rfl rfl (vb_f rfl hg) rfl rfl ?_
          refine WR.gF rfl rfl (vb_f rfl hg) rfl rfl ?_
          refine WR.gF rfl rfl (vb_f rfl hg) rfl rfl ?_
          refine WR.k rfl rfl rfl (OS.pickF rfl (vb_f rfl hg) rfl ?_)
          refine WR.nil ?_
          exact ⟨rfl, rfl, (and_f hg), rfl⟩
      · rintro f_6 _ ⟨h2, h3, h4, rfl⟩
        refine WR.k rfl rfl rfl (OS.assign (v := vB ((decide (r_3.1 = r_4.1)) && (decide (r_3.2.1 = r_4.2.1)))) rfl h4 ?_)
        refine WR.nil ?_
        refine WC.ret ?_
        repeat first | refine thenQ_ret ?_ | refine blkQ_ret ?_
        cases hp
        have o42 := o32.keep s9 (by decide)
        have o43 := o33.keep s9 (by decide) (by decide)
        have o44 := o34.keep s9 (by decide) (by decide)
        exact fnQ.l1 (fn := Tryd.f14) rfl (.inl ⟨_, rfl, rfl⟩) ⟨_, _, _, _, _, rfl, ((s1.t s7).t s9).leave hcw (by decide), o42, o43, o44, o39, o40, o41⟩
    · rw [if_neg (nt hb1)] at hp
      refine WC.seq (WC.region ?_)
      refine WR.k rfl rfl rfl (OS.bin (a := vI x.Kind) (b := vI (2 : Int)) rfl rfl rfl bI_eql ?_)
      refine WR.k rfl rfl rfl (OS.assign (v := vB (decide (x.Kind = (2 : Int)))) rfl rfl ?_)
      refine WR.nil ?_
      refine WC.cond (decide (x.Kind = (2 : Int))) rfl (fun hb2 => ?_) (fun hb2 => ?_)
      · rw [if_pos hb2] at hp
        have o45 := o.keep s1 (by decide)
        have o46 := o1.keep s1 (by decide) (by decide)
        have o47 := o2.keep s1 (by decide) (by decide)
        obtain ⟨r_5, hr_5, hp⟩ := bind_some hp
        refine WC.seq (WC.draw3 (c := c_) ⟨9, [[], [], [], [], [1, 3, 4, 5], [], [], [], []], [[], [], [], [], [3, 4, 5], [], [], [], []], [3, 4, 5], [[], [], [], [2], [0, 1, 3], [], [], [], [7]], [4, 5, 6, 8]⟩ [[], [], [], [], [], [3, 4, 5], [3, 4, 5], [3, 4, 5], [3, 4, 5]] [[68], [69], [70], [71], [72], [73], [74], [75], [76]] [fun yf yw yc => (yf 68) = p_, fun yf yw yc => (yf 69) = vS x.Owner.Tenant, fun yf yw yc => AdrP p_2 3 1 (yf 70), fun yf yw yc => (yf 71) = vS x.Client, fun yf yw yc => ∃ (b6 : Nat) (b7 : Nat), (yf 72) = vI r_5.1 ∧ Bx 3 yw yc p_ [(.map (some b6)), (.map (some b7))] ∧ Mp kv64 (VR.flat vv32) 4 yw yc (.map (some b6)) r_5.2.clients ∧ Mp kv67 (VR.flat vv30) 5 yw yc (.map (some b7)) r_5.2.consents, fun yf yw yc => (yf 73) = p_1, fun yf yw yc => (yf 74) = vS x.Owner.Tenant, fun yf yw yc => AdrP p_2 3 1 (yf 75), fun yf yw yc => (yf 76) = vS x.Client] hmix (by kernel_rfl) (by kernel_rfl) ⟨?_, ?_, ?_, ?_, ?_, ?_, ?_, ?_, ?_, trivial⟩ ⟨fun y1 y2 yw yc yI yw1 yc1 yh ye ys yk => by obtain ⟨ye0, -⟩ := ye; show (y2 68) = p_; rw [ye0]; exact yh, fun y1 y2 yw yc yI yw1 yc1 yh ye ys yk => by obtain ⟨ye0, -⟩ := ye; show (y2 69) = vS x.Owner.Tenant; rw [ye0]; exact yh, fun y1 y2 yw yc yI yw1 yc1 yh ye ys yk => by obtain ⟨ye0, -⟩ := ye; show AdrP p_2 3 1 (y2 70); rw [ye0]; exact yh, fun y1 y2 yw yc yI yw1 yc1 yh ye ys yk => by obtain ⟨ye0, -⟩ := ye; show (y2 71) = vS x.Client; rw [ye0]; exact yh, fun y1 y2 yw yc yI yw1 yc1 yh ye ys yk => by obtain ⟨ye0, -⟩ := ye; obtain ⟨b6, b7, yg, o48, o49, o50⟩ := yh; exact ⟨b6, b7, (by rw [ye0]; exact yg), o48.keep ys (yk _ (by simp)), o49.keep ys (yk _ (by simp)) (yk _ (by simp)), o50.keep ys (yk _ (by simp)) (yk _ (by simp))⟩, fun y1 y2 yw yc yI yw1 yc1 yh ye ys yk => by obtain ⟨ye0, -⟩ := ye; show (y2 73) = p_1; rw [ye0]; exact yh, fun y1 y2 yw yc yI yw1 yc1 yh ye ys yk => by obtain ⟨ye0, -⟩ := ye; show (y2 74) = vS x.Owner.Tenant; rw [ye0]; exact yh, fun y1 y2 yw yc yI yw1 yc1 yh ye ys yk => by obtain ⟨ye0, -⟩ := ye; show AdrP p_2 3 1 (y2 75); rw [ye0]; exact yh, fun y1 y2 yw yc yI yw1 yc1 yh ye ys yk => by obtain ⟨ye0, -⟩ := ye; show (y2 76) = vS x.Client; rw [ye0]; exact yh, trivial⟩ ?_)
        · rintro f_7 w_13 c_12 hB6 hs6 ⟨-⟩ o ho; obtain rfl : _ = o := Option.some.inj ho
          exact OS.move (v := p_) rfl ((hB6 0 (by kernel_rfl)).trans (show _ = p_ from rfl)) ⟨_, St.refl, rfl⟩
        · rintro f_8 w_14 c_13 hB7 hs7 ⟨-⟩ o ho; obtain rfl : _ = o := Option.some.inj ho
          exact OS.move (v := vS x.Owner.Tenant) rfl ((hB7 7 (by kernel_rfl)).trans (show _ = vS x.Owner.Tenant from rfl)) ⟨_, St.refl, rfl⟩
        · rintro f_9 w_15 c_14 hB8 hs8 ⟨-⟩ o ho; obtain rfl : _ = o := Option.some.inj ho
          have o51 := o6.keep hs8 (by decide)
          exact OS.fieldAddrBx rfl Tryd.runUnderlying44 rfl Tryd.sizeOf9 rfl ((hB8 5 (by kernel_rfl)).trans (show _ = p_2 from rfl)) o51 (fun _ h => ⟨_, St.refl, h⟩)
        · rintro f_10 w_16 c_15 hB9 hs9 ⟨g5, -⟩ o ho; obtain rfl : _ = o := Option.some.inj ho
          replace g5 : AdrP p_2 3 1 (f_10 70) := g5
          have o52 := o6.keep hs9 (by decide)
          exact OS.ld1 (u := vS x.Client) rfl Tryd.isAgg9 rfl (o52.ldn g5 (sub_of rfl)) ⟨_, St.refl, rfl⟩
        · rintro f_11 w_17 c_16 hB10 hs10 ⟨g6, g7, g8, -⟩ o ho; obtain rfl : _ = o := Option.some.inj ho
          replace g6 : (f_11 68) = p_ := g6
          replace g7 : (f_11 69) = vS x.Owner.Tenant := g7
          replace g8 : (f_11 71) = vS x.Client := g8
          have o53 := o.keep (s1.t hs10) (by decide)
          have o54 := o1.keep (s1.t hs10) (by decide) (by decide)
          have o55 := o2.keep (s1.t hs10) (by decide) (by decide)
          refine OS.callF (vs := [p_, vS x.Owner.Tenant, vS x.Client]) rfl ⟨g6, g7, g8, trivial⟩ Tryd.call18 ((W18 K w_17 (rcc [3, 4, 5] c_16) (rcc_lt c_16 rfl) hr_5 (o53.tr (rc_tr (by decide))) (o54.tr (rc_tr (by decide))) (o55.tr (rc_tr (by decide)))).mono ?_)
          rintro _ yw ⟨b6, b7, yd, rfl, ys, o48, o49, o50⟩
          exact ⟨_, rfl, _, ys.mg2 (I := [3, 4, 5]) (sh := 50000) rfl, b6, b7, rfl, o48.tr (mg2_back ys rfl), o49.tr (mg2_back ys rfl), o50.tr (mg2_back ys rfl)⟩
        · rintro f_12 w_18 c_17 hB11 hs11 ⟨-⟩ o ho; obtain rfl : _ = o := Option.some.inj ho
          exact OS.move (v := p_1) rfl ((hB11 1 (by kernel_rfl)).trans (show _ = p_1 from rfl)) ⟨_, St.refl, rfl⟩
        · rintro f_13 w_19 c_18 hB12 hs12 ⟨-⟩ o ho; obtain rfl : _ = o := Option.some.inj ho
          exact OS.move (v := vS x.Owner.Tenant) rfl ((hB12 7 (by kernel_rfl)).trans (show _ = vS x.Owner.Tenant from rfl)) ⟨_, St.refl, rfl⟩
        · rintro f_14 w_20 c_19 hB13 hs13 ⟨-⟩ o ho; obtain rfl : _ = o := Option.some.inj ho
          have o56 := o6.keep hs13 (by decide)
          exact OS.fieldAddrBx rfl Tryd.runUnderlying44 rfl Tryd.sizeOf9 rfl ((hB13 5 (by kernel_rfl)).trans (show _ = p_2 from rfl)) o56 (fun _ h => ⟨_, St.refl, h⟩)
        · rintro f_15 w_21 c_20 hB14 hs14 ⟨g9, -⟩ o ho; obtain rfl : _ = o := Option.some.inj ho
          replace g9 : AdrP p_2 3 1 (f_15 75) := g9
          have o57 := o6.keep hs14 (by decide)
          exact OS.ld1 (u := vS x.Client) rfl Tryd.isAgg9 rfl (o57.ldn g9 (sub_of rfl)) ⟨_, St.refl, rfl⟩
        · rintro f_16 w_22 c_21 hB15 hs15 ⟨g10, g11, g12, g13, -⟩
          replace g10 : ∃ (b6 : Nat) (b7 : Nat), (f_16 72) = vI r_5.1 ∧ Bx 3 w_22 c_21 p_ [(.map (some b6)), (.map (some b7))] ∧ Mp kv64 (VR.flat vv32) 4 w_22 c_21 (.map (some b6)) r_5.2.clients ∧ Mp kv67 (VR.flat vv30) 5 w_22 c_21 (.map (some b7)) r_5.2.consents := g10
          obtain ⟨b6, b7, g10, o48, o49, o50⟩ := g10
          replace g11 : (f_16 73) = p_1 := g11
          replace g12 : (f_16 74) = vS x.Owner.Tenant := g12
          replace g13 : (f_16 76) = vS x.Client := g13
          have h5 := (hB15 0 (by kernel_rfl)).trans (show _ = p_ from rfl)
          have h6 := (hB15 1 (by kernel_rfl)).trans (show _ = p_1 from rfl)
          have o58 := o3.keep (s1.t hs15) (by decide)
          have o59 := o4.keep (s1.t hs15) (by decide)
          have o60 := o5.keep (s1.t hs15) (by decide)
          obtain ⟨r_6, hr_6, hp⟩ := bind_some hp
          refine WR.k rfl rfl rfl (OS.callF (vs := [p_1, vS x.Owner.Tenant, vS x.Client]) rfl ⟨g11, g12, g13, trivial⟩ Tryd.call32 ((W32 (sl := sl) (sl1 := sl1) K w_22 (rcc [6] c_21) (rcc_lt c_21 rfl) hr_6 (o58.tr (rc_tr (by decide))) (o59.tr (rc_tr rfl)) (o60.tr (rc_tr rfl))).mono ?_))
          rintro _ w_23 ⟨sl6, sl7, d4, rfl, s10, o61, o62, o63⟩
          refine ⟨_, rfl, ?_⟩
          obtain ⟨c_22, s11, o61, o62, o63⟩ : ∃ c_22, St [6] w_22 c_21 w_23 c_22 ∧ Bx 6 w_23 c_22 p_1 [sl6.val, sl7.val] ∧ Vw E32 1 w_23 c_22 sl6.val r_6.2.c_ ∧ Vw E35 1 w_23 c_22 sl7.val r_6.2.a := ⟨_, s10.mg2 (sh := 60000) rfl, o61.tr (mg2_back s10 rfl), o62.tr (mg2_back s10 rfl), o63.tr (mg2_back s10 rfl)⟩
          refine WR.k rfl rfl rfl (OS.bin (a := vI r_5.1) (b := vI r_6.1) rfl g10 rfl bI_eql ?_)
          refine WR.k rfl rfl rfl (OS.assign (v := vB (decide (r_5.1 = r_6.1))) rfl rfl ?_)
          refine WR.nil ?_
          refine WC.ret ?_
          repeat first | refine thenQ_ret ?_ | refine blkQ_ret ?_
          cases hp
          have o64 := o48.keep s11 (by decide)
          have o65 := o49.keep s11 (by decide) (by decide)
          have o66 := o50.keep s11 (by decide) (by decide)
          exact fnQ.l1 (fn := Tryd.f14) rfl (.inl ⟨_, rfl, rfl⟩) ⟨_, _, _, _, _, rfl, ((s1.t hs15).t s11).leave hcw (by decide), o64, o65, o66, o61, o62, o63⟩
      · rw [if_neg (nt hb2)] at hp
        refine WC.seq (WC.region ?_)
        refine WR.k rfl rfl rfl (OS.bin (a := vI x.Kind) (b := vI (3 : Int)) rfl rfl rfl bI_eql ?_)
        refine WR.k rfl rfl rfl (OS.assign (v := vB (decide (x.Kind = (3 : Int)))) rfl rfl ?_)
        refine WR.nil ?_
        refine WC.cond (decide (x.Kind = (3 : Int))) rfl (fun hb3 => ?_) (fun hb3 => ?_)
        · rw [if_pos hb3] at hp
          refine WC.seq (WC.region ?_)
          refine WR.k rfl rfl rfl (OS.fieldAddrBx rfl Tryd.runUnderlying44 rfl Tryd.sizeOf26 rfl rfl o6 ?_); intro p_14 a13
          refine WR.k rfl rfl rfl (OS.ldN (us := [vS x.Owner.Tenant, vS x.Owner.User]) rfl Tryd.isAgg26 Tryd.sizeOf26 rfl (o6.ldn a13 (sub_of rfl)) rfl ?_)
          refine WR.k rfl rfl rfl (OS.fieldAddrBx rfl Tryd.runUnderlying44 rfl Tryd.sizeOf9 rfl rfl o6 ?_); intro p_15 a14
          refine WR.k rfl rfl rfl (OS.ld1 (u := vS x.Client) rfl Tryd.isAgg9 rfl (o6.ldn a14 (sub_of rfl)) ?_)
          refine WR.k rfl rfl rfl (OS.fieldAddrBx rfl Tryd.runUnderlying44 rfl Tryd.sizeOf30 rfl rfl o6 ?_); intro p_16 a15
          refine WR.k rfl rfl rfl (OS.ld1 (u := vU8 x.Scopes) rfl Tryd.isAgg30 rfl (o6.ldn a15 (sub_of rfl)) ?_)
          refine WR.k rfl rfl rfl (OS.build (v := .agg (E35.e (⟨x.Owner, x.Client, x.Scopes⟩ : S_api_Consent)).toArray) [(0, .agg (E26.e x.Owner).toArray), (1, vS x.Client), (2, vU8 x.Scopes)] rfl ⟨rfl, rfl, rfl, rfl, rfl, rfl, trivial⟩ (fun _ => by kernel_rfl) ?_)
          refine WR.k rfl rfl rfl (OS.allocBx (us := [vS ([] : List UInt8), vS ([] : List UInt8), vS ([] : List UInt8), vU8 (0 : UInt8)]) (c := c_) 42 rfl Tryd.zeroValue35 rfl ?_); intro p_17 w_24 c_23 o67 s12
          refine WR.k0 rfl rfl (OS.stBxAll (v := .agg (E35.e (⟨x.Owner, x.Client, x.Scopes⟩ : S_api_Consent)).toArray) (ws := [vS x.Owner.Tenant, vS x.Owner.User, vS x.Client, vU8 x.Scopes]) rfl Tryd.sizeOf35 rfl rfl rfl o67 rfl rfl (one_of rfl) ?_); intro w_25 o68 s13
          refine WR.nil ?_
          have o69 := o.keep ((s1.t s12).t s13) (by decide)
          have o70 := o1.keep ((s1.t s12).t s13) (by decide) (by decide)
          have o71 := o2.keep ((s1.t s12).t s13) (by decide) (by decide)
          obtain ⟨r_7, hr_7, hp⟩ := bind_some hp
          refine WC.seq (WC.draw3 (c := c_23) ⟨5, [[], [], [1, 3, 4, 5], [], []], [[], [], [3, 4, 5], [], []], [3, 4, 5], [[], [], [0, 1], [], []], [2, 3, 4]⟩ [[], [], [], [3, 4, 5], [3, 4, 5]] [[88], [89], [90], [91], [92]] [fun yf yw yc => (yf 88) = p_, fun yf yw yc => (yf 89) = .agg (E35.e (⟨x.Owner, x.Client, x.Scopes⟩ : S_api_Consent)).toArray, fun yf yw yc => ∃ (b8 : Nat) (b9 : Nat), (yf 90) = vI r_7.1 ∧ Bx 3 yw yc p_ [(.map (some b8)), (.map (some b9))] ∧ Mp kv64 (VR.flat vv32) 4 yw yc (.map (some b8)) r_7.2.clients ∧ Mp kv67 (VR.flat vv30) 5 yw yc (.map (some b9)) r_7.2.consents, fun yf yw yc => (yf 91) = p_1, fun yf yw yc => (yf 92) = .agg (E35.e (⟨x.Owner, x.Client, x.Scopes⟩ : S_api_Consent)).toArray] hmix (by kernel_rfl) (by kernel_rfl) ⟨?_, ?_, ?_, ?_, ?_, trivial⟩ ⟨fun y1 y2 yw yc yI yw1 yc1 yh ye ys yk => by obtain ⟨ye0, -⟩ := ye; show (y2 88) = p_; rw [ye0]; exact yh, fun y1 y2 yw yc yI yw1 yc1 yh ye ys yk => by obtain ⟨ye0, -⟩ := ye; show (y2 89) = .agg (E35.e (⟨x.Owner, x.Client, x.Scopes⟩ : S_api_Consent)).toArray; rw [ye0]; exact yh, fun y1 y2 yw yc yI yw1 yc1 yh ye ys yk => by obtain ⟨ye0, -⟩ := ye; obtain ⟨b8, b9, yg, o72, o73, o74⟩ := yh; exact ⟨b8, b9, (by rw [ye0]; exact yg), o72.keep ys (yk _ (by simp)), o73.keep ys (yk _ (by simp)) (yk _ (by simp)), o74.keep ys (yk _ (by simp)) (yk _ (by simp))⟩, fun y1 y2 yw yc yI yw1 yc1 yh ye ys yk => by obtain ⟨ye0, -⟩ := ye; show (y2 91) = p_1; rw [ye0]; exact yh, fun y1 y2 yw yc yI yw1 yc1 yh ye ys yk => by obtain ⟨ye0, -⟩ := ye; show (y2 92) = .agg (E35.e (⟨x.Owner, x.Client, x.Scopes⟩ : S_api_Consent)).toArray; rw [ye0]; exact yh, trivial⟩ ?_)
          · rintro f_17 w_26 c_24 hB16 hs16 ⟨-⟩ o ho; obtain rfl : _ = o := Option.some.inj ho
            exact OS.move (v := p_) rfl ((hB16 0 (by kernel_rfl)).trans (show _ = p_ from rfl)) ⟨_, St.refl, rfl⟩
          · rintro f_18 w_27 c_25 hB17 hs17 ⟨-⟩ o ho; obtain rfl : _ = o := Option.some.inj ho
            have o75 := o68.keep hs17 (by decide)
            exact OS.ldN (us := [vS x.Owner.Tenant, vS x.Owner.User, vS x.Client, vU8 x.Scopes]) rfl Tryd.isAgg35 Tryd.sizeOf35 ((hB17 13 (by kernel_rfl)).trans (show _ = p_17 from rfl)) o75.ldAll rfl ⟨_, St.refl, rfl⟩
          · rintro f_19 w_28 c_26 hB18 hs18 ⟨g14, g15, -⟩ o ho; obtain rfl : _ = o := Option.some.inj ho
            replace g14 : (f_19 88) = p_ := g14
            replace g15 : (f_19 89) = .agg (E35.e (⟨x.Owner, x.Client, x.Scopes⟩ : S_api_Consent)).toArray := g15
            have o76 := o.keep (((s1.t s12).t s13).t hs18) (by decide)
            have o77 := o1.keep (((s1.t s12).t s13).t hs18) (by decide) (by decide)
            have o78 := o2.keep (((s1.t s12).t s13).t hs18) (by decide) (by decide)
            refine OS.callF (vs := [p_, .agg (E35.e (⟨x.Owner, x.Client, x.Scopes⟩ : S_api_Consent)).toArray]) rfl ⟨g14, g15, trivial⟩ Tryd.call9 ((W9 K w_28 (rcc [3, 4, 5] c_26) (rcc_lt c_26 rfl) hr_7 (o76.tr (rc_tr (by decide))) (o77.tr (rc_tr (by decide))) (o78.tr (rc_tr (by decide)))).mono ?_)
            rintro _ yw ⟨b8, b9, yd, rfl, ys, o72, o73, o74⟩
            exact ⟨_, rfl, _, ys.mg2 (I := [3, 4, 5]) (sh := 70000) rfl, b8, b9, rfl, o72.tr (mg2_back ys rfl), o73.tr (mg2_back ys rfl), o74.tr (mg2_back ys rfl)⟩
          · rintro f_20 w_29 c_27 hB19 hs19 ⟨-⟩ o ho; obtain rfl : _ = o := Option.some.inj ho
            exact OS.move (v := p_1) rfl ((hB19 1 (by kernel_rfl)).trans (show _ = p_1 from rfl)) ⟨_, St.refl, rfl⟩
          · rintro f_21 w_30 c_28 hB20 hs20 ⟨-⟩ o ho; obtain rfl : _ = o := Option.some.inj ho
            have o79 := o68.keep hs20 (by decide)
            exact OS.ldN (us := [vS x.Owner.Tenant, vS x.Owner.User, vS x.Client, vU8 x.Scopes]) rfl Tryd.isAgg35 Tryd.sizeOf35 ((hB20 13 (by kernel_rfl)).trans (show _ = p_17 from rfl)) o79.ldAll rfl ⟨_, St.refl, rfl⟩
          · rintro f_22 w_31 c_29 hB21 hs21 ⟨g16, g17, g18, -⟩
            replace g16 : ∃ (b8 : Nat) (b9 : Nat), (f_22 90) = vI r_7.1 ∧ Bx 3 w_31 c_29 p_ [(.map (some b8)), (.map (some b9))] ∧ Mp kv64 (VR.flat vv32) 4 w_31 c_29 (.map (some b8)) r_7.2.clients ∧ Mp kv67 (VR.flat vv30) 5 w_31 c_29 (.map (some b9)) r_7.2.consents := g16
            obtain ⟨b8, b9, g16, o72, o73, o74⟩ := g16
            replace g17 : (f_22 91) = p_1 := g17
            replace g18 : (f_22 92) = .agg (E35.e (⟨x.Owner, x.Client, x.Scopes⟩ : S_api_Consent)).toArray := g18
            have h7 := (hB21 0 (by kernel_rfl)).trans (show _ = p_ from rfl)
            have h8 := (hB21 1 (by kernel_rfl)).trans (show _ = p_1 from rfl)
            have o80 := o3.keep (((s1.t s12).t s13).t hs21) (by decide)
            have o81 := o4.keep (((s1.t s12).t s13).t hs21) (by decide)
            have o82 := o5.keep (((s1.t s12).t s13).t hs21) (by decide)
            obtain ⟨r_8, hr_8, hp⟩ := bind_some hp
            refine WR.k rfl rfl rfl (OS.callF (vs := [p_1, .agg (E35.e (⟨x.Owner, x.Client, x.Scopes⟩ : S_api_Consent)).toArray]) rfl ⟨g17, g18, trivial⟩ Tryd.call33 ((W33 (sl := sl) (sl1 := sl1) K w_31 (rcc [6] c_29) (rcc_lt c_29 rfl) hr_8 (o80.tr (rc_tr (by decide))) (o81.tr (rc_tr rfl)) (o82.tr (rc_tr rfl))).mono ?_))
            rintro _ w_32 ⟨sl8, sl9, d5, rfl, s14, o83, o84, o85⟩
            refine ⟨_, rfl, ?_⟩
            obtain ⟨c_30, s15, o83, o84, o85⟩ : ∃ c_30, St [6] w_31 c_29 w_32 c_30 ∧ Bx 6 w_32 c_30 p_1 [sl8.val, sl9.val] ∧ Vw E32 1 w_32 c_30 sl8.val r_8.2.c_ ∧ Vw E35 1 w_32 c_30 sl9.val r_8.2.a := ⟨_, s14.mg2 (sh := 80000) rfl, o83.tr (mg2_back s14 rfl), o84.tr (mg2_back s14 rfl), o85.tr (mg2_back s14 rfl)⟩
            refine WR.k rfl rfl rfl (OS.bin (a := vI r_7.1) (b := vI r_8.1) rfl g16 rfl bI_eql ?_)
            refine WR.k rfl rfl rfl (OS.assign (v := vB (decide (r_7.1 = r_8.1))) rfl rfl ?_)
            refine WR.nil ?_
            refine WC.ret ?_
            repeat first | refine thenQ_ret ?_ | refine blkQ_ret ?_
            cases hp
            have o86 := o72.keep s15 (by decide)
            have o87 := o73.keep s15 (by decide) (by decide)
            have o88 := o74.keep s15 (by decide) (by decide)
            exact fnQ.l1 (fn := Tryd.f14) rfl (.inl ⟨_, rfl, rfl⟩) ⟨_, _, _, _, _, rfl, ((((s1.t s12).t s13).t hs21).t s15).leave hcw (by decide), o86, o87, o88, o83, o84, o85⟩
        · rw [if_neg (nt hb3)] at hp
          refine WC.seq (WC.region ?_)
          refine WR.k rfl rfl rfl (OS.bin (a := vI x.Kind) (b := vI (4 : Int)) rfl rfl rfl bI_eql ?_)
          refine WR.k rfl rfl rfl (OS.assign (v := vB (decide (x.Kind = (4 : Int)))) rfl rfl ?_)
          refine WR.nil ?_
          refine WC.cond (decide (x.Kind = (4 : Int))) rfl (fun hb4 => ?_) (fun hb4 => ?_)
          · rw [if_pos hb4] at hp
            have o89 := o.keep s1 (by decide)
            have o90 := o1.keep s1 (by decide) (by decide)
            have o91 := o2.keep s1 (by decide) (by decide)
            obtain ⟨r_9, hr_9, hp⟩ := bind_some hp
            refine WC.seq (WC.draw3 (c := c_) ⟨11, [[], [], [], [], [], [1, 3, 4, 5], [], [], [], [], []], [[], [], [], [], [], [3, 4, 5], [], [], [], [], []], [3, 4, 5], [[], [], [1], [], [3], [0, 2, 4], [], [], [7], [], [9]], [5, 6, 8, 10]⟩ [[], [], [], [], [], [], [3, 4, 5], [3, 4, 5], [3, 4, 5], [3, 4, 5], [3, 4, 5]] [[97], [98], [99], [100], [101], [102], [103], [104], [105], [106], [107]] [fun yf yw yc => (yf 97) = p_, fun yf yw yc => AdrP p_2 1 1 (yf 98), fun yf yw yc => (yf 99) = .agg (E26.e x.Owner).toArray, fun yf yw yc => AdrP p_2 3 1 (yf 100), fun yf yw yc => (yf 101) = vS x.Client, fun yf yw yc => ∃ (b10 : Nat) (b11 : Nat), (yf 102) = vI r_9.1 ∧ Bx 3 yw yc p_ [(.map (some b10)), (.map (some b11))] ∧ Mp kv64 (VR.flat vv32) 4 yw yc (.map (some b10)) r_9.2.clients ∧ Mp kv67 (VR.flat vv30) 5 yw yc (.map (some b11)) r_9.2.consents, fun yf yw yc => (yf 103) = p_1, fun yf yw yc => AdrP p_2 1 1 (yf 104), fun yf yw yc => (yf 105) = .agg (E26.e x.Owner).toArray, fun yf yw yc => AdrP p_2 3 1 (yf 106), fun yf yw yc => (yf 107) = vS x.Client] hmix (by kernel_rfl) (by kernel_rfl) ⟨?_, ?_, ?_, ?_, ?_, ?_, ?_, ?_, ?_, ?_, ?_, trivial⟩ ⟨fun y1 y2 yw yc yI yw1 yc1 yh ye ys yk => by obtain ⟨ye0, -⟩ := ye; show (y2 97) = p_; rw [ye0]; exact yh, fun y1 y2 yw yc yI yw1 yc1 yh ye ys yk => by obtain ⟨ye0, -⟩ := ye; show AdrP p_2 1 1 (y2 98); rw [ye0]; exact yh, fun y1 y2 yw yc yI yw1 yc1 yh ye ys yk => by obtain ⟨ye0, -⟩ := ye; show (y2 99) = .agg (E26.e x.Owner).toArray; rw [ye0]; exact yh, fun y1 y2 yw yc yI yw1 yc1 yh ye ys yk => by obtain ⟨ye0, -⟩ := ye; show AdrP p_2 3 1 (y2 100); rw [ye0]; exact yh, fun y1 y2 yw yc yI yw1 yc1 yh ye ys yk => by obtain ⟨ye0, -⟩ := ye; show (y2 101) = vS x.Client; rw [ye0]; exact yh, fun y1 y2 yw yc yI yw1 yc1 yh ye ys yk => by obtain ⟨ye0, -⟩ := ye; obtain ⟨b10, b11, yg, o92, o93, o94⟩ := yh; exact ⟨b10, b11, (by rw [ye0]; exact yg), o92.keep ys (yk _ (by simp)), o93.keep ys (yk _ (by simp)) (yk _ (by simp)), o94.keep ys (yk _ (by simp)) (yk _ (by simp))⟩, fun y1 y2 yw yc yI yw1 yc1 yh ye ys yk => by obtain ⟨ye0, -⟩ := ye; show (y2 103) = p_1; rw [ye0]; exact yh, fun y1 y2 yw yc yI yw1 yc1 yh ye ys yk => by obtain ⟨ye0, -⟩ := ye; show AdrP p_2 1 1 (y2 104); rw [ye0]; exact yh, fun y1 y2 yw yc yI yw1 yc1 yh ye ys yk => by obtain ⟨ye0, -⟩ := ye; show (y2 105) = .agg (E26.e x.Owner).toArray; rw [ye0]; exact yh, fun y1 y2 yw yc yI yw1 yc1 yh ye ys yk => by obtain ⟨ye0, -⟩ := ye; show AdrP p_2 3 1 (y2 106); rw [ye0]; exact yh, fun y1 y2 yw yc yI yw1 yc1 yh ye ys yk => by obtain ⟨ye0, -⟩ := ye; show (y2 107) = vS x.Client; rw [ye0]; exact yh, trivial⟩ ?_)
            · rintro f_23 w_33 c_31 hB22 hs22 ⟨-⟩ o ho; obtain rfl : _ = o := Option.some.inj ho
              exact OS.move (v := p_) rfl ((hB22 0 (by kernel_rfl)).trans (show _ = p_ from rfl)) ⟨_, St.refl, rfl⟩
            · rintro f_24 w_34 c_32 hB23 hs23 ⟨-⟩ o ho; obtain rfl : _ = o := Option.some.inj ho
              have o95 := o6.keep hs23 (by decide)
              exact OS.fieldAddrBx rfl Tryd.runUnderlying44 rfl Tryd.sizeOf26 rfl ((hB23 5 (by kernel_rfl)).trans (show _ = p_2 from rfl)) o95 (fun _ h => ⟨_, St.refl, h⟩)
            · rintro f_25 w_35 c_33 hB24 hs24 ⟨g19, -⟩ o ho; obtain rfl : _ = o := Option.some.inj ho
              replace g19 : AdrP p_2 1 1 (f_25 98) := g19
              have o96 := o6.keep hs24 (by decide)
              exact OS.ldN (us := [vS x.Owner.Tenant, vS x.Owner.User]) rfl Tryd.isAgg26 Tryd.sizeOf26 rfl (o96.ldn g19 (sub_of rfl)) rfl ⟨_, St.refl, rfl⟩
            · rintro f_26 w_36 c_34 hB25 hs25 ⟨-⟩ o ho; obtain rfl : _ = o := Option.some.inj ho
              have o97 := o6.keep hs25 (by decide)
              exact OS.fieldAddrBx rfl Tryd.runUnderlying44 rfl Tryd.sizeOf9 rfl ((hB25 5 (by kernel_rfl)).trans (show _ = p_2 from rfl)) o97 (fun _ h => ⟨_, St.refl, h⟩)
            · rintro f_27 w_37 c_35 hB26 hs26 ⟨g20, -⟩ o ho; obtain rfl : _ = o := Option.some.inj ho
              replace g20 : AdrP p_2 3 1 (f_27 100) := g20
              have o98 := o6.keep hs26 (by decide)
              exact OS.ld1 (u := vS x.Client) rfl Tryd.isAgg9 rfl (o98.ldn g20 (sub_of rfl)) ⟨_, St.refl, rfl⟩
            · rintro f_28 w_38 c_36 hB27 hs27 ⟨g21, g22, g23, -⟩ o ho; obtain rfl : _ = o := Option.some.inj ho
              replace g21 : (f_28 97) = p_ := g21
              replace g22 : (f_28 99) = .agg (E26.e x.Owner).toArray := g22
              replace g23 : (f_28 101) = vS x.Client := g23
              have o99 := o.keep (s1.t hs27) (by decide)
              have o100 := o1.keep (s1.t hs27) (by decide) (by decide)
              have o101 := o2.keep (s1.t hs27) (by decide) (by decide)
              refine OS.callF (vs := [p_, .agg (E26.e x.Owner).toArray, vS x.Client]) rfl ⟨g21, g22, g23, trivial⟩ Tryd.call34 ((W34 K w_38 (rcc [3, 4, 5] c_36) (rcc_lt c_36 rfl) hr_9 (o99.tr (rc_tr (by decide))) (o100.tr (rc_tr (by decide))) (o101.tr (rc_tr (by decide)))).mono ?_)
              rintro _ yw ⟨b10, b11, yd, rfl, ys, o92, o93, o94⟩
              exact ⟨_, rfl, _, ys.mg2 (I := [3, 4, 5]) (sh := 90000) rfl, b10, b11, rfl, o92.tr (mg2_back ys rfl), o93.tr (mg2_back ys rfl), o94.tr (mg2_back ys rfl)⟩
            · rintro f_29 w_39 c_37 hB28 hs28 ⟨-⟩ o ho; obtain rfl : _ = o := Option.some.inj ho
              exact OS.move (v := p_1) rfl ((hB28 1 (by kernel_rfl)).trans (show _ = p_1 from rfl)) ⟨_, St.refl, rfl⟩
            · rintro f_30 w_40 c_38 hB29 hs29 ⟨-⟩ o ho; obtain rfl : _ = o := Option.some.inj ho
              have o102 := o6.keep hs29 (by decide)
              exact OS.fieldAddrBx rfl Tryd.runUnderlying44 rfl Tryd.sizeOf26 rfl ((hB29 5 (by kernel_rfl)).trans (show _ = p_2 from rfl)) o102 (fun _ h => ⟨_, St.refl, h⟩)
            · rintro f_31 w_41 c_39 hB30 hs30 ⟨g24, -⟩ o ho; obtain rfl : _ = o := Option.some.inj ho
              replace g24 : AdrP p_2 1 1 (f_31 104) := g24
              have o103 := o6.keep hs30 (by decide)
              exact OS.ldN (us := [vS x.Owner.Tenant, vS x.Owner.User]) rfl Tryd.isAgg26 Tryd.sizeOf26 rfl (o103.ldn g24 (sub_of rfl)) rfl ⟨_, St.refl, rfl⟩
            · rintro f_32 w_42 c_40 hB31 hs31 ⟨-⟩ o ho; obtain rfl : _ = o := Option.some.inj ho
              have o104 := o6.keep hs31 (by decide)
              exact OS.fieldAddrBx rfl Tryd.runUnderlying44 rfl Tryd.sizeOf9 rfl ((hB31 5 (by kernel_rfl)).trans (show _ = p_2 from rfl)) o104 (fun _ h => ⟨_, St.refl, h⟩)
            · rintro f_33 w_43 c_41 hB32 hs32 ⟨g25, -⟩ o ho; obtain rfl : _ = o := Option.some.inj ho
              replace g25 : AdrP p_2 3 1 (f_33 106) := g25
              have o105 := o6.keep hs32 (by decide)
              exact OS.ld1 (u := vS x.Client) rfl Tryd.isAgg9 rfl (o105.ldn g25 (sub_of rfl)) ⟨_, St.refl, rfl⟩
            · rintro f_34 w_44 c_42 hB33 hs33 ⟨g26, g27, g28, g29, -⟩
              replace g26 : ∃ (b10 : Nat) (b11 : Nat), (f_34 102) = vI r_9.1 ∧ Bx 3 w_44 c_42 p_ [(.map (some b10)), (.map (some b11))] ∧ Mp kv64 (VR.flat vv32) 4 w_44 c_42 (.map (some b10)) r_9.2.clients ∧ Mp kv67 (VR.flat vv30) 5 w_44 c_42 (.map (some b11)) r_9.2.consents := g26
              obtain ⟨b10, b11, g26, o92, o93, o94⟩ := g26
              replace g27 : (f_34 103) = p_1 := g27
              replace g28 : (f_34 105) = .agg (E26.e x.Owner).toArray := g28
              replace g29 : (f_34 107) = vS x.Client := g29
              have h9 := (hB33 0 (by kernel_rfl)).trans (show _ = p_ from rfl)
              have h10 := (hB33 1 (by kernel_rfl)).trans (show _ = p_1 from rfl)
              have o106 := o3.keep (s1.t hs33) (by decide)
              have o107 := o4.keep (s1.t hs33) (by decide)
              have o108 := o5.keep (s1.t hs33) (by decide)
              obtain ⟨r_10, hr_10, hp⟩ := bind_some hp
              refine WR.k rfl rfl rfl (OS.callF (vs := [p_1, .agg (E26.e x.Owner).toArray, vS x.Client]) rfl ⟨g27, g28, g29, trivial⟩ Tryd.call35 ((W35 (sl := sl) (sl1 := sl1) K w_44 (rcc [6] c_42) (rcc_lt c_42 rfl) hr_10 (o106.tr (rc_tr (by decide))) (o107.tr (rc_tr rfl)) (o108.tr (rc_tr rfl))).mono ?_))
              rintro _ w_45 ⟨sl10, sl11, d6, rfl, s16, o109, o110, o111⟩
              refine ⟨_, rfl, ?_⟩
              obtain ⟨c_43, s17, o109, o110, o111⟩ : ∃ c_43, St [6] w_44 c_42 w_45 c_43 ∧ Bx 6 w_45 c_43 p_1 [sl10.val, sl11.val] ∧ Vw E32 1 w_45 c_43 sl10.val r_10.2.c_ ∧ Vw E35 1 w_45 c_43 sl11.val r_10.2.a := ⟨_, s16.mg2 (sh := 100000) rfl, o109.tr (mg2_back s16 rfl), o110.tr (mg2_back s16 rfl), o111.tr (mg2_back s16 rfl)⟩
              refine WR.k rfl rfl rfl (OS.bin (a := vI r_9.1) (b := vI r_10.1) rfl g26 rfl bI_eql ?_)
              refine WR.k rfl rfl rfl (OS.assign (v := vB (decide (r_9.1 = r_10.1))) rfl rfl ?_)
              refine WR.nil ?_
              refine WC.ret ?_
              repeat first | refine thenQ_ret ?_ | refine blkQ_ret ?_
              cases hp
              have o112 := o92.keep s17 (by decide)
              have o113 := o93.keep s17 (by decide) (by decide)
              have o114 := o94.keep s17 (by decide) (by decide)
              exact fnQ.l1 (fn := Tryd.f14) rfl (.inl ⟨_, rfl, rfl⟩) ⟨_, _, _, _, _, rfl, ((s1.t hs33).t s17).leave hcw (by decide), o112, o113, o114, o109, o110, o111⟩
          · rw [if_neg (nt hb4)] at hp
            refine WC.seq (WC.region ?_)
            refine WR.k rfl rfl rfl (OS.bin (a := vI x.Kind) (b := vI (5 : Int)) rfl rfl rfl bI_eql ?_)
            refine WR.k rfl rfl rfl (OS.assign (v := vB (decide (x.Kind = (5 : Int)))) rfl rfl ?_)
            refine WR.nil ?_
            refine WC.cond (decide (x.Kind = (5 : Int))) rfl (fun hb5 => ?_) (fun hb5 => ?_)
            · rw [if_pos hb5] at hp
              have o115 := o.keep s1 (by decide)
              have o116 := o1.keep s1 (by decide) (by decide)
              have o117 := o2.keep s1 (by decide) (by decide)
              obtain ⟨r_11, hr_11, hp⟩ := bind_some hp
              refine WC.seq (WC.draw3 (c := c_) ⟨7, [[], [], [], [1, 3, 4, 5], [], [], []], [[], [], [], [3, 4, 5], [], [], []], [3, 4, 5], [[], [], [1], [0, 2], [], [], [5]], [3, 4, 6]⟩ [[], [], [], [], [3, 4, 5], [3, 4, 5], [3, 4, 5]] [[112], [113], [114], [115], [116], [117], [118]] [fun yf yw yc => (yf 112) = p_, fun yf yw yc => AdrP p_2 1 1 (yf 113), fun yf yw yc => (yf 114) = .agg (E26.e x.Owner).toArray, fun yf yw yc => ∃ (b12 : Nat) (b13 : Nat), (yf 115) = vI r_11.1 ∧ Bx 3 yw yc p_ [(.map (some b12)), (.map (some b13))] ∧ Mp kv64 (VR.flat vv32) 4 yw yc (.map (some b12)) r_11.2.clients ∧ Mp kv67 (VR.flat vv30) 5 yw yc (.map (some b13)) r_11.2.consents, fun yf yw yc => (yf 116) = p_1, fun yf yw yc => AdrP p_2 1 1 (yf 117), fun yf yw yc => (yf 118) = .agg (E26.e x.Owner).toArray] hmix (by kernel_rfl) (by kernel_rfl) ⟨?_, ?_, ?_, ?_, ?_, ?_, ?_, trivial⟩ ⟨fun y1 y2 yw yc yI yw1 yc1 yh ye ys yk => by obtain ⟨ye0, -⟩ := ye; show (y2 112) = p_; rw [ye0]; exact yh, fun y1 y2 yw yc yI yw1 yc1 yh ye ys yk => by obtain ⟨ye0, -⟩ := ye; show AdrP p_2 1 1 (y2 113); rw [ye0]; exact yh, fun y1 y2 yw yc yI yw1 yc1 yh ye ys yk => by obtain ⟨ye0, -⟩ := ye; show (y2 114) = .agg (E26.e x.Owner).toArray; rw [ye0]; exact yh, fun y1 y2 yw yc yI yw1 yc1 yh ye ys yk => by obtain ⟨ye0, -⟩ := ye; obtain ⟨b12, b13, yg, o118, o119, o120⟩ := yh; exact ⟨b12, b13, (by rw [ye0]; exact yg), o118.keep ys (yk _ (by simp)), o119.keep ys (yk _ (by simp)) (yk _ (by simp)), o120.keep ys (yk _ (by simp)) (yk _ (by simp))⟩, fun y1 y2 yw yc yI yw1 yc1 yh ye ys yk => by obtain ⟨ye0, -⟩ := ye; show (y2 116) = p_1; rw [ye0]; exact yh, fun y1 y2 yw yc yI yw1 yc1 yh ye ys yk => by obtain ⟨ye0, -⟩ := ye; show AdrP p_2 1 1 (y2 117); rw [ye0]; exact yh, fun y1 y2 yw yc yI yw1 yc1 yh ye ys yk => by obtain ⟨ye0, -⟩ := ye; show (y2 118) = .agg (E26.e x.Owner).toArray; rw [ye0]; exact yh, trivial⟩ ?_)
              · rintro f_35 w_46 c_44 hB34 hs34 ⟨-⟩ o ho; obtain rfl : _ = o := Option.some.inj ho
                exact OS.move (v := p_) rfl ((hB34 0 (by kernel_rfl)).trans (show _ = p_ from rfl)) ⟨_, St.refl, rfl⟩
              · rintro f_36 w_47 c_45 hB35 hs35 ⟨-⟩ o ho; obtain rfl : _ = o := Option.some.inj ho
                have o121 := o6.keep hs35 (by decide)
                exact OS.fieldAddrBx rfl Tryd.runUnderlying44 rfl Tryd.sizeOf26 rfl ((hB35 5 (by kernel_rfl)).trans (show _ = p_2 from rfl)) o121 (fun _ h => ⟨_, St.refl, h⟩)
              · rintro f_37 w_48 c_46 hB36 hs36 ⟨g30, -⟩ o ho; obtain rfl : _ = o := Option.some.inj ho
                replace g30 : AdrP p_2 1 1 (f_37 113) := g30
                have o122 := o6.keep hs36 (by decide)
                exact OS.ldN (us := [vS x.Owner.Tenant, vS x.Owner.User]) rfl Tryd.isAgg26 Tryd.sizeOf26 rfl (o122.ldn g30 (sub_of rfl)) rfl ⟨_, St.refl, rfl⟩
              · rintro f_38 w_49 c_47 hB37 hs37 ⟨g31, g32, -⟩ o ho; obtain rfl : _ = o := Option.some.inj ho
                replace g31 : (f_38 112) = p_ := g31
                replace g32 : (f_38 114) = .agg (E26.e x.Owner).toArray := g32
                have o123 := o.keep (s1.t hs37) (by decide)
                have o124 := o1.keep (s1.t hs37) (by decide) (by decide)
                have o125 := o2.keep (s1.t hs37) (by decide) (by decide)
                refine OS.callF (vs := [p_, .agg (E26.e x.Owner).toArray]) rfl ⟨g31, g32, trivial⟩ Tryd.call12 ((W12 K w_49 (rcc [3, 4, 5] c_47) (rcc_lt c_47 rfl) hr_11 (o123.tr (rc_tr (by decide))) (o124.tr (rc_tr (by decide))) (o125.tr (rc_tr (by decide)))).mono ?_)
                rintro _ yw ⟨b12, b13, yd, rfl, ys, o118, o119, o120⟩
                exact ⟨_, rfl, _, ys.mg2 (I := [3, 4, 5]) (sh := 110000) rfl, b12, b13, rfl, o118.tr (mg2_back ys rfl), o119.tr (mg2_back ys rfl), o120.tr (mg2_back ys rfl)⟩
              · rintro f_39 w_50 c_48 hB38 hs38 ⟨-⟩ o ho; obtain rfl : _ = o := Option.some.inj ho
                exact OS.move (v := p_1) rfl ((hB38 1 (by kernel_rfl)).trans (show _ = p_1 from rfl)) ⟨_, St.refl, rfl⟩
              · rintro f_40 w_51 c_49 hB39 hs39 ⟨-⟩ o ho; obtain rfl : _ = o := Option.some.inj ho
                have o126 := o6.keep hs39 (by decide)
                exact OS.fieldAddrBx rfl Tryd.runUnderlying44 rfl Tryd.sizeOf26 rfl ((hB39 5 (by kernel_rfl)).trans (show _ = p_2 from rfl)) o126 (fun _ h => ⟨_, St.refl, h⟩)
              · rintro f_41 w_52 c_50 hB40 hs40 ⟨g33, -⟩ o ho; obtain rfl : _ = o := Option.some.inj ho
                replace g33 : AdrP p_2 1 1 (f_41 117) := g33
                have o127 := o6.keep hs40 (by decide)
                exact OS.ldN (us := [vS x.Owner.Tenant, vS x.Owner.User]) rfl Tryd.isAgg26 Tryd.sizeOf26 rfl (o127.ldn g33 (sub_of rfl)) rfl ⟨_, St.refl, rfl⟩
              · rintro f_42 w_53 c_51 hB41 hs41 ⟨g34, g35, g36, -⟩
                replace g34 : ∃ (b12 : Nat) (b13 : Nat), (f_42 115) = vI r_11.1 ∧ Bx 3 w_53 c_51 p_ [(.map (some b12)), (.map (some b13))] ∧ Mp kv64 (VR.flat vv32) 4 w_53 c_51 (.map (some b12)) r_11.2.clients ∧ Mp kv67 (VR.flat vv30) 5 w_53 c_51 (.map (some b13)) r_11.2.consents := g34
                obtain ⟨b12, b13, g34, o118, o119, o120⟩ := g34
                replace g35 : (f_42 116) = p_1 := g35
                replace g36 : (f_42 118) = .agg (E26.e x.Owner).toArray := g36
                have h11 := (hB41 0 (by kernel_rfl)).trans (show _ = p_ from rfl)
                have h12 := (hB41 1 (by kernel_rfl)).trans (show _ = p_1 from rfl)
                have o128 := o3.keep (s1.t hs41) (by decide)
                have o129 := o4.keep (s1.t hs41) (by decide)
                have o130 := o5.keep (s1.t hs41) (by decide)
                obtain ⟨r_12, hr_12, hp⟩ := bind_some hp
                refine WR.k rfl rfl rfl (OS.callF (vs := [p_1, .agg (E26.e x.Owner).toArray]) rfl ⟨g35, g36, trivial⟩ Tryd.call36 ((W36 (sl := sl) (sl1 := sl1) K w_53 (rcc [6] c_51) (rcc_lt c_51 rfl) hr_12 (o128.tr (rc_tr (by decide))) (o129.tr (rc_tr rfl)) (o130.tr (rc_tr rfl))).mono ?_))
                rintro _ w_54 ⟨sl12, sl13, d7, rfl, s18, o131, o132, o133⟩
                refine ⟨_, rfl, ?_⟩
                obtain ⟨c_52, s19, o131, o132, o133⟩ : ∃ c_52, St [6] w_53 c_51 w_54 c_52 ∧ Bx 6 w_54 c_52 p_1 [sl12.val, sl13.val] ∧ Vw E32 1 w_54 c_52 sl12.val r_12.2.c_ ∧ Vw E35 1 w_54 c_52 sl13.val r_12.2.a := ⟨_, s18.mg2 (sh := 120000) rfl, o131.tr (mg2_back s18 rfl), o132.tr (mg2_back s18 rfl), o133.tr (mg2_back s18 rfl)⟩
                refine WR.k rfl rfl rfl (OS.bin (a := vI r_11.1) (b := vI r_12.1) rfl g34 rfl bI_eql ?_)
                refine WR.k rfl rfl rfl (OS.assign (v := vB (decide (r_11.1 = r_12.1))) rfl rfl ?_)
                refine WR.nil ?_
                refine WC.ret ?_
                repeat first | refine thenQ_ret ?_ | refine blkQ_ret ?_
                cases hp
                have o134 := o118.keep s19 (by decide)
                have o135 := o119.keep s19 (by decide) (by decide)
                have o136 := o120.keep s19 (by decide) (by decide)
                exact fnQ.l1 (fn := Tryd.f14) rfl (.inl ⟨_, rfl, rfl⟩) ⟨_, _, _, _, _, rfl, ((s1.t hs41).t s19).leave hcw (by decide), o134, o135, o136, o131, o132, o133⟩
            · rw [if_neg (nt hb5)] at hp
              refine WC.skip ?_
              have o137 := o.keep s1 (by decide)
              have o138 := o1.keep s1 (by decide) (by decide)
              have o139 := o2.keep s1 (by decide) (by decide)
              obtain ⟨r_13, hr_13, hp⟩ := bind_some hp
              refine WC.seq (WC.draw3 (c := c_) ⟨19, [[], [], [], [], [], [], [], [], [], [], [], [], [], [], [], [], [], [], []], [[], [], [], [], [], [], [], [], [], [], [], [], [], [], [], [], [], [], []], [], [[], [], [1], [], [3], [], [5], [], [7], [0, 2, 4, 6, 8], [], [], [11], [], [13], [], [15], [], [17]], [9, 10, 12, 14, 16, 18]⟩ [[], [], [], [], [], [], [], [], [], [], [], [], [], [], [], [], [], [], []] [[121], [122], [123], [124], [125], [126], [127], [128], [129], [130], [131], [132], [133], [134], [135], [136], [137], [138], [139]] [fun yf yw yc => (yf 121) = p_, fun yf yw yc => AdrP p_2 1 1 (yf 122), fun yf yw yc => (yf 123) = .agg (E26.e x.Owner).toArray, fun yf yw yc => AdrP p_2 3 1 (yf 124), fun yf yw yc => (yf 125) = vS x.Client, fun yf yw yc => AdrP p_2 4 1 (yf 126), fun yf yw yc => (yf 127) = vS x.Redirect, fun yf yw yc => AdrP p_2 5 1 (yf 128), fun yf yw yc => (yf 129) = vU8 x.Scopes, fun yf yw yc => (yf 130) = vI r_13, fun yf yw yc => (yf 131) = p_1, fun yf yw yc => AdrP p_2 1 1 (yf 132), fun yf yw yc => (yf 133) = .agg (E26.e x.Owner).toArray, fun yf yw yc => AdrP p_2 3 1 (yf 134), fun yf yw yc => (yf 135) = vS x.Client, fun yf yw yc => AdrP p_2 4 1 (yf 136), fun yf yw yc => (yf 137) = vS x.Redirect, fun yf yw yc => AdrP p_2 5 1 (yf 138), fun yf yw yc => (yf 139) = vU8 x.Scopes] hmix (by kernel_rfl) (by kernel_rfl) ⟨?_, ?_, ?_, ?_, ?_, ?_, ?_, ?_, ?_, ?_, ?_, ?_, ?_, ?_, ?_, ?_, ?_, ?_, ?_, trivial⟩ ⟨fun y1 y2 yw yc yI yw1 yc1 yh ye ys yk => by obtain ⟨ye0, -⟩ := ye; show (y2 121) = p_; rw [ye0]; exact yh, fun y1 y2 yw yc yI yw1 yc1 yh ye ys yk => by obtain ⟨ye0, -⟩ := ye; show AdrP p_2 1 1 (y2 122); rw [ye0]; exact yh, fun y1 y2 yw yc yI yw1 yc1 yh ye ys yk => by obtain ⟨ye0, -⟩ := ye; show (y2 123) = .agg (E26.e x.Owner).toArray; rw [ye0]; exact yh, fun y1 y2 yw yc yI yw1 yc1 yh ye ys yk => by obtain ⟨ye0, -⟩ := ye; show AdrP p_2 3 1 (y2 124); rw [ye0]; exact yh, fun y1 y2 yw yc yI yw1 yc1 yh ye ys yk => by obtain ⟨ye0, -⟩ := ye; show (y2 125) = vS x.Client; rw [ye0]; exact yh, fun y1 y2 yw yc yI yw1 yc1 yh ye ys yk => by obtain ⟨ye0, -⟩ := ye; show AdrP p_2 4 1 (y2 126); rw [ye0]; exact yh, fun y1 y2 yw yc yI yw1 yc1 yh ye ys yk => by obtain ⟨ye0, -⟩ := ye; show (y2 127) = vS x.Redirect; rw [ye0]; exact yh, fun y1 y2 yw yc yI yw1 yc1 yh ye ys yk => by obtain ⟨ye0, -⟩ := ye; show AdrP p_2 5 1 (y2 128); rw [ye0]; exact yh, fun y1 y2 yw yc yI yw1 yc1 yh ye ys yk => by obtain ⟨ye0, -⟩ := ye; show (y2 129) = vU8 x.Scopes; rw [ye0]; exact yh, fun y1 y2 yw yc yI yw1 yc1 yh ye ys yk => by obtain ⟨ye0, -⟩ := ye; show (y2 130) = vI r_13; rw [ye0]; exact yh, fun y1 y2 yw yc yI yw1 yc1 yh ye ys yk => by obtain ⟨ye0, -⟩ := ye; show (y2 131) = p_1; rw [ye0]; exact yh, fun y1 y2 yw yc yI yw1 yc1 yh ye ys yk => by obtain ⟨ye0, -⟩ := ye; show AdrP p_2 1 1 (y2 132); rw [ye0]; exact yh, fun y1 y2 yw yc yI yw1 yc1 yh ye ys yk => by obtain ⟨ye0, -⟩ := ye; show (y2 133) = .agg (E26.e x.Owner).toArray; rw [ye0]; exact yh, fun y1 y2 yw yc yI yw1 yc1 yh ye ys yk => by obtain ⟨ye0, -⟩ := ye; show AdrP p_2 3 1 (y2 134); rw [ye0]; exact yh, fun y1 y2 yw yc yI yw1 yc1 yh ye ys yk => by obtain ⟨ye0, -⟩ := ye; show (y2 135) = vS x.Client; rw [ye0]; exact yh, fun y1 y2 yw yc yI yw1 yc1 yh ye ys yk => by obtain ⟨ye0, -⟩ := ye; show AdrP p_2 4 1 (y2 136); rw [ye0]; exact yh, fun y1 y2 yw yc yI yw1 yc1 yh ye ys yk => by obtain ⟨ye0, -⟩ := ye; show (y2 137) = vS x.Redirect; rw [ye0]; exact yh, fun y1 y2 yw yc yI yw1 yc1 yh ye ys yk => by obtain ⟨ye0, -⟩ := ye; show AdrP p_2 5 1 (y2 138); rw [ye0]; exact yh, fun y1 y2 yw yc yI yw1 yc1 yh ye ys yk => by obtain ⟨ye0, -⟩ := ye; show (y2 139) = vU8 x.Scopes; rw [ye0]; exact yh, trivial⟩ ?_)
              · rintro f_43 w_55 c_53 hB42 hs42 ⟨-⟩ o ho; obtain rfl : _ = o := Option.some.inj ho
                exact OS.move (v := p_) rfl ((hB42 0 (by kernel_rfl)).trans (show _ = p_ from rfl)) ⟨_, St.refl, rfl⟩
              · rintro f_44 w_56 c_54 hB43 hs43 ⟨-⟩ o ho; obtain rfl : _ = o := Option.some.inj ho
                have o140 := o6.keep hs43 (by decide)
                exact OS.fieldAddrBx rfl Tryd.runUnderlying44 rfl Tryd.sizeOf26 rfl ((hB43 5 (by kernel_rfl)).trans (show _ = p_2 from rfl)) o140 (fun _ h => ⟨_, St.refl, h⟩)
              · rintro f_45 w_57 c_55 hB44 hs44 ⟨g37, -⟩ o ho; obtain rfl : _ = o := Option.some.inj ho
                replace g37 : AdrP p_2 1 1 (f_45 122) := g37
                have o141 := o6.keep hs44 (by decide)
                exact OS.ldN (us := [vS x.Owner.Tenant, vS x.Owner.User]) rfl Tryd.isAgg26 Tryd.sizeOf26 rfl (o141.ldn g37 (sub_of rfl)) rfl ⟨_, St.refl, rfl⟩
              · rintro f_46 w_58 c_56 hB45 hs45 ⟨-⟩ o ho; obtain rfl : _ = o := Option.some.inj ho
                have o142 := o6.keep hs45 (by decide)
                exact OS.fieldAddrBx rfl Tryd.runUnderlying44 rfl Tryd.sizeOf9 rfl ((hB45 5 (by kernel_rfl)).trans (show _ = p_2 from rfl)) o142 (fun _ h => ⟨_, St.refl, h⟩)
              · rintro f_47 w_59 c_57 hB46 hs46 ⟨g38, -⟩ o ho; obtain rfl : _ = o := Option.some.inj ho
                replace g38 : AdrP p_2 3 1 (f_47 124) := g38
                have o143 := o6.keep hs46 (by decide)
                exact OS.ld1 (u := vS x.Client) rfl Tryd.isAgg9 rfl (o143.ldn g38 (sub_of rfl)) ⟨_, St.refl, rfl⟩
              · rintro f_48 w_60 c_58 hB47 hs47 ⟨-⟩ o ho; obtain rfl : _ = o := Option.some.inj ho
                have o144 := o6.keep hs47 (by decide)
                exact OS.fieldAddrBx rfl Tryd.runUnderlying44 rfl Tryd.sizeOf9 rfl ((hB47 5 (by kernel_rfl)).trans (show _ = p_2 from rfl)) o144 (fun _ h => ⟨_, St.refl, h⟩)
              · rintro f_49 w_61 c_59 hB48 hs48 ⟨g39, -⟩ o ho; obtain rfl : _ = o := Option.some.inj ho
                replace g39 : AdrP p_2 4 1 (f_49 126) := g39
                have o145 := o6.keep hs48 (by decide)
                exact OS.ld1 (u := vS x.Redirect) rfl Tryd.isAgg9 rfl (o145.ldn g39 (sub_of rfl)) ⟨_, St.refl, rfl⟩
              · rintro f_50 w_62 c_60 hB49 hs49 ⟨-⟩ o ho; obtain rfl : _ = o := Option.some.inj ho
                have o146 := o6.keep hs49 (by decide)
                exact OS.fieldAddrBx rfl Tryd.runUnderlying44 rfl Tryd.sizeOf30 rfl ((hB49 5 (by kernel_rfl)).trans (show _ = p_2 from rfl)) o146 (fun _ h => ⟨_, St.refl, h⟩)
              · rintro f_51 w_63 c_61 hB50 hs50 ⟨g40, -⟩ o ho; obtain rfl : _ = o := Option.some.inj ho
                replace g40 : AdrP p_2 5 1 (f_51 128) := g40
                have o147 := o6.keep hs50 (by decide)
                exact OS.ld1 (u := vU8 x.Scopes) rfl Tryd.isAgg30 rfl (o147.ldn g40 (sub_of rfl)) ⟨_, St.refl, rfl⟩
              · rintro f_52 w_64 c_62 hB51 hs51 ⟨g41, g42, g43, g44, g45, -⟩ o ho; obtain rfl : _ = o := Option.some.inj ho
                replace g41 : (f_52 121) = p_ := g41
                replace g42 : (f_52 123) = .agg (E26.e x.Owner).toArray := g42
                replace g43 : (f_52 125) = vS x.Client := g43
                replace g44 : (f_52 127) = vS x.Redirect := g44
                replace g45 : (f_52 129) = vU8 x.Scopes := g45
                have o148 := o.keep (s1.t hs51) (by decide)
                have o149 := o1.keep (s1.t hs51) (by decide) (by decide)
                have o150 := o2.keep (s1.t hs51) (by decide) (by decide)
                refine OS.callF (vs := [p_, .agg (E26.e x.Owner).toArray, vS x.Client, vS x.Redirect, vU8 x.Scopes]) rfl ⟨g41, g42, g43, g44, g45, trivial⟩ Tryd.call17 ((W17 K w_64 (rcc [3, 4, 5] c_62) (rcc_lt c_62 rfl) hr_13 (o148.tr (rc_tr (by decide))) (o149.tr (rc_tr (by decide))) (o150.tr (rc_tr (by decide)))).mono ?_)
                rintro _ yw ⟨yd, rfl, ys⟩
                exact ⟨_, rfl, _, ys.mg2 (I := []) (sh := 130000) rfl, rfl⟩
              · rintro f_53 w_65 c_63 hB52 hs52 ⟨-⟩ o ho; obtain rfl : _ = o := Option.some.inj ho
                exact OS.move (v := p_1) rfl ((hB52 1 (by kernel_rfl)).trans (show _ = p_1 from rfl)) ⟨_, St.refl, rfl⟩
              · rintro f_54 w_66 c_64 hB53 hs53 ⟨-⟩ o ho; obtain rfl : _ = o := Option.some.inj ho
                have o151 := o6.keep hs53 (by decide)
                exact OS.fieldAddrBx rfl Tryd.runUnderlying44 rfl Tryd.sizeOf26 rfl ((hB53 5 (by kernel_rfl)).trans (show _ = p_2 from rfl)) o151 (fun _ h => ⟨_, St.refl, h⟩)
              · rintro f_55 w_67 c_65 hB54 hs54 ⟨g46, -⟩ o ho; obtain rfl : _ = o := Option.some.inj ho
                replace g46 : AdrP p_2 1 1 (f_55 132) := g46
                have o152 := o6.keep hs54 (by decide)
                exact OS.ldN (us := [vS x.Owner.Tenant, vS x.Owner.User]) rfl Tryd.isAgg26 Tryd.sizeOf26 rfl (o152.ldn g46 (sub_of rfl)) rfl ⟨_, St.refl, rfl⟩
              · rintro f_56 w_68 c_66 hB55 hs55 ⟨-⟩ o ho; obtain rfl : _ = o := Option.some.inj ho
                have o153 := o6.keep hs55 (by decide)
                exact OS.fieldAddrBx rfl Tryd.runUnderlying44 rfl Tryd.sizeOf9 rfl ((hB55 5 (by kernel_rfl)).trans (show _ = p_2 from rfl)) o153 (fun _ h => ⟨_, St.refl, h⟩)
              · rintro f_57 w_69 c_67 hB56 hs56 ⟨g47, -⟩ o ho; obtain rfl : _ = o := Option.some.inj ho
                replace g47 : AdrP p_2 3 1 (f_57 134) := g47
                have o154 := o6.keep hs56 (by decide)
                exact OS.ld1 (u := vS x.Client) rfl Tryd.isAgg9 rfl (o154.ldn g47 (sub_of rfl)) ⟨_, St.refl, rfl⟩
              · rintro f_58 w_70 c_68 hB57 hs57 ⟨-⟩ o ho; obtain rfl : _ = o := Option.some.inj ho
                have o155 := o6.keep hs57 (by decide)
                exact OS.fieldAddrBx rfl Tryd.runUnderlying44 rfl Tryd.sizeOf9 rfl ((hB57 5 (by kernel_rfl)).trans (show _ = p_2 from rfl)) o155 (fun _ h => ⟨_, St.refl, h⟩)
              · rintro f_59 w_71 c_69 hB58 hs58 ⟨g48, -⟩ o ho; obtain rfl : _ = o := Option.some.inj ho
                replace g48 : AdrP p_2 4 1 (f_59 136) := g48
                have o156 := o6.keep hs58 (by decide)
                exact OS.ld1 (u := vS x.Redirect) rfl Tryd.isAgg9 rfl (o156.ldn g48 (sub_of rfl)) ⟨_, St.refl, rfl⟩
              · rintro f_60 w_72 c_70 hB59 hs59 ⟨-⟩ o ho; obtain rfl : _ = o := Option.some.inj ho
                have o157 := o6.keep hs59 (by decide)
                exact OS.fieldAddrBx rfl Tryd.runUnderlying44 rfl Tryd.sizeOf30 rfl ((hB59 5 (by kernel_rfl)).trans (show _ = p_2 from rfl)) o157 (fun _ h => ⟨_, St.refl, h⟩)
              · rintro f_61 w_73 c_71 hB60 hs60 ⟨g49, -⟩ o ho; obtain rfl : _ = o := Option.some.inj ho
                replace g49 : AdrP p_2 5 1 (f_61 138) := g49
                have o158 := o6.keep hs60 (by decide)
                exact OS.ld1 (u := vU8 x.Scopes) rfl Tryd.isAgg30 rfl (o158.ldn g49 (sub_of rfl)) ⟨_, St.refl, rfl⟩
              · rintro f_62 w_74 c_72 hB61 hs61 ⟨g50, g51, g52, g53, g54, g55, -⟩
                replace g50 : (f_62 130) = vI r_13 := g50
                replace g51 : (f_62 131) = p_1 := g51
                replace g52 : (f_62 133) = .agg (E26.e x.Owner).toArray := g52
                replace g53 : (f_62 135) = vS x.Client := g53
                replace g54 : (f_62 137) = vS x.Redirect := g54
                replace g55 : (f_62 139) = vU8 x.Scopes := g55
                have h13 := (hB61 0 (by kernel_rfl)).trans (show _ = p_ from rfl)
                have h14 := (hB61 1 (by kernel_rfl)).trans (show _ = p_1 from rfl)
                have o159 := o3.keep (s1.t hs61) (by decide)
                have o160 := o4.keep (s1.t hs61) (by decide)
                have o161 := o5.keep (s1.t hs61) (by decide)
                obtain ⟨r_14, hr_14, hp⟩ := bind_some hp
                refine WR.k rfl rfl rfl (OS.callF (vs := [p_1, .agg (E26.e x.Owner).toArray, vS x.Client, vS x.Redirect, vU8 x.Scopes]) rfl ⟨g51, g52, g53, g54, g55, trivial⟩ Tryd.call37 ((W37 (sl := sl) (sl1 := sl1) K w_74 (rcc [6] c_72) (rcc_lt c_72 rfl) hr_14 (o159.tr (rc_tr (by decide))) (o160.tr (rc_tr rfl)) (o161.tr (rc_tr rfl))).mono ?_))
                rintro _ w_75 ⟨d8, rfl, s20⟩
                refine ⟨_, rfl, ?_⟩
                obtain ⟨c_73, s21⟩ : ∃ c_73, St [] w_74 c_72 w_75 c_73 := ⟨_, s20.mg2 (sh := 140000) rfl⟩
                refine WR.k rfl rfl rfl (OS.bin (a := vI r_13) (b := vI r_14) rfl g50 rfl bI_eql ?_)
                refine WR.k rfl rfl rfl (OS.assign (v := vB (decide (r_13 = r_14))) rfl rfl ?_)
                refine WR.nil ?_
                refine WC.ret ?_
                repeat first | refine thenQ_ret ?_ | refine blkQ_ret ?_
                cases hp
                have o162 := o137.keep (hs61.t s21) (by decide)
                have o163 := o138.keep (hs61.t s21) (by decide) (by decide)
                have o164 := o139.keep (hs61.t s21) (by decide) (by decide)
                have o165 := o159.keep s21 (by decide)
                have o166 := o160.keep s21 (by decide)
                have o167 := o161.keep s21 (by decide)
                exact fnQ.l1 (fn := Tryd.f14) rfl (.inl ⟨_, rfl, rfl⟩) ⟨_, _, _, _, _, rfl, ((s1.t hs61).t s21).leave hcw (by decide), o162, o163, o164, o165, o166, o167⟩

-- (*holdfast/grant.Store).Client
set_option maxHeartbeats 4000000 in
theorem W16 (K : Nat) (w0 : World) (cw : Col) (hcw : ∀ b, cw b < 40) {s : S_grant_Store} {tenant : List UInt8} {client : List UInt8} {r : S_api_Client × Int} (hp : grant_Store_Client K s tenant client = some r) {b : Nat} {b1 : Nat} {p_ : Value} (o : Bx 3 w0 cw p_ [(.map (some b)), (.map (some b1))]) (o1 : Mp kv64 (VR.flat vv32) 4 w0 cw (.map (some b)) s.clients) (o2 : Mp kv67 (VR.flat vv30) 5 w0 cw (.map (some b1)) s.consents) :
    Calls Tryd.prog 16 [p_, vS tenant, vS client].toArray w0 fun e w1 => ∃ (d : Col), e = .returned (.tuple #[.agg (E32.e r.1).toArray, vI r.2]) ∧ St [] w0 cw w1 d := by
  refine calls_intro Tryd.func16 rfl Tryd.ntmps16 rfl ?_
  unfold grant_Store_Client at hp
  refine WC.seq (WC.region ?_)
  refine WR.k rfl rfl rfl (OS.allocBx (us := [vS ([] : List UInt8), vS ([] : List UInt8), vS ([] : List UInt8), vU8 (0 : UInt8)]) (c := cw) 40 rfl Tryd.zeroValue32 rfl ?_); intro p_1 w_ c_ o3 s1
  refine WR.k rfl rfl rfl (OS.assign (v := vI (0 : Int)) rfl rfl ?_)
  refine WR.nil ?_
  refine WC.seq (WC.region ?_)
  refine WR.k rfl rfl rfl (OS.move (v := p_) rfl rfl ?_)
  refine WR.k rfl rfl rfl (OS.move (v := vS tenant) rfl rfl ?_)
  refine WR.k rfl rfl rfl (OS.move (v := vS client) rfl rfl ?_)
  have o4 := o.keep s1 (by decide)
  have o5 := o1.keep s1 (by decide) (by decide)
  have o6 := o2.keep s1 (by decide) (by decide)
  obtain ⟨r_, hr_, hp⟩ := bind_some hp
  refine WR.k rfl rfl rfl (OS.callF (vs := [p_, vS tenant, vS client]) rfl ⟨rfl, rfl, rfl, trivial⟩ Tryd.call22 ((W22 K w_ (rcc [3, 4, 5] c_) (rcc_lt c_ rfl) hr_ (o4.tr (rc_tr (by decide))) (o5.tr (rc_tr (by decide))) (o6.tr (rc_tr (by decide)))).mono ?_))
  rintro _ w_1 ⟨d1, rfl, s2⟩
  refine ⟨_, rfl, ?_⟩
  obtain ⟨c_1, s3⟩ : ∃ c_1, St [] w_ c_ w_1 c_1 := ⟨_, s2.mg2 (sh := 10000) rfl⟩
  refine WR.k rfl rfl rfl (OS.extract (v := .agg (E32.e r_.1).toArray) rfl rfl rfl ?_)
  refine WR.k rfl rfl rfl (OS.extract (v := vI r_.2) rfl rfl rfl ?_)
  have o7 := o3.keep s3 (by decide)
  refine WR.k0 rfl rfl (OS.stBxAll (v := .agg (E32.e r_.1).toArray) (ws := [vS r_.1.Tenant, vS r_.1.Name, vS r_.1.Redirect, vU8 r_.1.Scopes]) rfl Tryd.sizeOf32 rfl rfl rfl o7 rfl rfl (one_of rfl) ?_); intro w_2 o8 s4
  refine WR.k rfl rfl rfl (OS.assign (v := vI r_.2) rfl rfl ?_)
  refine WR.nil ?_
  refine WC.ret ?_
  repeat first | refine thenQ_ret ?_ | refine blkQ_ret ?_
  cases hp
  exact fnQ.ls (fn := Tryd.f16) (rs := [.cell 6 32, .tmp 7]) (vs := [.agg (E32.e r_.1).toArray, vI r_.2]) rfl ⟨(.inr ⟨_, _, _, _, rfl, ⟨_, rfl, Tryd.isAgg32, Tryd.sizeOf32, o8.ldAll, rfl⟩, rfl⟩), (.inl ⟨_, rfl, rfl⟩), trivial⟩ ⟨_, rfl, ((s1.t s3).t s4).leave hcw (by decide)⟩ (by simp)
end Go.Proofs.YtjgbakieogadfaaDoor
