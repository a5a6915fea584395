import Derived.Test.YtjgbakieogadfabGreatDoorWalks1
namespace Go.Proofs.YtjgbakieogadfabGreatDoor
open Go Go.Proofs L
set_option linter.unusedVariables false

-- holdfast/seal.eight
set_option maxHeartbeats 4000000 in
theorem W60 (K : Nat) (w0 : World) {n1 : UInt64} {r : (List UInt8)} (hp : seal_eight K n1 = some r) :
    Calls Tryz.prog 60 [vU64 n1].toArray w0 fun e w1 => ∃ (v0 : Value) (d : Col), e = .returned (v0) ∧ St [] w0 c0 w1 d ∧ Ow E5 2 w1 d v0 r := by
  refine calls_intro Tryz.func60 rfl Tryz.ntmps60 rfl ?_
  unfold seal_eight at hp
  refine WC.seq (WC.region ?_)
  refine WR.k rfl rfl rfl (OS.assign (v := (.slice none 0 0)) rfl rfl ?_)
  refine WR.nil ?_
  refine WC.seq (WC.region ?_)
  obtain ⟨out, hout, hp⟩ := bind_some hp
  replace hout := (Option.some.inj hout).symm
  refine WR.k rfl rfl rfl (OS.make (E := E5) (c := c0) (z0 := (0 : UInt8)) 12 rfl Tryz.underlying25 I5 rfl rfl rfl rfl rfl (by decide) (by decide) (by decide) (by decide) ?_); intro v_ w_ c_ o s
  replace o : Ow E5 12 w_ c_ v_ out := by rw [hout]; exact o
  refine WR.k rfl rfl rfl (OS.assign (v := v_) rfl rfl ?_)
  refine WR.nil ?_
  refine WC.seq ?_
  refine WC.seq (WC.region ?_)
  refine WR.k rfl rfl rfl (OS.move (v := v_) rfl rfl ?_)
  refine WR.k rfl rfl rfl (OS.lenSl rfl Tryz.runUnderlying25 rfl o.isSl ?_)
  refine WR.k rfl rfl rfl (OS.move (v := vI (0 : Int)) rfl rfl ?_)
  refine WR.nil ?_
  obtain ⟨q, hl, hp⟩ := bind_some hp
  obtain ⟨out2, hx⟩ : ∃ z, z = q := ⟨_, rfl⟩; subst hx
  refine WC.blockJ2 (fun f_ w_1 => ∃ (c_1 : Col), f_ 3 = v_ ∧ Ow E5 12 w_1 c_1 v_ out2 ∧ St [12] w_ c_ w_1 c_1) ?_ ?_
  · refine WC.loop (fun n => fun f_1 w_2 => ∃ (out1 : List UInt8) (x8 : Int) (c_2 : Col), seal_eight.l1 n out n1 out1 x8 = some out2 ∧ f_1 0 = vU64 n1 ∧ f_1 3 = v_ ∧ Ow E5 12 w_2 c_2 v_ out1 ∧ f_1 7 = vI (out.length : Int) ∧ f_1 8 = vI x8 ∧ St [12] w_ c_ w_2 c_2) K ⟨_, _, _, hl, rfl, rfl, o, rfl, rfl, St.refl.mono (by decide)⟩ ?_
    rintro n f_1 w_2 ⟨out1, x8, c_2, hl, h, h1, o1, h2, h3, s1⟩
    cases n with
    | zero => exact absurd hl (by simp [seal_eight.l1])
    | succ k =>
    rw [seal_eight.l1] at hl
    refine WC.seq (WC.region ?_)
    refine WR.k rfl rfl rfl (OS.bin (a := vI x8) (b := vI (out.length : Int)) rfl h3 h2 bI_lss ?_)
    refine WR.nil ?_
    refine WC.seq ?_
    refine WC.cond (decide (x8 < (out.length : Int))) rfl (fun hb => ?_) (fun hb => ?_)
    · rw [if_pos hb] at hl
      refine WC.skip ?_
      refine WC.seq ?_
      refine WC.block ?_
      refine WC.seq (WC.region ?_)
      refine WR.k rfl rfl rfl (OS.move (v := vI x8) rfl h3 ?_)
      refine WR.k rfl rfl rfl (OS.assign (v := vI x8) rfl rfl ?_)
      refine WR.nil ?_
      refine WC.region ?_
      refine WR.k rfl rfl rfl (OS.move (v := v_) rfl h1 ?_)
      refine WR.k rfl rfl rfl (OS.move (v := vI x8) rfl rfl ?_)
      refine WR.k rfl rfl rfl (OS.move (v := vU64 n1) rfl h ?_)
      refine WR.k rfl rfl rfl (OS.move (v := vI x8) rfl rfl ?_)
      refine WR.k rfl rfl rfl (OS.bin (a := vI (8 : Int)) (b := vI x8) rfl rfl rfl bI_mul ?_)
      refine WR.k rfl rfl rfl (OS.bin (a := vI (56 : Int)) (b := vI (W ((8 : Int) * x8))) rfl rfl rfl bI_sub ?_)
      obtain ⟨k1, hk1, hl⟩ := bind_some hl
      obtain ⟨ha, hk1⟩ := shc_some hk1
      refine WR.k rfl rfl rfl (OS.bin (a := vU64 n1) (b := vI (W ((56 : Int) - (W ((8 : Int) * x8))))) rfl rfl rfl (b64_shr ha) ?_)
      refine WR.k rfl rfl rfl (OS.conv rfl Tryz.runUnderlying76 Tryz.runUnderlying5 rfl (cv_64_8 _) ?_)
      obtain ⟨u, hu, hl⟩ := bind_some hl
      obtain ⟨ha1, hb1⟩ := req_some hu
      refine WR.k rfl rfl rfl (OS.idx rfl Tryz.runUnderlying25 Tryz.sizeOf5 rfl o1.isSl rfl ha1 hb1 ?_); intro p_ a1
      obtain ⟨out3, hout3, hl⟩ := bind_some hl
      replace hout3 := (Option.some.inj hout3).symm
      refine WR.k0 rfl rfl (OS.stOwn (q := (shr64 n1 (W ((56 : Int) - (W ((8 : Int) * x8)))).toNat).toUInt8) (u := vU8 ((shr64 n1 (W ((56 : Int) - (W ((8 : Int) * x8)))).toNat).toUInt8)) rfl Tryz.sizeOf5 rfl rfl o1 rfl a1 (by omega) rfl ?_); intro w_3 o3 s2
      replace o3 : Ow E5 12 w_3 c_2 v_ out3 := by rw [hout3]; exact o3
      refine WR.nil ?_
      refine WC.region ?_
      refine WR.k rfl rfl rfl (OS.bin (a := vI x8) (b := vI (1 : Int)) rfl h3 rfl bI_add ?_)
      refine WR.k rfl rfl rfl (OS.move (v := vI (W (x8 + (1 : Int)))) rfl rfl ?_)
      refine WR.nil ?_
      exact ⟨k, by omega, _, _, _, hl, h, h1, o3, h2, rfl, (s1.t s2).mono (by decide)⟩
    · rw [if_neg (nt hb)] at hl
      refine WC.exit ?_
      cases hl
      exact ⟨_, h1, o1, s1.mono (by decide)⟩
  · rintro f_ w_1 ⟨c_1, h4, o2, s3⟩
    refine WC.seq (WC.region ?_)
    refine WR.k rfl rfl rfl (OS.move (v := v_) rfl h4 ?_)
    refine WR.k rfl rfl rfl (OS.assign (v := v_) rfl rfl ?_)
    refine WR.nil ?_
    refine WC.ret ?_
    repeat first | refine thenQ_ret ?_ | refine blkQ_ret ?_
    cases hp
    obtain ⟨c_3, s4, o4⟩ := o2.recol 2
    exact fnQ.l1 (fn := Tryz.f60) rfl (.inl ⟨_, rfl, rfl⟩) ⟨_, _, rfl, ((s.t s3).t s4).entry (by decide), o4⟩

-- slices.Grow[[]byte,byte]
set_option maxHeartbeats 4000000 in
theorem W160 (K : Nat) (w0 : World) {n1 : Int} {r : (List UInt8)} (hp : slices_Grow_byte_byte K n1 = some r) :
    Calls Tryz.prog 160 [(.slice none 0 0), vI n1].toArray w0 fun e w1 => ∃ (v0 : Value) (d : Col), e = .returned (v0) ∧ St [] w0 c0 w1 d ∧ Ow E5 2 w1 d v0 r := by
  refine calls_intro Tryz.func160 rfl Tryz.ntmps160 rfl ?_
  unfold slices_Grow_byte_byte at hp
  refine WC.seq (WC.region ?_)
  refine WR.k rfl rfl rfl (OS.assign (v := (.slice none 0 0)) rfl rfl ?_)
  refine WR.nil ?_
  refine WC.seq ?_
  refine WC.seq (WC.region ?_)
  refine WR.k rfl rfl rfl (OS.move (v := vI n1) rfl rfl ?_)
  refine WR.k rfl rfl rfl (OS.bin (a := vI n1) (b := vI (0 : Int)) rfl rfl rfl bI_lss ?_)
  refine WR.nil ?_
  refine WC.endJ (fun f_ w_ => slices_Grow_byte_byte.j1 K n1 = some r ∧ f_ 0 = (.slice none 0 0) ∧ f_ 1 = vI n1 ∧ w0 = w_) ?_ ?_
  · refine WC.cond (decide (n1 < (0 : Int))) rfl (fun hb => ?_) (fun hb => ?_)
    · rw [if_pos hb] at hp
      refine WC.region ?_
      cases hp
    · rw [if_neg (nt hb)] at hp
      refine WC.skip ?_
      exact ⟨hp, rfl, rfl, rfl⟩
  · rintro f_ _ ⟨hp, h, h1, rfl⟩
    unfold slices_Grow_byte_byte.j1 at hp
    refine WC.seq ?_
    refine WC.seq (WC.region ?_)
    refine WR.k rfl rfl rfl (OS.move (v := vI n1) rfl h1 ?_)
    refine WR.k rfl rfl rfl (OS.move (v := (.slice none 0 0)) rfl h ?_)
    refine WR.k rfl rfl rfl (OS.capNil rfl Tryz.runUnderlying25 rfl ?_)
    refine WR.k rfl rfl rfl (OS.move (v := (.slice none 0 0)) rfl h ?_)
    refine WR.k rfl rfl rfl (OS.lenSl rfl Tryz.runUnderlying25 rfl (.inl ⟨rfl, rfl⟩) ?_)
    refine WR.k rfl rfl rfl (OS.bin (a := vI (0 : Int)) (b := vI (0 : Int)) rfl rfl rfl bI_sub ?_)
    refine WR.k rfl rfl rfl (OS.bin (a := vI n1) (b := vI (W ((0 : Int) - (0 : Int)))) rfl rfl rfl bI_sub ?_)
    refine WR.k rfl rfl rfl (OS.assign (v := vI (W (n1 - (W ((0 : Int) - (0 : Int)))))) rfl rfl ?_)
    refine WR.nil ?_
    refine WC.seq (WC.region ?_)
    refine WR.k rfl rfl rfl (OS.move (v := vI (W (n1 - (W ((0 : Int) - (0 : Int)))))) rfl rfl ?_)
    refine WR.k rfl rfl rfl (OS.bin (a := vI (W (n1 - (W ((0 : Int) - (0 : Int)))))) (b := vI (0 : Int)) rfl rfl rfl bI_gtr ?_)
    refine WR.nil ?_
    refine WC.endJ (fun f_1 w_1 => ∃ (s1 : List UInt8) (v_ : Value) (c_1 : Col), slices_Grow_byte_byte.j2 K s1 = some r ∧ f_1 0 = v_ ∧ Ow E5 12 w_1 c_1 v_ s1 ∧ St [12, 13] w0 c0 w_1 c_1) ?_ ?_
    · refine WC.cond (decide ((0 : Int) < W (n1 - (W ((0 : Int) - (0 : Int)))))) rfl (fun hb1 => ?_) (fun hb1 => ?_)
      · rw [if_pos hb1] at hp
        refine WC.region ?_
        refine WR.k rfl rfl rfl (OS.move (v := (.slice none 0 0)) rfl h ?_)
        refine WR.k rfl rfl rfl (OS.move (v := (.slice none 0 0)) rfl h ?_)
        refine WR.k rfl rfl rfl (OS.capNil rfl Tryz.runUnderlying25 rfl ?_)
        obtain ⟨ys, hys, hp⟩ := bind_some hp
        obtain ⟨ha, hb2, hc, hys⟩ := sub_some hys
        refine WR.k rfl rfl rfl (OS.sliceOwn (E := E5) rfl Tryz.underlying25 Tryz.sizeOf5 rfl (Ow.nil (E := E5) (i := 13) (w := w0) (c := c0)) (Bd.some rfl (by omega)) (by omega) ?_); intro v_1 y
        replace y : Ow E5 13 w0 c0 v_1 ys := by rw [hys]; exact y
        refine WR.k rfl rfl rfl (OS.move (v := vI (W (n1 - (W ((0 : Int) - (0 : Int)))))) rfl rfl ?_)
        obtain ⟨xs, hxs, hp⟩ := bind_some hp
        obtain ⟨zs, hq, hxs⟩ := bind_some hxs
        obtain ⟨ha1, hb3, hc1⟩ := mks_some hq
        obtain ⟨hd, hxs⟩ := app_some hxs
        refine WR.k rfl rfl rfl (OS.appendZ (E := E5) (c := c0) (i := 13) (z0 := (0 : UInt8)) rfl Tryz.underlying25 Tryz.underlying3 I5 rfl rfl rfl rfl rfl y ha1 hc1 (lim_bytes (by decide) hd) (lim_max (b := 1) (by decide) hd) ?_); intro v_2 w_2 c_2 o1 s2
        replace o1 : Ow E5 13 w_2 c_2 v_2 xs := by rw [hxs]; exact o1
        refine WR.k rfl rfl rfl (OS.move (v := (.slice none 0 0)) rfl h ?_)
        refine WR.k rfl rfl rfl (OS.lenSl rfl Tryz.runUnderlying25 rfl (.inl ⟨rfl, rfl⟩) ?_)
        obtain ⟨ys1, hys1, hp⟩ := bind_some hp
        obtain ⟨ha2, hb4, hc2, hys1⟩ := sub_some hys1
        refine WR.k rfl rfl rfl (OS.sliceOwn (E := E5) rfl Tryz.underlying25 Tryz.sizeOf5 rfl o1 (Bd.some rfl (by omega)) (by omega) ?_); intro v_3 y1
        replace y1 : Ow E5 13 w_2 c_2 v_3 ys1 := by rw [hys1]; exact y1
        refine WR.k rfl rfl rfl (OS.assign (v := v_3) rfl rfl ?_)
        refine WR.nil ?_
        obtain ⟨c_3, s3, o2⟩ := y1.recol 12
        exact ⟨_, _, _, hp, rfl, o2, (s2.t s3).mono (by decide)⟩
      · rw [if_neg (nt hb1)] at hp
        refine WC.skip ?_
        exact ⟨_, _, _, hp, h, Ow.nil, St.refl.mono (by decide)⟩
    · rintro f_1 w_1 ⟨s1, v_, c_1, hp, h2, o, s4⟩
      unfold slices_Grow_byte_byte.j2 at hp
      refine WC.seq (WC.region ?_)
      refine WR.k rfl rfl rfl (OS.move (v := v_) rfl h2 ?_)
      refine WR.k rfl rfl rfl (OS.assign (v := v_) rfl rfl ?_)
      refine WR.nil ?_
      refine WC.ret ?_
      repeat first | refine thenQ_ret ?_ | refine blkQ_ret ?_
      cases hp
      obtain ⟨c_4, s5, o3⟩ := o.recol 2
      exact fnQ.l1 (fn := Tryz.f160) rfl (.inl ⟨_, rfl, rfl⟩) ⟨_, _, rfl, (s4.t s5).entry (by decide), o3⟩

-- slices.Concat[[]byte,byte]
set_option maxHeartbeats 4000000 in
theorem W140 (K : Nat) (w0 : World) {slices : List (List UInt8)} {r : (List UInt8)} (hp : slices_Concat_byte_byte K slices = some r) {v_ : Value} (o : Dv E25 E5 0 0 w0 c0 v_ slices) :
    Calls Tryz.prog 140 [v_].toArray w0 fun e w1 => ∃ (v0 : Value) (d : Col), e = .returned (v0) ∧ St [] w0 c0 w1 d ∧ Ow E5 2 w1 d v0 r := by
  refine calls_intro Tryz.func140 rfl Tryz.ntmps140 rfl ?_
  unfold slices_Concat_byte_byte at hp
  refine WC.seq (WC.region ?_)
  refine WR.k rfl rfl rfl (OS.assign (v := (.slice none 0 0)) rfl rfl ?_)
  refine WR.nil ?_
  refine WC.seq (WC.region ?_)
  refine WR.k rfl rfl rfl (OS.assign (v := vI (0 : Int)) rfl rfl ?_)
  refine WR.nil ?_
  refine WC.seq ?_
  refine WC.seq (WC.region ?_)
  refine WR.k rfl rfl rfl (OS.move (v := v_) rfl rfl ?_)
  refine WR.k rfl rfl rfl (OS.lenSl rfl Tryz.runUnderlying197 rfl o.isSl ?_)
  refine WR.k rfl rfl rfl (OS.move (v := vI (0 : Int)) rfl rfl ?_)
  refine WR.nil ?_
  obtain ⟨q, hl, hp⟩ := bind_some hp
  obtain ⟨size1, hx⟩ : ∃ z, z = q := ⟨_, rfl⟩; subst hx
  refine WC.blockJ2 (fun f_ w_ => f_ 0 = v_ ∧ f_ 3 = vI size1 ∧ w0 = w_) ?_ ?_
  · refine WC.loop (fun n => fun f_1 w_1 => ∃ (size : Int) (x11 : Int), slices_Concat_byte_byte.l1 n slices size x11 = some size1 ∧ f_1 0 = v_ ∧ f_1 3 = vI size ∧ f_1 9 = v_ ∧ f_1 10 = vI (slices.length : Int) ∧ f_1 11 = vI x11 ∧ w0 = w_1) K ⟨_, _, hl, rfl, rfl, rfl, rfl, rfl, rfl⟩ ?_
    rintro n f_1 _ ⟨size, x11, hl, h, h1, h2, h3, h4, rfl⟩
    cases n with
    | zero => exact absurd hl (by simp [slices_Concat_byte_byte.l1])
    | succ k =>
    rw [slices_Concat_byte_byte.l1] at hl
    refine WC.seq (WC.region ?_)
    refine WR.k rfl rfl rfl (OS.bin (a := vI x11) (b := vI (slices.length : Int)) rfl h4 h3 bI_lss ?_)
    refine WR.nil ?_
    refine WC.seq ?_
    refine WC.cond (decide (x11 < (slices.length : Int))) rfl (fun hb => ?_) (fun hb => ?_)
    · rw [if_pos hb] at hl
      refine WC.skip ?_
      refine WC.seq ?_
      refine WC.block ?_
      refine WC.seq (WC.region ?_)
      obtain ⟨e, he, hl⟩ := bind_some hl
      obtain ⟨ha, hb1, hc⟩ := gt_some he
      refine WR.k rfl rfl rfl (OS.idx rfl Tryz.runUnderlying197 Tryz.sizeOf25 h2 o.isSl h4 ha hb1 ?_); intro p_ a1
      obtain ⟨e1, hl1, o1⟩ := o.ldD (fun _ => rfl) a1 hc
      refine WR.k rfl rfl rfl (OS.ld1 (u := e1.val) rfl Tryz.isAgg25 rfl hl1 ?_)
      refine WR.k rfl rfl rfl (OS.assign (v := e1.val) rfl rfl ?_)
      refine WR.nil ?_
      refine WC.seq (WC.region ?_)
      refine WR.k rfl rfl rfl (OS.move (v := vI size) rfl h1 ?_)
      refine WR.k rfl rfl rfl (OS.move (v := e1.val) rfl rfl ?_)
      refine WR.k rfl rfl rfl (OS.lenSl rfl Tryz.runUnderlying25 rfl o1.isSl ?_)
      refine WR.k rfl rfl rfl (OS.bin (a := vI size) (b := vI (e.length : Int)) rfl rfl rfl bI_add ?_)
      refine WR.k rfl rfl rfl (OS.assign (v := vI (W (size + (e.length : Int)))) rfl rfl ?_)
      refine WR.nil ?_
      refine WC.seq (WC.region ?_)
      refine WR.k rfl rfl rfl (OS.move (v := vI (W (size + (e.length : Int)))) rfl rfl ?_)
      refine WR.k rfl rfl rfl (OS.bin (a := vI (W (size + (e.length : Int)))) (b := vI (0 : Int)) rfl rfl rfl bI_lss ?_)
      refine WR.nil ?_
      refine WC.cond (decide (W (size + (e.length : Int)) < (0 : Int))) rfl (fun hb2 => ?_) (fun hb2 => ?_)
      · rw [if_pos hb2] at hl
        refine WC.region ?_
        cases hl
      · rw [if_neg (nt hb2)] at hl
        refine WC.skip ?_
        refine WC.region ?_
        refine WR.k rfl rfl rfl (OS.bin (a := vI x11) (b := vI (1 : Int)) rfl h4 rfl bI_add ?_)
        refine WR.k rfl rfl rfl (OS.move (v := vI (W (x11 + (1 : Int)))) rfl rfl ?_)
        refine WR.nil ?_
        exact ⟨k, by omega, _, _, hl, h, rfl, h2, h3, rfl, rfl⟩
    · rw [if_neg (nt hb)] at hl
      refine WC.exit ?_
      cases hl
      exact ⟨h, h1, rfl⟩
  · rintro f_ _ ⟨h5, h6, rfl⟩
    refine WC.seq (WC.region ?_)
    refine WR.k rfl rfl rfl (OS.move (v := vI size1) rfl h6 ?_)
    obtain ⟨r_, hr_, hp⟩ := bind_some hp
    refine WR.k rfl rfl rfl (OS.callF (vs := [(.slice none 0 0), vI size1]) rfl ⟨rfl, rfl, trivial⟩ Tryz.call160 ((W160 K w0 hr_).mono ?_))
    rintro _ w_2 ⟨v_1, d, rfl, s, o2⟩
    refine ⟨_, rfl, ?_⟩
    obtain ⟨c_2, s1, o2⟩ : ∃ c_2, St [] w0 c0 w_2 c_2 ∧ Ow E5 16 w_2 c_2 v_1 r_ := ⟨_, s.merge (fun x => x + 14), o2.merge (fun x => x + 14) s (by decide)⟩
    refine WR.k rfl rfl rfl (OS.assign (v := v_1) rfl rfl ?_)
    refine WR.nil ?_
    refine WC.seq ?_
    refine WC.seq (WC.region ?_)
    refine WR.k rfl rfl rfl (OS.move (v := v_) rfl h5 ?_)
    have o3 := o.keep s1 (by decide)
    refine WR.k rfl rfl rfl (OS.lenSl rfl Tryz.runUnderlying197 rfl o3.isSl ?_)
    refine WR.k rfl rfl rfl (OS.move (v := vI (0 : Int)) rfl rfl ?_)
    refine WR.nil ?_
    obtain ⟨q1, hl2, hp⟩ := bind_some hp
    obtain ⟨newslice1, hx⟩ : ∃ z, z = q1 := ⟨_, rfl⟩; subst hx
    refine WC.blockJ2 (fun f_2 w_3 => ∃ (v_3 : Value) (c_3 : Col), f_2 6 = v_3 ∧ Ow E5 16 w_3 c_3 v_3 newslice1 ∧ St [16] w_2 c_2 w_3 c_3) ?_ ?_
    · refine WC.loop (fun n => fun f_3 w_4 => ∃ (newslice : List UInt8) (x27 : Int) (v_2 : Value) (c_4 : Col), slices_Concat_byte_byte.l2 n slices newslice x27 = some newslice1 ∧ f_3 6 = v_2 ∧ Ow E5 16 w_4 c_4 v_2 newslice ∧ f_3 25 = v_ ∧ f_3 26 = vI (slices.length : Int) ∧ f_3 27 = vI x27 ∧ St [16] w_2 c_2 w_4 c_4) K ⟨_, _, _, _, hl2, rfl, o2, rfl, rfl, rfl, St.refl.mono (by decide)⟩ ?_
      rintro n f_3 w_4 ⟨newslice, x27, v_2, c_4, hl2, h7, o4, h8, h9, h10, s2⟩
      cases n with
      | zero => exact absurd hl2 (by simp [slices_Concat_byte_byte.l2])
      | succ k =>
      rw [slices_Concat_byte_byte.l2] at hl2
      refine WC.seq (WC.region ?_)
      refine WR.k rfl rfl rfl (OS.bin (a := vI x27) (b := vI (slices.length : Int)) rfl h10 h9 bI_lss ?_)
      refine WR.nil ?_
      refine WC.seq ?_
      refine WC.cond (decide (x27 < (slices.length : Int))) rfl (fun hb3 => ?_) (fun hb3 => ?_)
      · rw [if_pos hb3] at hl2
        refine WC.skip ?_
        refine WC.seq ?_
        refine WC.block ?_
        refine WC.seq (WC.region ?_)
        have o6 := o3.keep s2 (by decide)
        obtain ⟨e2, he2, hl2⟩ := bind_some hl2
        obtain ⟨ha1, hb4, hc1⟩ := gt_some he2
        refine WR.k rfl rfl rfl (OS.idx rfl Tryz.runUnderlying197 Tryz.sizeOf25 h8 o6.isSl h10 ha1 hb4 ?_); intro p_1 a2
        obtain ⟨e3, hl3, o7⟩ := o6.ldD (fun _ => rfl) a2 hc1
        refine WR.k rfl rfl rfl (OS.ld1 (u := e3.val) rfl Tryz.isAgg25 rfl hl3 ?_)
        refine WR.k rfl rfl rfl (OS.assign (v := e3.val) rfl rfl ?_)
        refine WR.nil ?_
        refine WC.region ?_
        refine WR.k rfl rfl rfl (OS.move (v := v_2) rfl h7 ?_)
        refine WR.k rfl rfl rfl (OS.move (v := e3.val) rfl rfl ?_)
        obtain ⟨newslice2, hnewslice2, hl2⟩ := bind_some hl2
        obtain ⟨ha2, hnewslice2⟩ := app_some hnewslice2
        refine WR.k rfl rfl rfl (OS.append (E := E5) (c := c_4) (i := 16) (xs := newslice) (ys := e2) rfl Tryz.underlying25 Tryz.underlying25 (.inl rfl) I5 rfl rfl rfl rfl rfl o4 o7.src (lim_bytes (by decide) ha2) (lim_max (b := 1) (by decide) ha2) ?_); intro v_4 w_5 c_5 o8 s3
        replace o8 : Ow E5 16 w_5 c_5 v_4 newslice2 := by rw [hnewslice2]; exact o8
        refine WR.k rfl rfl rfl (OS.assign (v := v_4) rfl rfl ?_)
        refine WR.nil ?_
        refine WC.region ?_
        refine WR.k rfl rfl rfl (OS.bin (a := vI x27) (b := vI (1 : Int)) rfl h10 rfl bI_add ?_)
        refine WR.k rfl rfl rfl (OS.move (v := vI (W (x27 + (1 : Int)))) rfl rfl ?_)
        refine WR.nil ?_
        exact ⟨k, by omega, _, _, _, _, hl2, rfl, o8, h8, h9, rfl, (s2.t s3).mono (by decide)⟩
      · rw [if_neg (nt hb3)] at hl2
        refine WC.exit ?_
        cases hl2
        exact ⟨_, _, h7, o4, s2.mono (by decide)⟩
    · rintro f_2 w_3 ⟨v_3, c_3, h11, o5, s4⟩
      refine WC.seq (WC.region ?_)
      refine WR.k rfl rfl rfl (OS.move (v := v_3) rfl h11 ?_)
      refine WR.k rfl rfl rfl (OS.assign (v := v_3) rfl rfl ?_)
      refine WR.nil ?_
      refine WC.ret ?_
      repeat first | refine thenQ_ret ?_ | refine blkQ_ret ?_
      cases hp
      obtain ⟨c_6, s5, o9⟩ := o5.recol 2
      exact fnQ.l1 (fn := Tryz.f140) rfl (.inl ⟨_, rfl, rfl⟩) ⟨_, _, rfl, ((s1.t s4).t s5).entry (by decide), o9⟩

-- holdfast/seal.blocks$1
set_option maxHeartbeats 4000000 in
theorem W139 (K : Nat) (w0 : World) (cw : Col) {σ : Type} (Iv : L.Inv σ) (Y : σ → (List UInt8) → Option (Bool × σ)) (l : Nat) {yield : σ} {x1 : List UInt8} {x2 : UInt64} {r : σ} (hp : seal_blocks_1 Y K yield x1 x2 = some r) (hY : ∀ s x b s' w2 d2, (x.length = 32) → IvA Iv s w2 d2 → Y s x = some (b, s') → Yl Tryz.prog l ([.agg (fl E5 x).toArray]) w2 fun v w3 => v = .bool b ∧ ∃ d3, IvA Iv s' w3 d3 ∧ St [1] w2 d2 w3 d3) (hcw : ∀ b, cw b = 0 ∨ cw b = 1) (hs : IvA Iv yield w0 cw) {p_ : Value} (o : Arr E5 0 w0 cw p_ x1) (hl : x1.length = 32) {p_1 : Value} (o1 : Bx 0 w0 cw p_1 [vU64 x2]) :
    Calls Tryz.prog 139 [.func (.yield l) #[] #[], p_, p_1].toArray w0 fun e w1 => ∃ (d : Col), e = .returned (.tuple #[]) ∧ St [1] w0 cw w1 d ∧ IvA Iv r w1 d := by
  refine calls_intro Tryz.func139 rfl Tryz.ntmps139 rfl ?_
  unfold seal_blocks_1 at hp
  refine WC.seq (WC.region ?_)
  refine WR.k rfl rfl rfl (OS.assign (v := vU64 (0 : UInt64)) rfl (by kernel_rfl) ?_)
  refine WR.nil ?_
  obtain ⟨q, hl1, hp⟩ := bind_some hp
  obtain ⟨yield2, hx⟩ : ∃ z, z = q := ⟨_, rfl⟩; subst hx
  refine WC.blockJ2 (fun f_ w_ => ∃ (c_ : Col), f_ 0 = .func (.yield l) #[] #[] ∧ IvA Iv yield2 w_ c_ ∧ St [1] w0 cw w_ c_) ?_ ?_
  · refine WC.loop (fun n => fun f_1 w_1 => ∃ (yield1 : σ) (i : UInt64) (c_1 : Col), seal_blocks_1.l1 Y K n x2 x1 yield1 i = some yield2 ∧ f_1 0 = .func (.yield l) #[] #[] ∧ IvA Iv yield1 w_1 c_1 ∧ f_1 1 = p_ ∧ f_1 2 = p_1 ∧ f_1 4 = vU64 i ∧ St [1] w0 cw w_1 c_1) K ⟨_, _, _, hl1, rfl, hs, rfl, rfl, rfl, St.refl.mono (by decide)⟩ ?_
    rintro n f_1 w_1 ⟨yield1, i, c_1, hl1, h, o2, h1, h2, h3, s⟩
    cases n with
    | zero => exact absurd hl1 (by simp [seal_blocks_1.l1])
    | succ k =>
    rw [seal_blocks_1.l1] at hl1
    refine WC.seq ?_
    have o4 := o.keep s (by decide)
    obtain ⟨l2, hl2, hl1⟩ := bind_some hl1
    replace hl2 := (Option.some.inj hl2).symm
    have o5 := o1.keep s (by decide)
    obtain ⟨r_, hr_, hl1⟩ := bind_some hl1
    obtain ⟨r_1, hr_1, hl1⟩ := bind_some hl1
    obtain ⟨r_2, hr_2, hl1⟩ := bind_some hl1
    obtain ⟨r_3, hr_3, hl1⟩ := bind_some hl1
    refine WC.seq (WC.draw (c := c_1) ⟨10, [[1], [0], [43], [1], [45], [1], [49], [52, 43, 45, 49], [54], [1]], [[], [], [], [], [], [], [], [], [], []], [], [[], [], [], [], [3], [], [5], [2, 4, 6], [7], [1, 8]], [0, 9]⟩ [fun v w c => v = .func (.yield l) #[] #[], fun v w c => Vw E5 0 w c v x1 ∧ SlP p_ 0 32 1 v ∧ Full v, fun v w c => Ow E5 43 w c v l2, fun v w c => v = vU64 x2, fun v w c => Ow E5 45 w c v r_, fun v w c => v = vU64 i, fun v w c => Ow E5 49 w c v r_1, fun v w c => Dw E25 E5 52 [43, 45, 49] w c v ([l2, r_, r_1] : List (List UInt8)), fun v w c => Ow E5 54 w c v r_2, fun v w c => v = .agg (fl E5 r_3).toArray ∧ r_3.length = 32] hmix (by kernel_rfl) (by kernel_rfl) ⟨?_, ?_, ?_, ?_, ?_, ?_, ?_, ?_, ?_, ?_, trivial⟩ ⟨fun _ _ _ _ _ _ h _ _ => h, fun _ _ _ _ _ _ ⟨y, z0, z1⟩ s hk => ⟨y.keep s (hk _ (by simp)), z0, z1⟩, fun _ _ _ _ _ _ h s hk => Ow.keep h s (hk _ (by simp)), fun _ _ _ _ _ _ h _ _ => h, fun _ _ _ _ _ _ h s hk => Ow.keep h s (hk _ (by simp)), fun _ _ _ _ _ _ h _ _ => h, fun _ _ _ _ _ _ h s hk => Ow.keep h s (hk _ (by simp)), fun _ _ _ _ _ _ h s hk => Dw.keep h s hk, fun _ _ _ _ _ _ h s hk => Ow.keep h s (hk _ (by simp)), fun _ _ _ _ _ _ h _ _ => h, trivial⟩ ?_)
    · rintro f_2 w_2 c_2 hB hs1 ⟨-⟩ o ho; obtain rfl : _ = o := Option.some.inj ho
      exact OS.move (v := .func (.yield l) #[] #[]) rfl ((hB 0 (by kernel_rfl)).trans h) ⟨_, St.refl, rfl⟩
    · rintro f_3 w_3 c_3 hB1 hs2 ⟨-⟩ o ho; obtain rfl : _ = o := Option.some.inj ho
      have o6 := o.keep (s.t hs2) (by decide)
      refine OS.sliceAF (E := E5) (l := 0) (h := 32) rfl Tryz.underlying23 Tryz.sizeOf5 ((hB1 1 (by kernel_rfl)).trans h1) o6 hl Bd.none Bd.none (by decide) (by decide) ?_
      intro v y z fu
      rw [List.drop_zero, List.take_of_length_le (by rw [hl]; decide)] at y
      exact ⟨_, St.refl, y, z (by decide), fu rfl⟩
    · rintro f_4 w_4 c_4 hB2 hs3 ⟨-⟩ o ho; obtain rfl : _ = o := Option.some.inj ho
      refine OS.bslice (E := E5) (c := c_4) 43 ([(115 : UInt8)] : List UInt8) [(0, vU8 (115 : UInt8))] rfl ⟨rfl, (by kernel_rfl), trivial⟩ (fun _ => by kernel_rfl) rfl (by decide) ?_
      intro v w c h s
      exact ⟨c, s, (show Ow E5 43 w c v l2 by rw [hl2]; exact h)⟩
    · rintro f_5 w_5 c_5 hB3 hs4 ⟨-⟩ o ho; obtain rfl : _ = o := Option.some.inj ho
      have o7 := o1.keep (s.t hs4) (by decide)
      exact OS.ld1 (u := vU64 x2) rfl Tryz.isAgg76 ((hB3 2 (by kernel_rfl)).trans h2) o7.ldAll ⟨_, St.refl, rfl⟩
    · rintro f_6 w_6 c_6 hB4 hs5 ⟨g, -⟩ o ho; obtain rfl : _ = o := Option.some.inj ho
      replace g : (f_6 8) = vU64 x2 := g
      refine OS.callF (vs := [vU64 x2]) rfl ⟨g, trivial⟩ Tryz.call60 ((W60 K w_6 hr_).mono ?_)
      rintro _ w ⟨v, d, rfl, s, o⟩
      exact ⟨_, rfl, _, s.merge (fun x => x + 43), o.merge (fun x => x + 43) s (by decide)⟩
    · rintro f_7 w_7 c_7 hB5 hs6 ⟨-⟩ o ho; obtain rfl : _ = o := Option.some.inj ho
      exact OS.move (v := vU64 i) rfl ((hB5 4 (by kernel_rfl)).trans h3) ⟨_, St.refl, rfl⟩
    · rintro f_8 w_8 c_8 hB6 hs7 ⟨g1, -⟩ o ho; obtain rfl : _ = o := Option.some.inj ho
      replace g1 : (f_8 10) = vU64 i := g1
      refine OS.callF (vs := [vU64 i]) rfl ⟨g1, trivial⟩ Tryz.call60 ((W60 K w_8 hr_1).mono ?_)
      rintro _ w ⟨v, d, rfl, s, o⟩
      exact ⟨_, rfl, _, s.merge (fun x => x + 47), o.merge (fun x => x + 47) s (by decide)⟩
    · rintro f_9 w_9 c_9 hB7 hs8 ⟨g2, g3, g4, -⟩ o ho; obtain rfl : _ = o := Option.some.inj ho
      replace g2 : Ow E5 43 w_9 c_9 (f_9 7) l2 := g2
      replace g3 : Ow E5 45 w_9 c_9 (f_9 9) r_ := g3
      replace g4 : Ow E5 49 w_9 c_9 (f_9 11) r_1 := g4
      refine OS.bsliceD (E := E25) (E' := E5) (c := c_9) 52 [43, 45, 49] ([l2, r_, r_1] : List (List UInt8)) [toSl (f_9 7), toSl (f_9 9), toSl (f_9 11)] [(0, (toSl (f_9 7)).val), (1, (toSl (f_9 9)).val), (2, (toSl (f_9 11)).val)] rfl ⟨rfl, Eq.trans rfl (toSl_val g2.isSl).symm, rfl, Eq.trans rfl (toSl_val g3.isSl).symm, rfl, Eq.trans rfl (toSl_val g4.isSl).symm, trivial⟩ (fun _ => by kernel_rfl) rfl (by decide) ⟨(g2.vw).toSl, (g3.vw).toSl, (g4.vw).toSl, trivial⟩ ?_
      intro v w c h s
      exact ⟨c, s, (show Dw E25 E5 52 [43, 45, 49] w c v ([l2, r_, r_1] : List (List UInt8)) by exact h)⟩
    · rintro f_10 w_10 c_10 hB8 hs9 ⟨g5, -⟩ o ho; obtain rfl : _ = o := Option.some.inj ho
      replace g5 : Dw E25 E5 52 [43, 45, 49] w_10 c_10 (f_10 12) ([l2, r_, r_1] : List (List UInt8)) := g5
      refine OS.callF (vs := [(f_10 12)]) rfl ⟨rfl, trivial⟩ Tryz.call140 ((W140 K w_10 hr_2 g5.forget).mono ?_)
      rintro _ w ⟨v, d, rfl, s, o⟩
      exact ⟨_, rfl, _, s.merge (fun x => x + 52), o.merge (fun x => x + 52) s (by decide)⟩
    · rintro f_11 w_11 c_11 hB9 hs10 ⟨g6, g7, -⟩ o ho; obtain rfl : _ = o := Option.some.inj ho
      replace g6 : Vw E5 0 w_11 c_11 (f_11 6) x1 ∧ SlP p_ 0 32 1 (f_11 6) ∧ Full (f_11 6) := g6
      replace g7 : Ow E5 54 w_11 c_11 (f_11 13) r_2 := g7
      refine OS.callF (vs := [(f_11 6), (f_11 13)]) rfl ⟨rfl, rfl, trivial⟩ Tryz.call59 ((W59 K w_11 hr_3 g6.1.forget g7.vw.forget).mono ?_)
      rintro _ w ⟨d, rfl, s, hl⟩
      exact ⟨_, rfl, _, s.merge id, rfl, hl⟩
    · rintro f_12 w_12 c_12 hB10 hs11 ⟨g8, g9, -⟩
      have h4 := (hB10 0 (by kernel_rfl)).trans h
      have h5 := (hB10 1 (by kernel_rfl)).trans h1
      have h6 := (hB10 2 (by kernel_rfl)).trans h2
      have h7 := (hB10 4 (by kernel_rfl)).trans h3
      replace g8 : (f_12 5) = .func (.yield l) #[] #[] := g8
      replace g9 : (f_12 14) = .agg (fl E5 r_3).toArray ∧ r_3.length = 32 := g9
      have o8 := o2.keep hs11 (by decide)
      obtain ⟨q1, hq1, hl1⟩ := bind_some hl1
      refine WR.k rfl rfl rfl (OS.yieldC (vs := [.agg (fl E5 r_3).toArray]) rfl g8 ⟨g9.1, trivial⟩ (hY _ r_3 _ _ _ _ g9.2 o8 hq1) ?_)
      rintro _ w_13 ⟨rfl, d, o9, s1⟩
      refine WR.nil ?_
      refine WC.cond (q1.1) rfl (fun hb => ?_) (fun hb => ?_)
      · rw [if_pos hb] at hl1
        refine WC.skip ?_
        refine WC.seq ?_
        refine WC.block ?_
        refine WC.skip ?_
        refine WC.region ?_
        refine WR.k rfl rfl rfl (OS.move (v := vU64 i) rfl h7 ?_)
        refine WR.k rfl rfl rfl (OS.bin (a := vU64 i) (b := vU64 (1 : UInt64)) rfl rfl (by kernel_rfl) b64_add ?_)
        refine WR.k rfl rfl rfl (OS.assign (v := vU64 (i + (1 : UInt64))) rfl rfl ?_)
        refine WR.nil ?_
        exact ⟨k, by omega, _, _, _, hl1, h4, o9, h5, h6, rfl, ((s.t hs11).t s1).mono (by decide)⟩
      · rw [if_neg (nt hb)] at hl1
        refine WC.exit ?_
        cases hl1
        exact ⟨_, h4, o9, ((s.t hs11).t s1).mono (by decide)⟩
  · rintro f_ w_ ⟨c_, h8, o3, s2⟩
    cases hp
    exact fnQ.lsN (fn := Tryz.f139) rfl ⟨_, rfl, s2.entry1 hcw (by decide), o3⟩

-- holdfast/seal.Stream
set_option maxHeartbeats 4000000 in
theorem W87 (K : Nat) (w0 : World) {key : List UInt8} {once : UInt64} {n1 : Int} {r : (List UInt8) × Int} (hp : seal_Stream K key once n1 = some r) (hl : key.length = 32) :
    Calls Tryz.prog 87 [.agg (fl E5 key).toArray, vU64 once, vI n1].toArray w0 fun e w1 => ∃ (v0 : Value) (d : Col), e = .returned (.tuple #[v0, vI r.2]) ∧ St [] w0 c0 w1 d ∧ Ow E5 2 w1 d v0 r.1 := by
  refine calls_introM Tryz.func87 rfl Tryz.ntmps87 rfl ?_
  unfold seal_Stream at hp
  refine WC.seq (WC.region ?_)
  refine WR.k rfl rfl rfl (OS.boxArr (E := E5) (c := c0) 12 rfl rfl ?_); intro p_ w_ c_ o s
  refine WR.k rfl rfl rfl (OS.boxBx (us := [vI n1]) (c := c_) 13 rfl rfl rfl ?_); intro p_1 w_1 c_1 o1 s1
  refine WR.k rfl rfl rfl (OS.assign (v := (.slice none 0 0)) rfl rfl ?_)
  refine WR.k rfl rfl rfl (OS.assign (v := vI (0 : Int)) rfl rfl ?_)
  refine WR.nil ?_
  refine WC.seq ?_
  refine WC.seq (WC.region ?_)
  refine WR.k rfl rfl rfl (OS.ld1 (u := vI n1) rfl Tryz.isAgg3 rfl o1.ldAll ?_)
  refine WR.k rfl rfl rfl (OS.bin (a := vI n1) (b := vI (0 : Int)) rfl rfl rfl bI_lss ?_)
  refine WR.k rfl rfl rfl (OS.move (v := vB (decide (n1 < (0 : Int)))) rfl rfl ?_)
  refine WR.cut2 3 (fun f_ w_2 => f_ 1 = vU64 once ∧ f_ 3 = p_ ∧ f_ 5 = p_1 ∧ f_ 15 = vB ((decide (n1 < (0 : Int))) || (decide ((1024 : Int) < n1))) ∧ f_ 30 = undef ∧ w_1 = w_2) ?_ ?_
  · rcases Bool.eq_false_or_eq_true (decide (n1 < (0 : Int))) with hg | hg
    · refine WR.gF rfl rfl (vb_t rfl hg) rfl rfl ?_
      refine WR.gF rfl rfl (vb_t rfl hg) rfl rfl ?_
      refine WR.k rfl rfl rfl (OS.pickT rfl (vb_t rfl hg) rfl ?_)
      refine WR.nil ?_
      exact ⟨rfl, rfl, rfl, (or_t hg), rfl, rfl⟩
    · refine WR.kT rfl rfl (vb_f rfl hg) rfl rfl (OS.ld1 (u := vI n1) rfl Tryz.isAgg3 rfl o1.ldAll ?_)
      refine WR.kT rfl rfl (vb_f rfl hg) rfl rfl (OS.bin (a := vI n1) (b := vI (1024 : Int)) rfl rfl rfl bI_gtr ?_)
      refine WR.k rfl rfl rfl (OS.pickF rfl (vb_f rfl hg) rfl ?_)
      refine WR.nil ?_
      exact ⟨rfl, rfl, rfl, (or_f hg), rfl, rfl⟩
  · rintro f_ _ ⟨h, h1, h2, h3, h4, rfl⟩
    refine WR.nil ?_
    refine WC.cond ((decide (n1 < (0 : Int))) || (decide ((1024 : Int) < n1))) h3 (fun hb => ?_) (fun hb => ?_)
    · rw [if_pos hb] at hp
      refine WC.seq (WC.region ?_)
      refine WR.k rfl rfl rfl (OS.assign (v := (.slice none 0 0)) rfl rfl ?_)
      refine WR.k rfl rfl rfl (OS.assign (v := vI (2 : Int)) rfl rfl ?_)
      refine WR.nil ?_
      refine WC.ret ?_
      repeat first | refine thenQ_ret ?_ | refine blkQ_ret ?_
      cases hp
      exact fnQM.ls (fn := Tryz.f87) (rs := [.tmp 6, .tmp 7]) (vs := [(.slice none 0 0), vI (2 : Int)]) rfl (Taken.of h4 rfl) ⟨(.inl ⟨_, rfl, rfl⟩), (.inl ⟨_, rfl, rfl⟩), trivial⟩ ⟨_, _, rfl, (s.t s1).entry (by decide), Ow.nil⟩ (by simp)
    · rw [if_neg (nt hb)] at hp
      refine WC.skip ?_
      refine WC.seq (WC.region ?_)
      refine WR.k rfl rfl rfl (OS.allocBx (us := [(.slice none 0 0)]) (c := c_1) 14 rfl Tryz.zeroValue25 rfl ?_); intro p_2 w_3 c_3 o2 s2
      refine WR.nil ?_
      refine WC.seq ?_
      refine WC.seq (WC.region ?_)
      have o3 := o.keep (s1.t s2) (by decide)
      refine WR.k rfl rfl rfl (OS.ldN rfl Tryz.isAgg23 Tryz.sizeOf23 h1 o3.ldAll (by rw [fl_length, hl]; rfl) ?_)
      refine WR.k rfl rfl rfl (OS.move (v := vU64 once) rfl h ?_)
      obtain ⟨r_, hr_, hp⟩ := bind_some hp
      refine WR.k rfl rfl rfl (OS.callF (vs := [.agg (fl E5 key).toArray, vU64 once]) rfl ⟨rfl, rfl, trivial⟩ Tryz.call115 ((W115 K w_3 hr_ hl).mono ?_))
      rintro _ w_4 ⟨p_3, v_, d, rfl, s3, o4, o5, hl1⟩
      refine ⟨_, rfl, ?_⟩
      obtain ⟨c_4, s4, o4, o5⟩ : ∃ c_4, St [] w_3 c_3 w_4 c_4 ∧ Arr E5 16 w_4 c_4 p_3 r_.1 ∧ Bx 17 w_4 c_4 v_ [vU64 r_.2] := ⟨_, s3.merge (fun x => x + 14), o4.merge (fun x => x + 14) s3 (by decide), o5.merge (fun x => x + 14) s3 (by decide)⟩
      refine WR.nil ?_
      refine WC.block ?_
      have o6 := o1.keep (s2.t s4) (by decide)
      have o7 := o2.keep s4 (by decide)
      obtain ⟨c_5, s5, hc, o8, o9, o10, o11, o12⟩ : ∃ c_5, St [] w0 c0 w_4 c_5 ∧ (∀ b, c_5 b ∈ 10 :: [0, 13, 14, 16, 17, 19]) ∧ Bx 13 w_4 c_5 p_1 [vI n1] ∧ Bx 14 w_4 c_5 p_2 [(.slice none 0 0)] ∧ Arr E5 16 w_4 c_5 p_3 r_.1 ∧ Bx 17 w_4 c_5 v_ [vU64 r_.2] ∧ Ow E5 19 w_4 c_5 (.slice none 0 0) ([] : List UInt8) := ⟨nm [0, 13, 14, 16, 17, 19] c_4, ((((s.t s1).t s2).t s4)).nm (fun _ _ => .inl List.mem_cons_self), nm_cases _ _, o6.nm (by decide), o7.nm (by decide), o4.nm (by decide), o5.nm (by decide), (Ow.nil (E := E5) (i := 19) (w := w_4) (c := c_4)).nm (by decide)⟩
      obtain ⟨q, hq, hp⟩ := bind_some hp
      obtain ⟨xs, j⟩ := q; dsimp only at hp
      refine WC.rangeF (fun x : (List UInt8) => [.agg (fl E5 x).toArray]) (fun x : (List UInt8) => (x.length = 32)) (seal_Stream.y1 K n1) (fun (s : (List UInt8)) w c => ∃ (v_1 : Value), Bx 14 w c p_2 [v_1] ∧ Ow E5 19 w c v_1 s) [14, 19] [0, 13, 14, 16, 17, 19] 20 (lb := [p_3, v_]) (s0 := ([] : List UInt8)) (send := (xs, j)) rfl Tryz.call139 (by decide) (fun _ => rfl) (by decide) hc (fun s w c w1 c1 h k => by obtain ⟨v0, h0, h1⟩ := h; exact ⟨_, h0.kp k (by decide), h1.kp k (by decide)⟩) ⟨_, o9, o12⟩ ?_ ?_ ?_
      · intro l1 w1 c1 Iv1 s1 hI1 hY1
        exact (W139 K w1 (dv (9 :: [14, 19]) c1) Iv1 (Yc (seal_Stream.y1 K n1)) l1 hq hY1 dv_le hI1 ((o10.keep s1 (by decide)).dv (by decide)) hl1 ((o11.keep s1 (by decide)).dv (by decide))).mono fun e w2 ⟨d, he, hs, hi⟩ => ⟨_, d, he, hs, hi⟩
      · rintro l1 xs x j1 m w_5 c_6 hok s6 hF hy
        (try dsimp only at hF); obtain ⟨v_2, o15, o16⟩ := hF
        unfold seal_Stream.y1 at hy; dsimp only at hy
        refine WC.region ?_
        refine WR.k rfl rfl rfl (OS.allocArr (E := E5) (xs := (List.replicate 32 (0 : UInt8))) (c := c_6) 27 rfl Tryz.zeroValue23 (by kernel_rfl) ?_); intro p_4 w_6 c_7 o17 s7
        refine WR.k0 rfl rfl (OS.stArrAll rfl Tryz.sizeOf23 rfl rfl o17 (by rw [fl_length, hok]; rfl) (Eq.trans (List.length_replicate (n := 32) (a := (0 : UInt8))) (Eq.symm hok)) ?_); intro w_7 o18 s8
        have hl2 : x.length = 32 := hok
        refine WR.nil ?_
        refine ⟨c_7, [27], (s7.t s8).mono (by decide), by decide, by decide, ?_⟩
        intro w_8 s9
        refine WC.block ?_
        refine WC.seq ?_
        refine WC.seq (WC.region ?_)
        have o19 := o15.keep ((s7.t s8).t s9) (by decide)
        refine WR.k rfl rfl rfl (OS.ld1 (u := v_2) rfl Tryz.isAgg25 rfl o19.ldAll ?_)
        have o20 := o16.keep ((s7.t s8).t s9) (by decide)
        refine WR.k rfl rfl rfl (OS.lenSl rfl Tryz.runUnderlying25 rfl o20.isSl ?_)
        have o21 := o8.keep (((s6.t s7).t s8).t s9) (by decide)
        refine WR.k rfl rfl rfl (OS.ld1 (u := vI n1) rfl Tryz.isAgg3 h2 o21.ldAll ?_)
        refine WR.k rfl rfl rfl (OS.bin (a := vI (xs.length : Int)) (b := vI n1) rfl rfl rfl bI_geq ?_)
        refine WR.nil ?_
        refine WC.cond (decide (n1 ≤ (xs.length : Int))) rfl (fun hb1 => ?_) (fun hb1 => ?_)
        · rw [if_pos hb1] at hy
          refine WC.exit ?_
          cases hy
          exact ⟨rfl, c_7, [], ⟨_, o19, o20⟩, St.refl.mono (by decide), by decide, by decide⟩
        · rw [if_neg (nt hb1)] at hy
          refine WC.skip ?_
          have o22 := o18.keep s9 (by decide)
          refine WC.draw (c := c_7) ⟨2, [[1], [27]], [[], []], [], [[], []], [0, 1]⟩ [fun v w c => v = v_2, fun v w c => Vw E5 27 w c v x ∧ SlP p_4 0 32 1 v ∧ Full v] hmix (by kernel_rfl) (by kernel_rfl) ⟨?_, ?_, trivial⟩ ⟨fun _ _ _ _ _ _ h _ _ => h, fun _ _ _ _ _ _ ⟨y, z0, z1⟩ s hk => ⟨y.keep s (hk _ (by simp)), z0, z1⟩, trivial⟩ ?_
          · rintro f_1 w_9 c_8 hB hs1 ⟨-⟩ o ho; obtain rfl : _ = o := Option.some.inj ho
            have o23 := o19.keep hs1 (by decide)
            exact OS.ld1 (u := v_2) rfl Tryz.isAgg25 ((hB 8 (by kernel_rfl)).trans rfl) o23.ldAll ⟨_, St.refl, rfl⟩
          · rintro f_2 w_10 c_9 hB1 hs2 ⟨-⟩ o ho; obtain rfl : _ = o := Option.some.inj ho
            have o24 := o18.keep (s9.t hs2) (by decide)
            refine OS.sliceAF (E := E5) (l := 0) (h := 32) rfl Tryz.underlying23 Tryz.sizeOf5 ((hB1 9 (by kernel_rfl)).trans rfl) o24 hl2 Bd.none Bd.none (by decide) (by decide) ?_
            intro v y z fu
            rw [List.drop_zero, List.take_of_length_le (by rw [hl2]; decide)] at y
            exact ⟨_, St.refl, y, z (by decide), fu rfl⟩
          · rintro f_3 w_11 c_10 hB2 hs3 ⟨g, g1, -⟩
            have h5 := (hB2 8 (by kernel_rfl)).trans (show _ = p_2 from rfl)
            replace g : (f_3 24) = v_2 := g
            replace g1 : Vw E5 27 w_11 c_10 (f_3 25) x ∧ SlP p_4 0 32 1 (f_3 25) ∧ Full (f_3 25) := g1
            have o25 := o20.keep hs3 (by decide)
            obtain ⟨xs1, hxs1, hy⟩ := bind_some hy
            obtain ⟨ha, hxs1⟩ := app_some hxs1
            refine WR.k rfl rfl rfl (OS.append (E := E5) (c := c_10) (i := 19) (xs := xs) (ys := x) rfl Tryz.underlying25 Tryz.underlying25 (.inl rfl) I5 rfl rfl rfl g rfl o25 g1.1.src (lim_bytes (by decide) ha) (lim_max (b := 1) (by decide) ha) ?_); intro v_3 w_12 c_11 o26 s10
            replace o26 : Ow E5 19 w_12 c_11 v_3 xs1 := by rw [hxs1]; exact o26
            have o27 := o19.keep (hs3.t s10) (by decide)
            refine WR.k0 rfl rfl (OS.stBxAll (v := v_3) (ws := [v_3]) rfl Tryz.sizeOf25 h5 rfl (cells_sl o26.isSl) o27 rfl rfl (one_sl o26.isSl) ?_); intro w_13 o28 s11
            refine WR.nil ?_
            cases hy
            have o29 := o26.keep s11 (by decide)
            exact ⟨rfl, c_11, [14, 19], ⟨_, o28, o29⟩, ((hs3.t s10).t s11).mono (by decide), by decide, by decide⟩
      · intro w_14 c_12 r_1 s12 hF o30
        (try dsimp only at hF); obtain ⟨v_4, o31, o32⟩ := hF
        rcases j with _ | j
        · simp only [jm] at hp
          refine WC.seq (WC.region ?_)
          refine WR.k rfl rfl rfl (OS.ld1 (u := v_4) rfl Tryz.isAgg25 rfl o31.ldAll ?_)
          have o33 := o8.keep s12 (by decide)
          refine WR.k rfl rfl rfl (OS.ld1 (u := vI n1) rfl Tryz.isAgg3 h2 o33.ldAll ?_)
          obtain ⟨ys, hys, hp⟩ := bind_some hp
          obtain ⟨ha1, hb2, hc1, hys⟩ := sub_some hys
          refine WR.k rfl rfl rfl (OS.sliceOwn (E := E5) rfl Tryz.underlying25 Tryz.sizeOf5 rfl o32 (Bd.some rfl (by omega)) (by omega) ?_); intro v_5 y1
          replace y1 : Ow E5 19 w_14 c_12 v_5 ys := by rw [hys]; exact y1
          refine WR.k rfl rfl rfl (OS.assign (v := v_5) rfl rfl ?_)
          refine WR.k rfl rfl rfl (OS.assign (v := vI (0 : Int)) rfl rfl ?_)
          refine WR.nil ?_
          refine WC.ret ?_
          repeat first | refine thenQ_ret ?_ | refine blkQ_ret ?_
          cases hp
          obtain ⟨c_13, s13, o34⟩ := y1.recol 2
          have o35 := o30.keep s13 (by decide)
          obtain ⟨t, s14⟩ := o35.take
          have o36 := o34.keep s14 (by decide)
          exact fnQM.ls (fn := Tryz.f87) (rs := [.tmp 6, .tmp 7]) (vs := [v_5, vI (0 : Int)]) rfl (Taken.of (congrArg (L.mark r_1) h4) ⟨_, _, rfl, t, rfl⟩) ⟨(.inl ⟨_, rfl, rfl⟩), (.inl ⟨_, rfl, rfl⟩), trivial⟩ ⟨_, _, rfl, (((s5.t s12).t s13).t s14).entry (by decide), o36⟩ (by simp)
        · simp only [jm] at hp
          by_cases hj : j = 1
          · subst hj; rw [if_pos rfl] at hp
            refine WC.seq (WC.region ?_)
            refine WR.k rfl rfl rfl (OS.ld1 (u := v_4) rfl Tryz.isAgg25 rfl o31.ldAll ?_)
            have o37 := o8.keep s12 (by decide)
            refine WR.k rfl rfl rfl (OS.ld1 (u := vI n1) rfl Tryz.isAgg3 h2 o37.ldAll ?_)
            obtain ⟨ys1, hys1, hp⟩ := bind_some hp
            obtain ⟨ha2, hb3, hc2, hys1⟩ := sub_some hys1
            refine WR.k rfl rfl rfl (OS.sliceOwn (E := E5) rfl Tryz.underlying25 Tryz.sizeOf5 rfl o32 (Bd.some rfl (by omega)) (by omega) ?_); intro v_6 y2
            replace y2 : Ow E5 19 w_14 c_12 v_6 ys1 := by rw [hys1]; exact y2
            refine WR.k rfl rfl rfl (OS.assign (v := v_6) rfl rfl ?_)
            refine WR.k rfl rfl rfl (OS.assign (v := vI (0 : Int)) rfl rfl ?_)
            refine WR.nil ?_
            refine WC.ret ?_
            repeat first | refine thenQ_ret ?_ | refine blkQ_ret ?_
            cases hp
            obtain ⟨c_14, s15, o38⟩ := y2.recol 2
            have o39 := o30.keep s15 (by decide)
            obtain ⟨t1, s16⟩ := o39.take
            have o40 := o38.keep s16 (by decide)
            exact fnQM.ls (fn := Tryz.f87) (rs := [.tmp 6, .tmp 7]) (vs := [v_6, vI (0 : Int)]) rfl (Taken.of (congrArg (L.mark r_1) h4) ⟨_, _, rfl, t1, rfl⟩) ⟨(.inl ⟨_, rfl, rfl⟩), (.inl ⟨_, rfl, rfl⟩), trivial⟩ ⟨_, _, rfl, (((s5.t s12).t s15).t s16).entry (by decide), o40⟩ (by simp)
          · rw [if_neg hj] at hp
            cases hp

-- holdfast/seal.hidden
set_option maxHeartbeats 4000000 in
theorem W61 (K : Nat) (w0 : World) {key : List UInt8} {once : UInt64} {b : List UInt8} {r : (List UInt8)} (hp : seal_hidden K key once b = some r) (hl : key.length = 32) {v_ : Value} (o : Vw E5 0 w0 c0 v_ b) :
    Calls Tryz.prog 61 [.agg (fl E5 key).toArray, vU64 once, v_].toArray w0 fun e w1 => ∃ (v0 : Value) (d : Col), e = .returned (v0) ∧ St [] w0 c0 w1 d ∧ Ow E5 2 w1 d v0 r := by
  refine calls_intro Tryz.func61 rfl Tryz.ntmps61 rfl ?_
  unfold seal_hidden at hp
  refine WC.seq (WC.region ?_)
  refine WR.k rfl rfl rfl (OS.boxArr (E := E5) (c := c0) 12 rfl rfl ?_); intro p_ w_ c_ o1 s
  refine WR.k rfl rfl rfl (OS.assign (v := (.slice none 0 0)) rfl rfl ?_)
  refine WR.nil ?_
  refine WC.seq (WC.region ?_)
  refine WR.k rfl rfl rfl (OS.ldN rfl Tryz.isAgg23 Tryz.sizeOf23 rfl o1.ldAll (by rw [fl_length, hl]; rfl) ?_)
  refine WR.k rfl rfl rfl (OS.move (v := vU64 once) rfl rfl ?_)
  refine WR.k rfl rfl rfl (OS.move (v := v_) rfl rfl ?_)
  have o2 := o.keep s (by decide)
  refine WR.k rfl rfl rfl (OS.lenSl rfl Tryz.runUnderlying25 rfl o2.isSl ?_)
  obtain ⟨r_, hr_, hp⟩ := bind_some hp
  refine WR.k rfl rfl rfl (OS.callF (vs := [.agg (fl E5 key).toArray, vU64 once, vI (b.length : Int)]) rfl ⟨rfl, rfl, rfl, trivial⟩ Tryz.call87 ((W87 K w_ hr_ hl).mono ?_))
  rintro _ w_1 ⟨v_1, d, rfl, s1, o3⟩
  refine ⟨_, rfl, ?_⟩
  obtain ⟨c_1, s2, o3⟩ : ∃ c_1, St [] w_ c_ w_1 c_1 ∧ Ow E5 14 w_1 c_1 v_1 r_.1 := ⟨_, s1.merge (fun x => x + 12), o3.merge (fun x => x + 12) s1 (by decide)⟩
  refine WR.k rfl rfl rfl (OS.move (v := .tuple #[v_1, vI r_.2]) rfl rfl ?_)
  refine WR.k rfl rfl rfl (OS.extract rfl rfl rfl ?_)
  refine WR.k rfl rfl rfl (OS.extract rfl rfl rfl ?_)
  refine WR.k rfl rfl rfl (OS.assign (v := v_1) rfl rfl ?_)
  refine WR.k rfl rfl rfl (OS.assign (v := vI r_.2) rfl rfl ?_)
  refine WR.nil ?_
  refine WC.seq ?_
  refine WC.seq (WC.region ?_)
  refine WR.k rfl rfl rfl (OS.move (v := v_) rfl rfl ?_)
  have o4 := o2.keep s2 (by decide)
  refine WR.k rfl rfl rfl (OS.lenSl rfl Tryz.runUnderlying25 rfl o4.isSl ?_)
  refine WR.k rfl rfl rfl (OS.move (v := vI (0 : Int)) rfl rfl ?_)
  refine WR.nil ?_
  obtain ⟨q, hl1, hp⟩ := bind_some hp
  obtain ⟨out1, hx⟩ : ∃ z, z = q := ⟨_, rfl⟩; subst hx
  refine WC.blockJ2 (fun f_ w_2 => ∃ (c_2 : Col), f_ 7 = v_1 ∧ Ow E5 14 w_2 c_2 v_1 out1 ∧ St [14] w_1 c_1 w_2 c_2) ?_ ?_
  · refine WC.loop (fun n => fun f_1 w_3 => ∃ (out : List UInt8) (x21 : Int) (c_3 : Col), seal_hidden.l1 n b out x21 = some out1 ∧ f_1 7 = v_1 ∧ Ow E5 14 w_3 c_3 v_1 out ∧ f_1 19 = v_ ∧ f_1 20 = vI (b.length : Int) ∧ f_1 21 = vI x21 ∧ St [14] w_1 c_1 w_3 c_3) K ⟨_, _, _, hl1, rfl, o3, rfl, rfl, rfl, St.refl.mono (by decide)⟩ ?_
    rintro n f_1 w_3 ⟨out, x21, c_3, hl1, h, o5, h1, h2, h3, s3⟩
    cases n with
    | zero => exact absurd hl1 (by simp [seal_hidden.l1])
    | succ k =>
    rw [seal_hidden.l1] at hl1
    refine WC.seq (WC.region ?_)
    refine WR.k rfl rfl rfl (OS.bin (a := vI x21) (b := vI (b.length : Int)) rfl h3 h2 bI_lss ?_)
    refine WR.nil ?_
    refine WC.seq ?_
    refine WC.cond (decide (x21 < (b.length : Int))) rfl (fun hb => ?_) (fun hb => ?_)
    · rw [if_pos hb] at hl1
      refine WC.skip ?_
      refine WC.seq ?_
      refine WC.block ?_
      refine WC.seq (WC.region ?_)
      refine WR.k rfl rfl rfl (OS.move (v := vI x21) rfl h3 ?_)
      have o7 := o4.keep s3 (by decide)
      obtain ⟨e, he, hl1⟩ := bind_some hl1
      obtain ⟨ha, hb1, hc⟩ := gt_some he
      refine WR.k rfl rfl rfl (OS.idx rfl Tryz.runUnderlying25 Tryz.sizeOf5 h1 o7.isSl h3 ha hb1 ?_); intro p_1 a1
      refine WR.k rfl rfl rfl (OS.ld1 (u := vU8 e) rfl Tryz.isAgg5 rfl (o7.ld a1 hc) ?_)
      refine WR.k rfl rfl rfl (OS.assign (v := vI x21) rfl rfl ?_)
      refine WR.k rfl rfl rfl (OS.assign (v := vU8 e) rfl rfl ?_)
      refine WR.nil ?_
      refine WC.region ?_
      refine WR.k rfl rfl rfl (OS.move (v := v_1) rfl h ?_)
      refine WR.k rfl rfl rfl (OS.move (v := vI x21) rfl rfl ?_)
      obtain ⟨e1, he1, hl1⟩ := bind_some hl1
      obtain ⟨ha1, hb2, hc1⟩ := gt_some he1
      refine WR.k rfl rfl rfl (OS.idx rfl Tryz.runUnderlying25 Tryz.sizeOf5 rfl o5.isSl rfl ha1 hb2 ?_); intro p_2 a2
      refine WR.k rfl rfl rfl (OS.ld1 (u := vU8 e1) rfl Tryz.isAgg5 rfl (o5.ld a2 hc1) ?_)
      refine WR.k rfl rfl rfl (OS.move (v := vU8 e) rfl rfl ?_)
      refine WR.k rfl rfl rfl (OS.bin (a := vU8 e1) (b := vU8 e) rfl rfl rfl b8_xor ?_)
      obtain ⟨u, hu, hl1⟩ := bind_some hl1
      obtain ⟨ha2, hb3⟩ := req_some hu
      refine WR.k rfl rfl rfl (OS.idx rfl Tryz.runUnderlying25 Tryz.sizeOf5 rfl o5.isSl rfl ha2 hb3 ?_); intro p_3 a3
      obtain ⟨out2, hout2, hl1⟩ := bind_some hl1
      replace hout2 := (Option.some.inj hout2).symm
      refine WR.k0 rfl rfl (OS.stOwn (q := e1 ^^^ e) (u := vU8 (e1 ^^^ e)) rfl Tryz.sizeOf5 rfl rfl o5 rfl a3 (by omega) rfl ?_); intro w_4 o8 s4
      replace o8 : Ow E5 14 w_4 c_3 v_1 out2 := by rw [hout2]; exact o8
      refine WR.nil ?_
      refine WC.region ?_
      refine WR.k rfl rfl rfl (OS.bin (a := vI x21) (b := vI (1 : Int)) rfl h3 rfl bI_add ?_)
      refine WR.k rfl rfl rfl (OS.move (v := vI (W (x21 + (1 : Int)))) rfl rfl ?_)
      refine WR.nil ?_
      exact ⟨k, by omega, _, _, _, hl1, h, o8, h1, h2, rfl, (s3.t s4).mono (by decide)⟩
    · rw [if_neg (nt hb)] at hl1
      refine WC.exit ?_
      cases hl1
      exact ⟨_, h, o5, s3.mono (by decide)⟩
  · rintro f_ w_2 ⟨c_2, h4, o6, s5⟩
    refine WC.seq (WC.region ?_)
    refine WR.k rfl rfl rfl (OS.move (v := v_1) rfl h4 ?_)
    refine WR.k rfl rfl rfl (OS.assign (v := v_1) rfl rfl ?_)
    refine WR.nil ?_
    refine WC.ret ?_
    repeat first | refine thenQ_ret ?_ | refine blkQ_ret ?_
    cases hp
    obtain ⟨c_4, s6, o9⟩ := o6.recol 2
    exact fnQ.l1 (fn := Tryz.f61) rfl (.inl ⟨_, rfl, rfl⟩) ⟨_, _, rfl, (((s.t s2).t s5).t s6).entry (by decide), o9⟩

-- holdfast/seal.Open
set_option maxHeartbeats 4000000 in
theorem W46 (K : Nat) (w0 : World) {key : List UInt8} {sealed : List UInt8} {r : (List UInt8) × UInt64 × Int} (hp : seal_Open K key sealed = some r) (hl : key.length = 32) {v_ : Value} (o : Vw E5 0 w0 c0 v_ sealed) :
    Calls Tryz.prog 46 [.agg (fl E5 key).toArray, v_].toArray w0 fun e w1 => ∃ (v0 : Value) (d : Col), e = .returned (.tuple #[v0, vU64 r.2.1, vI r.2.2]) ∧ St [] w0 c0 w1 d ∧ Ow E5 2 w1 d v0 r.1 := by
  refine calls_intro Tryz.func46 rfl Tryz.ntmps46 rfl ?_
  unfold seal_Open at hp
  refine WC.seq (WC.region ?_)
  refine WR.k rfl rfl rfl (OS.boxArr (E := E5) (c := c0) 12 rfl rfl ?_); intro p_ w_ c_ o1 s
  refine WR.k rfl rfl rfl (OS.assign (v := (.slice none 0 0)) rfl rfl ?_)
  refine WR.k rfl rfl rfl (OS.assign (v := vU64 (0 : UInt64)) rfl (by kernel_rfl) ?_)
  refine WR.k rfl rfl rfl (OS.assign (v := vI (0 : Int)) rfl rfl ?_)
  refine WR.nil ?_
  refine WC.seq ?_
  refine WC.block ?_
  refine WC.seq (WC.region ?_)
  refine WR.k rfl rfl rfl (OS.move (v := v_) rfl rfl ?_)
  have o2 := o.keep s (by decide)
  refine WR.k rfl rfl rfl (OS.lenSl rfl Tryz.runUnderlying25 rfl o2.isSl ?_)
  obtain ⟨r_, hr_, hp⟩ := bind_some hp
  refine WR.k rfl rfl rfl (OS.callF (vs := [vI (0 : Int)]) rfl ⟨rfl, trivial⟩ Tryz.call67 ((W67 K w_ hr_).mono ?_))
  rintro _ w_1 ⟨d, rfl, s1⟩
  refine ⟨_, rfl, ?_⟩
  obtain ⟨c_1, s2⟩ : ∃ c_1, St [] w_ c_ w_1 c_1 := ⟨_, s1.merge (fun x => x + 12)⟩
  refine WR.k rfl rfl rfl (OS.bin (a := vI (sealed.length : Int)) (b := vI r_) rfl rfl rfl bI_lss ?_)
  refine WR.k rfl rfl rfl (OS.assign (v := vB (decide ((sealed.length : Int) < r_))) rfl rfl ?_)
  refine WR.nil ?_
  refine WC.cond (decide ((sealed.length : Int) < r_)) rfl (fun hb => ?_) (fun hb => ?_)
  · rw [if_pos hb] at hp
    refine WC.seq (WC.region ?_)
    refine WR.k rfl rfl rfl (OS.assign (v := (.slice none 0 0)) rfl rfl ?_)
    refine WR.k rfl rfl rfl (OS.assign (v := vU64 (0 : UInt64)) rfl (by kernel_rfl) ?_)
    refine WR.k rfl rfl rfl (OS.assign (v := vI (3 : Int)) rfl rfl ?_)
    refine WR.nil ?_
    refine WC.ret ?_
    repeat first | refine thenQ_ret ?_ | refine blkQ_ret ?_
    cases hp
    exact fnQ.ls (fn := Tryz.f46) (rs := [.tmp 4, .tmp 5, .tmp 6]) (vs := [(.slice none 0 0), vU64 (0 : UInt64), vI (3 : Int)]) rfl ⟨(.inl ⟨_, rfl, rfl⟩), (.inl ⟨_, rfl, rfl⟩), (.inl ⟨_, rfl, rfl⟩), trivial⟩ ⟨_, _, rfl, (s.t s2).entry (by decide), Ow.nil⟩ (by simp)
  · rw [if_neg (nt hb)] at hp
    refine WC.seq (WC.region ?_)
    refine WR.k rfl rfl rfl (OS.move (v := v_) rfl rfl ?_)
    have o3 := o2.keep s2 (by decide)
    refine WR.k rfl rfl rfl (OS.lenSl rfl Tryz.runUnderlying25 rfl o3.isSl ?_)
    obtain ⟨r_1, hr_1, hp⟩ := bind_some hp
    refine WR.k rfl rfl rfl (OS.callF (vs := [vI (1024 : Int)]) rfl ⟨rfl, trivial⟩ Tryz.call67 ((W67 K w_1 hr_1).mono ?_))
    rintro _ w_2 ⟨d1, rfl, s3⟩
    refine ⟨_, rfl, ?_⟩
    obtain ⟨c_2, s4⟩ : ∃ c_2, St [] w_1 c_1 w_2 c_2 := ⟨_, s3.merge (fun x => x + 14)⟩
    refine WR.k rfl rfl rfl (OS.bin (a := vI (sealed.length : Int)) (b := vI r_1) rfl rfl rfl bI_gtr ?_)
    refine WR.k rfl rfl rfl (OS.assign (v := vB (decide (r_1 < (sealed.length : Int)))) rfl rfl ?_)
    refine WR.nil ?_
    refine WC.cond (decide (r_1 < (sealed.length : Int))) rfl (fun hb1 => ?_) (fun hb1 => ?_)
    · rw [if_pos hb1] at hp
      refine WC.seq (WC.region ?_)
      refine WR.k rfl rfl rfl (OS.assign (v := (.slice none 0 0)) rfl rfl ?_)
      refine WR.k rfl rfl rfl (OS.assign (v := vU64 (0 : UInt64)) rfl (by kernel_rfl) ?_)
      refine WR.k rfl rfl rfl (OS.assign (v := vI (6 : Int)) rfl rfl ?_)
      refine WR.nil ?_
      refine WC.ret ?_
      repeat first | refine thenQ_ret ?_ | refine blkQ_ret ?_
      cases hp
      exact fnQ.ls (fn := Tryz.f46) (rs := [.tmp 4, .tmp 5, .tmp 6]) (vs := [(.slice none 0 0), vU64 (0 : UInt64), vI (6 : Int)]) rfl ⟨(.inl ⟨_, rfl, rfl⟩), (.inl ⟨_, rfl, rfl⟩), (.inl ⟨_, rfl, rfl⟩), trivial⟩ ⟨_, _, rfl, ((s.t s2).t s4).entry (by decide), Ow.nil⟩ (by simp)
    · rw [if_neg (nt hb1)] at hp
      refine WC.skip ?_
      refine WC.seq (WC.region ?_)
      refine WR.k rfl rfl rfl (OS.move (v := v_) rfl rfl ?_)
      have o4 := o3.keep s4 (by decide)
      refine WR.k rfl rfl rfl (OS.lenSl rfl Tryz.runUnderlying25 rfl o4.isSl ?_)
      refine WR.k rfl rfl rfl (OS.bin (a := vI (sealed.length : Int)) (b := vI (16 : Int)) rfl rfl rfl bI_sub ?_)
      refine WR.k rfl rfl rfl (OS.assign (v := vI (W ((sealed.length : Int) - (16 : Int)))) rfl rfl ?_)
      refine WR.nil ?_
      refine WC.seq ?_
      have o5 := o1.keep (s2.t s4) (by decide)
      obtain ⟨ys, hys, hp⟩ := bind_some hp
      obtain ⟨ha, hb2, hc, hys⟩ := sub_some hys
      obtain ⟨r_2, hr_2, hp⟩ := bind_some hp
      obtain ⟨ys1, hys1, hp⟩ := bind_some hp
      obtain ⟨ha1, hb3, hc1, hys1⟩ := sub_some hys1
      obtain ⟨u, hu, hp⟩ := bind_some hp
      have hb4 := req_some hu
      refine WC.seq (WC.draw (c := c_2) ⟨10, [[1], [1], [1], [0], [1], [1], [1], [0], [0], [1]], [[], [], [], [], [], [], [], [], [], []], [], [[], [], [], [1, 2], [0, 3], [], [], [5, 6], [7], [8]], [4, 9]⟩ [fun v w c => v = .agg (fl E5 key).toArray, fun v w c => v = v_, fun v w c => v = vI (W ((sealed.length : Int) - (16 : Int))), fun v w c => Vw E5 0 w c v ys, fun v w c => v = .agg (fl E5 r_2).toArray ∧ r_2.length = 16, fun v w c => v = v_, fun v w c => v = vI (W ((sealed.length : Int) - (16 : Int))), fun v w c => Vw E5 0 w c v ys1, fun v w c => LdC 0 w c v (fl E5 (ys1.take 16)), fun v w c => v = .agg (fl E5 (ys1.take 16)).toArray] hmix (by kernel_rfl) (by kernel_rfl) ⟨?_, ?_, ?_, ?_, ?_, ?_, ?_, ?_, ?_, ?_, trivial⟩ ⟨fun _ _ _ _ _ _ h _ _ => h, fun _ _ _ _ _ _ h _ _ => h, fun _ _ _ _ _ _ h _ _ => h, fun _ _ _ _ _ _ h s hk => Vw.keep h s (hk _ (by simp)), fun _ _ _ _ _ _ h _ _ => h, fun _ _ _ _ _ _ h _ _ => h, fun _ _ _ _ _ _ h _ _ => h, fun _ _ _ _ _ _ h s hk => Vw.keep h s (hk _ (by simp)), fun _ _ _ _ _ _ h s hk => LdC.keep h s (hk _ (by simp)), fun _ _ _ _ _ _ h _ _ => h, trivial⟩ ?_)
      · rintro f_ w_3 c_3 hB hs1 ⟨-⟩ o ho; obtain rfl : _ = o := Option.some.inj ho
        have o6 := o1.keep ((s2.t s4).t hs1) (by decide)
        exact OS.ldN rfl Tryz.isAgg23 Tryz.sizeOf23 ((hB 2 (by kernel_rfl)).trans rfl) o6.ldAll (by rw [fl_length, hl]; rfl) ⟨_, St.refl, rfl⟩
      · rintro f_1 w_4 c_4 hB1 hs2 ⟨-⟩ o ho; obtain rfl : _ = o := Option.some.inj ho
        exact OS.move (v := v_) rfl ((hB1 1 (by kernel_rfl)).trans rfl) ⟨_, St.refl, rfl⟩
      · rintro f_2 w_5 c_5 hB2 hs3 ⟨-⟩ o ho; obtain rfl : _ = o := Option.some.inj ho
        exact OS.move (v := vI (W ((sealed.length : Int) - (16 : Int)))) rfl ((hB2 7 (by kernel_rfl)).trans rfl) ⟨_, St.refl, rfl⟩
      · rintro f_3 w_6 c_6 hB3 hs4 ⟨g, g1, -⟩ o ho; obtain rfl : _ = o := Option.some.inj ho
        replace g : (f_3 24) = v_ := g
        replace g1 : (f_3 25) = vI (W ((sealed.length : Int) - (16 : Int))) := g1
        have o7 := o4.keep hs4 (by decide)
        refine OS.sliceV (E := E5) rfl Tryz.underlying25 Tryz.sizeOf5 g o7 Bd.none (Bd.some g1 (by omega)) rfl (by omega) (by omega) ?_
        intro v h
        exact ⟨_, St.refl, (show Vw E5 0 w_6 c_6 v ys by rw [hys]; exact h)⟩
      · rintro f_4 w_7 c_7 hB4 hs5 ⟨g2, g3, -⟩ o ho; obtain rfl : _ = o := Option.some.inj ho
        replace g2 : (f_4 23) = .agg (fl E5 key).toArray := g2
        replace g3 : Vw E5 0 w_7 c_7 (f_4 26) ys := g3
        refine OS.callF (vs := [.agg (fl E5 key).toArray, (f_4 26)]) rfl ⟨g2, rfl, trivial⟩ Tryz.call62 ((W62 K w_7 hr_2 hl g3.forget).mono ?_)
        rintro _ w ⟨d, rfl, s, hl⟩
        exact ⟨_, rfl, _, s.merge id, rfl, hl⟩
      · rintro f_5 w_8 c_8 hB5 hs6 ⟨-⟩ o ho; obtain rfl : _ = o := Option.some.inj ho
        exact OS.move (v := v_) rfl ((hB5 1 (by kernel_rfl)).trans rfl) ⟨_, St.refl, rfl⟩
      · rintro f_6 w_9 c_9 hB6 hs7 ⟨-⟩ o ho; obtain rfl : _ = o := Option.some.inj ho
        exact OS.move (v := vI (W ((sealed.length : Int) - (16 : Int)))) rfl ((hB6 7 (by kernel_rfl)).trans rfl) ⟨_, St.refl, rfl⟩
      · rintro f_7 w_10 c_10 hB7 hs8 ⟨g4, g5, -⟩ o ho; obtain rfl : _ = o := Option.some.inj ho
        replace g4 : (f_7 28) = v_ := g4
        replace g5 : (f_7 29) = vI (W ((sealed.length : Int) - (16 : Int))) := g5
        have o8 := o4.keep hs8 (by decide)
        refine OS.sliceV (E := E5) rfl Tryz.underlying25 Tryz.sizeOf5 g4 o8 (Bd.some g5 ha1) Bd.none rfl (by omega) (by omega) ?_
        intro v h
        exact ⟨_, St.refl, (show Vw E5 0 w_10 c_10 v ys1 by rw [hys1]; exact h)⟩
      · rintro f_8 w_11 c_11 hB8 hs9 ⟨g6, -⟩ o ho; obtain rfl : _ = o := Option.some.inj ho
        replace g6 : Vw E5 0 w_11 c_11 (f_8 30) ys1 := g6
        refine OS.s2aC (E := E5) rfl Tryz.underlying101 rfl g6 hb4 (by decide) ?_
        intro v h
        exact ⟨_, St.refl, h⟩
      · rintro f_9 w_12 c_12 hB9 hs10 ⟨g7, -⟩ o ho; obtain rfl : _ = o := Option.some.inj ho
        replace g7 : LdC 0 w_12 c_12 (f_9 31) (fl E5 (ys1.take 16)) := g7
        exact OS.ldN rfl Tryz.isAgg101 Tryz.sizeOf101 rfl g7.ld (by rw [fl_length, List.length_take]; have := hb4; show min _ _ * 1 = _; omega) ⟨_, St.refl, rfl⟩
      · rintro f_10 w_13 c_13 hB10 hs11 ⟨g8, g9, -⟩
        have h := (hB10 1 (by kernel_rfl)).trans (show _ = v_ from rfl)
        have h1 := (hB10 2 (by kernel_rfl)).trans (show _ = p_ from rfl)
        have h2 := (hB10 5 (by kernel_rfl)).trans (show _ = vU64 (0 : UInt64) from rfl)
        have h3 := (hB10 7 (by kernel_rfl)).trans (show _ = vI (W ((sealed.length : Int) - (16 : Int))) from rfl)
        replace g8 : (f_10 27) = .agg (fl E5 r_2).toArray ∧ r_2.length = 16 := g8
        replace g9 : (f_10 32) = .agg (fl E5 (ys1.take 16)).toArray := g9
        refine WR.k rfl rfl rfl (OS.eqArr8 rfl (.inr ⟨rfl, rfl⟩) Tryz.underlying101 Tryz.underlying5 Tryz.sizeOf5 Tryz.isAgg5 Tryz.eqGuardType101 g8.1 g9 g8.2 (show (ys1.take 16).length = 16 from by rw [List.length_take]; have := hb4; omega) ?_)
        refine WR.nil ?_
        refine WC.cond (!decide (r_2 = (ys1.take 16))) rfl (fun hb5 => ?_) (fun hb5 => ?_)
        · rw [if_pos hb5] at hp
          refine WC.seq (WC.region ?_)
          refine WR.k rfl rfl rfl (OS.assign (v := (.slice none 0 0)) rfl rfl ?_)
          refine WR.k rfl rfl rfl (OS.assign (v := vU64 (0 : UInt64)) rfl (by kernel_rfl) ?_)
          refine WR.k rfl rfl rfl (OS.assign (v := vI (10 : Int)) rfl rfl ?_)
          refine WR.nil ?_
          refine WC.ret ?_
          repeat first | refine thenQ_ret ?_ | refine blkQ_ret ?_
          cases hp
          exact fnQ.ls (fn := Tryz.f46) (rs := [.tmp 4, .tmp 5, .tmp 6]) (vs := [(.slice none 0 0), vU64 (0 : UInt64), vI (10 : Int)]) rfl ⟨(.inl ⟨_, rfl, rfl⟩), (.inl ⟨_, rfl, rfl⟩), (.inl ⟨_, rfl, rfl⟩), trivial⟩ ⟨_, _, rfl, (((s.t s2).t s4).t hs11).entry (by decide), Ow.nil⟩ (by simp)
        · rw [if_neg (nt hb5)] at hp
          refine WC.skip ?_
          refine WC.seq ?_
          refine WC.seq (WC.region ?_)
          refine WR.k rfl rfl rfl (OS.move (v := v_) rfl h ?_)
          have o9 := o4.keep hs11 (by decide)
          obtain ⟨ys2, hys2, hp⟩ := bind_some hp
          obtain ⟨ha2, hb6, hc2, hys2⟩ := sub_some hys2
          refine WR.k rfl rfl rfl (OS.sliceV (E := E5) rfl Tryz.underlying25 Tryz.sizeOf5 rfl o9 Bd.none (Bd.some rfl (by omega)) rfl (by omega) (by omega) ?_); intro v_1 y2
          replace y2 : Vw E5 0 w_13 c_13 v_1 ys2 := by rw [hys2]; exact y2
          refine WR.k rfl rfl rfl (OS.lenSl rfl Tryz.runUnderlying25 rfl y2.isSl ?_)
          refine WR.k rfl rfl rfl (OS.move (v := vI (0 : Int)) rfl rfl ?_)
          refine WR.nil ?_
          obtain ⟨q, hl1, hp⟩ := bind_some hp
          obtain ⟨once1, hx⟩ : ∃ z, z = q := ⟨_, rfl⟩; subst hx
          refine WC.blockJ2 (fun f_11 w_14 => f_11 1 = v_ ∧ f_11 2 = p_ ∧ f_11 5 = vU64 once1 ∧ f_11 7 = vI (W ((sealed.length : Int) - (16 : Int))) ∧ w_13 = w_14) ?_ ?_
          · refine WC.loop (fun n => fun f_12 w_15 => ∃ (once : UInt64) (x37 : Int), seal_Open.l1 n ys2 once x37 = some once1 ∧ f_12 1 = v_ ∧ f_12 2 = p_ ∧ f_12 5 = vU64 once ∧ f_12 7 = vI (W ((sealed.length : Int) - (16 : Int))) ∧ f_12 35 = v_1 ∧ f_12 36 = vI (ys2.length : Int) ∧ f_12 37 = vI x37 ∧ w_13 = w_15) K ⟨_, _, hl1, h, h1, h2, h3, rfl, rfl, rfl, rfl⟩ ?_
            rintro n f_12 _ ⟨once, x37, hl1, h4, h5, h6, h7, h8, h9, h10, rfl⟩
            cases n with
            | zero => exact absurd hl1 (by simp [seal_Open.l1])
            | succ k =>
            rw [seal_Open.l1] at hl1
            refine WC.seq (WC.region ?_)
            refine WR.k rfl rfl rfl (OS.bin (a := vI x37) (b := vI (ys2.length : Int)) rfl h10 h9 bI_lss ?_)
            refine WR.nil ?_
            refine WC.seq ?_
            refine WC.cond (decide (x37 < (ys2.length : Int))) rfl (fun hb7 => ?_) (fun hb7 => ?_)
            · rw [if_pos hb7] at hl1
              refine WC.skip ?_
              refine WC.seq ?_
              refine WC.block ?_
              refine WC.seq (WC.region ?_)
              obtain ⟨e, he, hl1⟩ := bind_some hl1
              obtain ⟨ha3, hb8, hc3⟩ := gt_some he
              refine WR.k rfl rfl rfl (OS.idx rfl Tryz.runUnderlying25 Tryz.sizeOf5 h8 y2.isSl h10 ha3 hb8 ?_); intro p_1 a1
              refine WR.k rfl rfl rfl (OS.ld1 (u := vU8 e) rfl Tryz.isAgg5 rfl (y2.ld a1 hc3) ?_)
              refine WR.k rfl rfl rfl (OS.assign (v := vU8 e) rfl rfl ?_)
              refine WR.nil ?_
              refine WC.region ?_
              refine WR.k rfl rfl rfl (OS.move (v := vU64 once) rfl h6 ?_)
              refine WR.k rfl rfl rfl (OS.bin (a := vU64 once) (b := vU64 (8 : UInt64)) rfl rfl (by kernel_rfl) (b64_shl (by decide)) ?_)
              refine WR.k rfl rfl rfl (OS.move (v := vU8 e) rfl rfl ?_)
              refine WR.k rfl rfl rfl (OS.conv rfl Tryz.runUnderlying5 Tryz.runUnderlying76 rfl (cv_8_64 _) ?_)
              refine WR.k rfl rfl rfl (OS.bin (a := vU64 (shl64 once 8)) (b := vU64 e.toUInt64) rfl rfl rfl b64_or ?_)
              refine WR.k rfl rfl rfl (OS.assign (v := vU64 ((shl64 once 8) ||| e.toUInt64)) rfl rfl ?_)
              refine WR.nil ?_
              refine WC.region ?_
              refine WR.k rfl rfl rfl (OS.bin (a := vI x37) (b := vI (1 : Int)) rfl h10 rfl bI_add ?_)
              refine WR.k rfl rfl rfl (OS.move (v := vI (W (x37 + (1 : Int)))) rfl rfl ?_)
              refine WR.nil ?_
              exact ⟨k, by omega, _, _, hl1, h4, h5, rfl, h7, h8, h9, rfl, rfl⟩
            · rw [if_neg (nt hb7)] at hl1
              refine WC.exit ?_
              cases hl1
              exact ⟨h4, h5, h6, h7, rfl⟩
          · rintro f_11 _ ⟨h11, h12, h13, h14, rfl⟩
            have o10 := o1.keep ((s2.t s4).t hs11) (by decide)
            obtain ⟨ys3, hys3, hp⟩ := bind_some hp
            obtain ⟨ha4, hb9, hc4, hys3⟩ := sub_some hys3
            obtain ⟨r_3, hr_3, hp⟩ := bind_some hp
            refine WC.seq (WC.draw (c := c_13) ⟨8, [[1], [1], [1], [1], [0], [21], [1], [21]], [[], [], [], [], [], [], [], []], [], [[], [], [], [], [2, 3], [0, 1, 4], [], [5]], [6, 7]⟩ [fun v w c => v = .agg (fl E5 key).toArray, fun v w c => v = vU64 once1, fun v w c => v = v_, fun v w c => v = vI (W ((sealed.length : Int) - (16 : Int))), fun v w c => Vw E5 0 w c v ys3, fun v w c => Ow E5 21 w c v r_3, fun v w c => v = vU64 once1, fun v w c => Ow E5 21 w c v r_3] hmix (by kernel_rfl) (by kernel_rfl) ⟨?_, ?_, ?_, ?_, ?_, ?_, ?_, ?_, trivial⟩ ⟨fun _ _ _ _ _ _ h _ _ => h, fun _ _ _ _ _ _ h _ _ => h, fun _ _ _ _ _ _ h _ _ => h, fun _ _ _ _ _ _ h _ _ => h, fun _ _ _ _ _ _ h s hk => Vw.keep h s (hk _ (by simp)), fun _ _ _ _ _ _ h s hk => Ow.keep h s (hk _ (by simp)), fun _ _ _ _ _ _ h _ _ => h, fun _ _ _ _ _ _ h s hk => Ow.keep h s (hk _ (by simp)), trivial⟩ ?_)
            · rintro f_13 w_16 c_16 hB11 hs12 ⟨-⟩ o ho; obtain rfl : _ = o := Option.some.inj ho
              have o11 := o1.keep (((s2.t s4).t hs11).t hs12) (by decide)
              exact OS.ldN rfl Tryz.isAgg23 Tryz.sizeOf23 ((hB11 2 (by kernel_rfl)).trans h12) o11.ldAll (by rw [fl_length, hl]; rfl) ⟨_, St.refl, rfl⟩
            · rintro f_14 w_17 c_17 hB12 hs13 ⟨-⟩ o ho; obtain rfl : _ = o := Option.some.inj ho
              exact OS.move (v := vU64 once1) rfl ((hB12 5 (by kernel_rfl)).trans h13) ⟨_, St.refl, rfl⟩
            · rintro f_15 w_18 c_18 hB13 hs14 ⟨-⟩ o ho; obtain rfl : _ = o := Option.some.inj ho
              exact OS.move (v := v_) rfl ((hB13 1 (by kernel_rfl)).trans h11) ⟨_, St.refl, rfl⟩
            · rintro f_16 w_19 c_19 hB14 hs15 ⟨-⟩ o ho; obtain rfl : _ = o := Option.some.inj ho
              exact OS.move (v := vI (W ((sealed.length : Int) - (16 : Int)))) rfl ((hB14 7 (by kernel_rfl)).trans h14) ⟨_, St.refl, rfl⟩
            · rintro f_17 w_20 c_20 hB15 hs16 ⟨g10, g11, -⟩ o ho; obtain rfl : _ = o := Option.some.inj ho
              replace g10 : (f_17 49) = v_ := g10
              replace g11 : (f_17 50) = vI (W ((sealed.length : Int) - (16 : Int))) := g11
              have o12 := o9.keep hs16 (by decide)
              refine OS.sliceV (E := E5) rfl Tryz.underlying25 Tryz.sizeOf5 g10 o12 (Bd.some rfl ha4) (Bd.some g11 (by omega)) rfl (by omega) (by omega) ?_
              intro v h
              exact ⟨_, St.refl, (show Vw E5 0 w_20 c_20 v ys3 by rw [hys3]; exact h)⟩
            · rintro f_18 w_21 c_21 hB16 hs17 ⟨g12, g13, g14, -⟩ o ho; obtain rfl : _ = o := Option.some.inj ho
              replace g12 : (f_18 47) = .agg (fl E5 key).toArray := g12
              replace g13 : (f_18 48) = vU64 once1 := g13
              replace g14 : Vw E5 0 w_21 c_21 (f_18 51) ys3 := g14
              refine OS.callF (vs := [.agg (fl E5 key).toArray, vU64 once1, (f_18 51)]) rfl ⟨g12, g13, rfl, trivial⟩ Tryz.call61 ((W61 K w_21 hr_3 hl g14.forget).mono ?_)
              rintro _ w ⟨v, d, rfl, s, o⟩
              exact ⟨_, rfl, _, s.merge (fun x => x + 19), o.merge (fun x => x + 19) s (by decide)⟩
            · rintro f_19 w_22 c_22 hB17 hs18 ⟨-⟩ o ho; obtain rfl : _ = o := Option.some.inj ho
              exact OS.move (v := vU64 once1) rfl ((hB17 5 (by kernel_rfl)).trans h13) ⟨_, St.refl, rfl⟩
            · rintro f_20 w_23 c_23 hB18 hs19 ⟨g15, -⟩ o ho; obtain rfl : _ = o := Option.some.inj ho
              replace g15 : Ow E5 21 w_23 c_23 (f_20 52) r_3 := g15
              exact OS.assign (v := (f_20 52)) rfl rfl ⟨_, St.refl, g15⟩
            · rintro f_21 w_24 c_24 hB19 hs20 ⟨g16, g17, -⟩
              replace g16 : (f_21 53) = vU64 once1 := g16
              replace g17 : Ow E5 21 w_24 c_24 (f_21 4) r_3 := g17
              refine WR.k rfl rfl rfl (OS.assign (v := vU64 once1) rfl g16 ?_)
              refine WR.k rfl rfl rfl (OS.assign (v := vI (0 : Int)) rfl rfl ?_)
              refine WR.nil ?_
              refine WC.ret ?_
              repeat first | refine thenQ_ret ?_ | refine blkQ_ret ?_
              cases hp
              obtain ⟨c_25, s5, o13⟩ := g17.recol 2
              exact fnQ.ls (fn := Tryz.f46) (rs := [.tmp 4, .tmp 5, .tmp 6]) (vs := [(f_21 4), vU64 once1, vI (0 : Int)]) rfl ⟨(.inl ⟨_, rfl, rfl⟩), (.inl ⟨_, rfl, rfl⟩), (.inl ⟨_, rfl, rfl⟩), trivial⟩ ⟨_, _, rfl, (((((s.t s2).t s4).t hs11).t hs20).t s5).entry (by decide), o13⟩ (by simp)
theorem V46 (K : Nat) (w0 : World) (cw : Col) (hcw : ∀ b, cw b < 40) {x0 : List UInt8} {x1 : List UInt8} {r : (List UInt8) × UInt64 × Int} (hp : seal_Open K x0 x1 = some r) (h0 : x0.length = 32) {i1 : Nat} (hi1 : i1 ≤ 1) {v1 : Value} (o1 : Vw E5 i1 w0 cw v1 x1) :
    Calls Tryz.prog 46 [.agg (fl E5 x0).toArray, v1].toArray w0 fun e w1 => ∃ (s0 : Sl) (d : Col), e = .returned (.tuple #[s0.val, vU64 r.2.1, vI r.2.2]) ∧ St [] w0 cw w1 d ∧ Ow E5 2000 w1 d s0.val r.1 := by
  refine (W46 K w0 hp h0 o1.forget).mono ?_
  rintro _ w1 ⟨y0, d, rfl, sx, o0_⟩
  obtain ⟨s0, e0⟩ := isSlv o0_.isSl; subst e0
  exact ⟨s0, _, rfl, sx.merge (fun x => x + 1998), o0_.merge (fun x => x + 1998) sx (by decide)⟩

-- (*holdfast/keys.Tree).Open
set_option maxHeartbeats 4000000 in
theorem W23n0 (K : Nat) (w0 : World) (cw : Col) (hcw : ∀ b, cw b < 40) {tenant : List UInt8} {name : List UInt8} {sealed : List UInt8} {r : (List UInt8) × Int × Int} (hp : keys_Tree_Open_nil0 K tenant name sealed = some r) {i : Nat} (hi : i ≤ 1) {v_ : Value} (o : Vw E5 i w0 cw v_ sealed) {gi0 : Nat} (hgi0 : gi0 ≤ 1) (og0 : Arr E76 gi0 w0 cw (.pointer (some ⟨0, 0, none⟩)) tab0) {gi7 : Nat} (hgi7 : gi7 ≤ 1) (og7 : Arr E5 gi7 w0 cw (.pointer (some ⟨7, 0, none⟩)) tab7) :
    Calls Tryz.prog 23 [.pointer none, vS tenant, vS name, v_].toArray w0 fun e w1 => ∃ (sl1 : Sl) (d : Col), e = .returned (.tuple #[sl1.val, vI r.2.1, vI r.2.2]) ∧ St [] w0 cw w1 d ∧ Ow E5 2000 w1 d sl1.val r.1 := by
  refine calls_intro Tryz.func23 rfl Tryz.ntmps23 rfl ?_
  unfold keys_Tree_Open_nil0 at hp
  refine WC.seq (WC.region ?_)
  refine WR.k rfl rfl rfl (OS.assign (v := (.slice none 0 0)) rfl rfl ?_)
  refine WR.k rfl rfl rfl (OS.assign (v := vI (0 : Int)) rfl rfl ?_)
  refine WR.k rfl rfl rfl (OS.assign (v := vI (0 : Int)) rfl rfl ?_)
  refine WR.nil ?_
  refine WC.seq (WC.region ?_)
  refine WR.k rfl rfl rfl (OS.move (v := .pointer none) rfl rfl ?_)
  refine WR.k rfl rfl rfl (OS.move (v := vS tenant) rfl rfl ?_)
  refine WR.k rfl rfl rfl (OS.move (v := vS name) rfl rfl ?_)
  obtain ⟨r_, hr_, hp⟩ := bind_some hp
  refine WR.k rfl rfl rfl (OS.callF (vs := [.pointer none, vS tenant, vS name]) rfl ⟨rfl, rfl, rfl, trivial⟩ Tryz.call13 ((W13n0 K w0 (rcc [] cw) (rcc_lt cw rfl) hr_).mono ?_))
  rintro _ w_ ⟨d1, rfl, s⟩
  refine ⟨_, rfl, ?_⟩
  obtain ⟨c_, s1⟩ : ∃ c_, St [] w0 cw w_ c_ := ⟨_, s.mg2 (sh := 10000) rfl⟩
  refine WR.k rfl rfl rfl (OS.move (v := .tuple #[vI r_.1, vI r_.2]) rfl rfl ?_)
  refine WR.k rfl rfl rfl (OS.extract (v := vI r_.1) rfl rfl rfl ?_)
  refine WR.k rfl rfl rfl (OS.extract (v := vI r_.2) rfl rfl rfl ?_)
  refine WR.k rfl rfl rfl (OS.assign (v := vI r_.1) rfl rfl ?_)
  refine WR.k rfl rfl rfl (OS.assign (v := vI r_.2) rfl rfl ?_)
  refine WR.nil ?_
  refine WC.seq ?_
  refine WC.seq (WC.region ?_)
  refine WR.k rfl rfl rfl (OS.move (v := vI r_.2) rfl rfl ?_)
  refine WR.k rfl rfl rfl (OS.bin (a := vI r_.2) (b := vI (0 : Int)) rfl rfl rfl bI_eql ?_)
  refine WR.k rfl rfl rfl (OS.move (v := vB (decide (r_.2 = (0 : Int)))) rfl rfl ?_)
  refine WR.cut2 4 (fun f_ w_1 => f_ 0 = .pointer none ∧ f_ 1 = vS tenant ∧ f_ 2 = vS name ∧ f_ 3 = v_ ∧ f_ 12 = vI r_.2 ∧ f_ 30 = vB ((decide (r_.2 = (0 : Int))) && (decide ((sealed.length : Int) = (0 : Int)))) ∧ w_ = w_1) ?_ ?_
  · rcases Bool.eq_false_or_eq_true (decide (r_.2 = (0 : Int))) with hg | hg
    · refine WR.kT rfl rfl (vb_t rfl hg) rfl rfl (OS.move (v := v_) rfl rfl ?_)
      have o1 := o.keep s1 (nin hi (by decide))
      refine WR.kT rfl rfl (vb_t rfl hg) rfl rfl (OS.lenSl rfl Tryz.runUnderlying25 rfl o1.isSl ?_)
      refine WR.kT rfl rfl (vb_t rfl hg) rfl rfl (OS.bin (a := vI (sealed.length : Int)) (b := vI (0 : Int)) rfl rfl rfl bI_eql ?_)
      refine WR.k rfl rfl rfl (OS.pickT rfl (vb_t rfl hg) rfl ?_)
      refine WR.nil ?_
      exact ⟨rfl, rfl, rfl, rfl, rfl, (and_t hg), rfl⟩
    · refine WR.gF rfl rfl (vb_f rfl hg) rfl rfl ?_
      refine WR.gF rfl rfl (vb_f rfl hg) rfl rfl ?_
      refine WR.gF rfl rfl (vb_f rfl hg) rfl rfl ?_
      refine WR.k rfl rfl rfl (OS.pickF rfl (vb_f rfl hg) rfl ?_)
      refine WR.nil ?_
      exact ⟨rfl, rfl, rfl, rfl, rfl, (and_f hg), rfl⟩
  · rintro f_ _ ⟨h, h1, h2, h3, h4, h5, rfl⟩
    refine WR.nil ?_
    refine WC.endJ (fun f_1 w_2 => ∃ (e1 : Int), keys_Tree_Open_nil0.j1 K sealed tenant name e1 = some r ∧ f_1 0 = .pointer none ∧ f_1 1 = vS tenant ∧ f_1 2 = vS name ∧ f_1 3 = v_ ∧ f_1 12 = vI e1 ∧ w_ = w_2) ?_ ?_
    · refine WC.cond ((decide (r_.2 = (0 : Int))) && (decide ((sealed.length : Int) = (0 : Int)))) h5 (fun hb => ?_) (fun hb => ?_)
      · rw [if_pos hb] at hp
        refine WC.region ?_
        refine WR.k rfl rfl rfl (OS.assign (v := vI (3 : Int)) rfl rfl ?_)
        refine WR.nil ?_
        exact ⟨_, hp, h, h1, h2, h3, rfl, rfl⟩
      · rw [if_neg (nt hb)] at hp
        refine WC.skip ?_
        exact ⟨_, hp, h, h1, h2, h3, h4, rfl⟩
    · rintro f_1 _ ⟨e1, hp, h6, h7, h8, h9, h10, rfl⟩
      unfold keys_Tree_Open_nil0.j1 at hp
      refine WC.seq ?_
      refine WC.seq (WC.region ?_)
      refine WR.k rfl rfl rfl (OS.move (v := vI e1) rfl h10 ?_)
      refine WR.k rfl rfl rfl (OS.bin (a := vI e1) (b := vI (0 : Int)) rfl rfl rfl bI_neq ?_)
      refine WR.nil ?_
      refine WC.cond (!decide (e1 = (0 : Int))) rfl (fun hb1 => ?_) (fun hb1 => ?_)
      · rw [if_pos hb1] at hp
        refine WC.seq (WC.region ?_)
        refine WR.k rfl rfl rfl (OS.move (v := vI e1) rfl h10 ?_)
        refine WR.k rfl rfl rfl (OS.assign (v := (.slice none 0 0)) rfl rfl ?_)
        refine WR.k rfl rfl rfl (OS.assign (v := vI (0 : Int)) rfl rfl ?_)
        refine WR.k rfl rfl rfl (OS.assign (v := vI e1) rfl rfl ?_)
        refine WR.nil ?_
        refine WC.ret ?_
        repeat first | refine thenQ_ret ?_ | refine blkQ_ret ?_
        cases hp
        exact fnQ.ls (fn := Tryz.f23) (rs := [.tmp 8, .tmp 9, .tmp 10]) (vs := [(.slice none 0 0), vI (0 : Int), vI e1]) rfl ⟨(.inl ⟨_, rfl, rfl⟩), (.inl ⟨_, rfl, rfl⟩), (.inl ⟨_, rfl, rfl⟩), trivial⟩ ⟨⟨none, 0, 0⟩, _, rfl, s1.leave hcw (by decide), Ow.nil⟩ (by simp)
      · rw [if_neg (nt hb1)] at hp
        refine WC.skip ?_
        refine WC.seq (WC.region ?_)
        refine WR.k rfl rfl rfl (OS.move (v := v_) rfl h9 ?_)
        have o2 := o.keep s1 (nin hi (by decide))
        obtain ⟨e2, he2, hp⟩ := bind_some hp
        obtain ⟨ha, hb2, hc⟩ := gt_some he2
        refine WR.k rfl rfl rfl (OS.idx rfl Tryz.runUnderlying25 Tryz.sizeOf5 rfl o2.isSl rfl ha hb2 ?_); intro p_ a1
        refine WR.k rfl rfl rfl (OS.ld1 (u := vU8 e2) rfl Tryz.isAgg5 rfl (o2.ld a1 hc) ?_)
        refine WR.k rfl rfl rfl (OS.conv rfl Tryz.runUnderlying5 Tryz.runUnderlying3 rfl (cv_8i _) ?_)
        refine WR.k rfl rfl rfl (OS.assign (v := vI (e2.toNat : Int)) rfl rfl ?_)
        refine WR.nil ?_
        refine WC.seq (WC.region ?_)
        refine WR.k rfl rfl rfl (OS.move (v := .pointer none) rfl h6 ?_)
        refine WR.k rfl rfl rfl (OS.move (v := vS tenant) rfl h7 ?_)
        refine WR.k rfl rfl rfl (OS.move (v := vS name) rfl h8 ?_)
        refine WR.k rfl rfl rfl (OS.move (v := vI (e2.toNat : Int)) rfl rfl ?_)
        have og := og0.keep s1 (nin hgi0 (by decide))
        have og1 := og7.keep s1 (nin hgi7 (by decide))
        obtain ⟨r_1, hr_1, hp⟩ := bind_some hp
        refine WR.k rfl rfl rfl (OS.callF (vs := [.pointer none, vS tenant, vS name, vI (e2.toNat : Int)]) rfl ⟨rfl, rfl, rfl, rfl, trivial⟩ Tryz.call14 ((W14n0 (gi0 := gi0) (gi7 := gi7) K w_ (rcc [] c_) (rcc_lt c_ rfl) hr_1 hgi0 (og.tr (rc_tr (rc_low hgi0 rfl))) hgi7 (og1.tr (rc_tr (rc_low hgi7 rfl)))).mono ?_))
        rintro _ w_3 ⟨d2, rfl, s2, hl⟩
        refine ⟨_, rfl, ?_⟩
        obtain ⟨c_3, s3⟩ : ∃ c_3, St [] w_ c_ w_3 c_3 := ⟨_, s2.mg2 (sh := 20000) rfl⟩
        refine WR.k rfl rfl rfl (OS.move (v := .tuple #[.agg (fl E5 r_1.1).toArray, vI r_1.2]) rfl rfl ?_)
        refine WR.k rfl rfl rfl (OS.extract (v := .agg (fl E5 r_1.1).toArray) rfl rfl rfl ?_)
        refine WR.k rfl rfl rfl (OS.extract (v := vI r_1.2) rfl rfl rfl ?_)
        refine WR.k rfl rfl rfl (OS.allocArr (E := E5) (xs := (List.replicate 32 (0 : UInt8))) (c := c_3) 40 rfl Tryz.zeroValue23 (by kernel_rfl) ?_); intro p_1 w_4 c_4 o3 s4
        refine WR.k0 rfl rfl (OS.stArrAll rfl Tryz.sizeOf23 rfl rfl o3 (by rw [fl_length, hl]; rfl) (Eq.trans (List.length_replicate (n := 32) (a := (0 : UInt8))) (Eq.symm hl)) ?_); intro w_5 o4 s5
        have hl1 : r_1.1.length = 32 := hl
        refine WR.k rfl rfl rfl (OS.assign (v := vI r_1.2) rfl rfl ?_)
        refine WR.nil ?_
        refine WC.seq ?_
        refine WC.seq (WC.region ?_)
        refine WR.k rfl rfl rfl (OS.move (v := vI r_1.2) rfl rfl ?_)
        refine WR.k rfl rfl rfl (OS.bin (a := vI r_1.2) (b := vI (0 : Int)) rfl rfl rfl bI_neq ?_)
        refine WR.nil ?_
        refine WC.cond (!decide (r_1.2 = (0 : Int))) rfl (fun hb3 => ?_) (fun hb3 => ?_)
        · rw [if_pos hb3] at hp
          refine WC.seq (WC.region ?_)
          refine WR.k rfl rfl rfl (OS.move (v := vI r_1.2) rfl rfl ?_)
          refine WR.k rfl rfl rfl (OS.assign (v := (.slice none 0 0)) rfl rfl ?_)
          refine WR.k rfl rfl rfl (OS.assign (v := vI (0 : Int)) rfl rfl ?_)
          refine WR.k rfl rfl rfl (OS.assign (v := vI r_1.2) rfl rfl ?_)
          refine WR.nil ?_
          refine WC.ret ?_
          repeat first | refine thenQ_ret ?_ | refine blkQ_ret ?_
          cases hp
          exact fnQ.ls (fn := Tryz.f23) (rs := [.tmp 8, .tmp 9, .tmp 10]) (vs := [(.slice none 0 0), vI (0 : Int), vI r_1.2]) rfl ⟨(.inl ⟨_, rfl, rfl⟩), (.inl ⟨_, rfl, rfl⟩), (.inl ⟨_, rfl, rfl⟩), trivial⟩ ⟨⟨none, 0, 0⟩, _, rfl, (((s1.t s3).t s4).t s5).leave hcw (by decide), Ow.nil⟩ (by simp)
        · rw [if_neg (nt hb3)] at hp
          refine WC.skip ?_
          have o5 := o2.keep ((s3.t s4).t s5) (nin hi (by decide))
          obtain ⟨ys1, hys1, hp⟩ := bind_some hp
          obtain ⟨ha1, hb4, hc1, hys1⟩ := sub_some hys1
          obtain ⟨r_2, hr_2, hp⟩ := bind_some hp
          refine WC.seq (WC.draw3 (c := c_4) ⟨10, [[], [], [0, 1], [32000], [], [], [], [], [], []], [[], [], [], [], [], [], [], [], [], []], [], [[], [], [1], [0, 2], [3], [3, 4], [3, 4], [3, 4], [3, 4, 5], [6]], [3, 4, 5, 7, 8]⟩ [[], [], [], [], [], [], [], [], [], []] [[50], [51], [52], [53], [49, 53], [49, 54], [55], [56], [15, 54], [16]] [fun yf yw yc => (yf 50) = .agg (fl E5 r_1.1).toArray, fun yf yw yc => (yf 51) = v_, fun yf yw yc => Vw E5 i yw yc ((yf 52)) ys1, fun yf yw yc => ∃ (sl : Sl), (yf 53) = .tuple #[sl.val, vU64 r_2.2.1, vI r_2.2.2] ∧ Ow E5 32000 yw yc sl.val r_2.1, fun yf yw yc => (yf 49) = (yf 53), fun yf yw yc => (yf 54) = prj 0 (yf 49), fun yf yw yc => (yf 55) = vU64 r_2.2.1, fun yf yw yc => (yf 56) = vI r_2.2.2, fun yf yw yc => (yf 15) = (yf 54), fun yf yw yc => (yf 16) = vU64 r_2.2.1] hmix (by kernel_rfl) (by kernel_rfl) ⟨?_, ?_, ?_, ?_, ?_, ?_, ?_, ?_, ?_, ?_, trivial⟩ ⟨fun y1 y2 yw yc yI yw1 yc1 yh ye ys yk => by obtain ⟨ye0, -⟩ := ye; show (y2 50) = .agg (fl E5 r_1.1).toArray; rw [ye0]; exact yh, fun y1 y2 yw yc yI yw1 yc1 yh ye ys yk => by obtain ⟨ye0, -⟩ := ye; show (y2 51) = v_; rw [ye0]; exact yh, fun y1 y2 yw yc yI yw1 yc1 yh ye ys yk => by obtain ⟨ye0, -⟩ := ye; replace yh : Vw E5 i yw yc ((y1 52)) ys1 := yh; have h2 := yh.keep ys (low01 hi (yk 0 (by simp)) (yk 1 (by simp))); show Vw E5 i yw1 yc1 ((y2 52)) ys1; rw [ye0]; exact h2, fun y1 y2 yw yc yI yw1 yc1 yh ye ys yk => by obtain ⟨ye0, -⟩ := ye; obtain ⟨sl, yg, o6⟩ := yh; exact ⟨sl, (by rw [ye0]; exact yg), o6.keep ys (yk _ (by simp))⟩, fun y1 y2 yw yc yI yw1 yc1 yh ye ys yk => by obtain ⟨ye0, ye1, -⟩ := ye; show (y2 49) = (y2 53); rw [ye0, ye1]; exact yh, fun y1 y2 yw yc yI yw1 yc1 yh ye ys yk => by obtain ⟨ye0, ye1, -⟩ := ye; show (y2 54) = prj 0 (y2 49); rw [ye0, ye1]; exact yh, fun y1 y2 yw yc yI yw1 yc1 yh ye ys yk => by obtain ⟨ye0, -⟩ := ye; show (y2 55) = vU64 r_2.2.1; rw [ye0]; exact yh, fun y1 y2 yw yc yI yw1 yc1 yh ye ys yk => by obtain ⟨ye0, -⟩ := ye; show (y2 56) = vI r_2.2.2; rw [ye0]; exact yh, fun y1 y2 yw yc yI yw1 yc1 yh ye ys yk => by obtain ⟨ye0, ye1, -⟩ := ye; show (y2 15) = (y2 54); rw [ye0, ye1]; exact yh, fun y1 y2 yw yc yI yw1 yc1 yh ye ys yk => by obtain ⟨ye0, -⟩ := ye; show (y2 16) = vU64 r_2.2.1; rw [ye0]; exact yh, trivial⟩ ?_)
          · rintro f_2 w_6 c_5 hB hs ⟨-⟩ o ho; obtain rfl : _ = o := Option.some.inj ho
            have o7 := o4.keep hs (by decide)
            exact OS.ldN rfl Tryz.isAgg23 Tryz.sizeOf23 ((hB 14 (by kernel_rfl)).trans (show _ = p_1 from rfl)) o7.ldAll (by rw [fl_length, hl1]; rfl) ⟨_, St.refl, rfl⟩
          · rintro f_3 w_7 c_6 hB1 hs1 ⟨-⟩ o ho; obtain rfl : _ = o := Option.some.inj ho
            exact OS.move (v := v_) rfl ((hB1 3 (by kernel_rfl)).trans h9) ⟨_, St.refl, rfl⟩
          · rintro f_4 w_8 c_7 hB2 hs2 ⟨g, -⟩ o ho; obtain rfl : _ = o := Option.some.inj ho
            replace g : (f_4 51) = v_ := g
            have o8 := o2.keep (((s3.t s4).t s5).t hs2) (nin hi (by decide))
            exact OS.sliceV (E := E5) rfl Tryz.underlying25 Tryz.sizeOf5 g o8 (Bd.some rfl ha1) Bd.none rfl (by omega) (by omega) (fun _ h => ⟨_, St.refl, (by rw [hys1]; exact h)⟩)
          · rintro f_5 w_9 c_8 hB3 hs3 ⟨g1, g2, -⟩ o ho; obtain rfl : _ = o := Option.some.inj ho
            replace g1 : (f_5 50) = .agg (fl E5 r_1.1).toArray := g1
            replace g2 : Vw E5 i w_9 c_8 ((f_5 52)) ys1 := g2
            refine OS.callF (vs := [.agg (fl E5 r_1.1).toArray, (f_5 52)]) rfl ⟨g1, rfl, trivial⟩ Tryz.call46 ((V46 (i1 := i) K w_9 (rcc [] c_8) (rcc_lt c_8 rfl) hr_2 hl1 hi ((g2).tr (rc_tr (rc_low hi rfl)))).mono ?_)
            rintro _ yw ⟨sl, yd, rfl, ys, o6⟩
            exact ⟨_, rfl, _, ys.mg2 (I := []) (sh := 30000) rfl, sl, rfl, (o6.tr (mg2_back ys rfl))⟩
          · rintro f_6 w_10 c_9 hB4 hs4 ⟨g3, -⟩ o ho; obtain rfl : _ = o := Option.some.inj ho
            replace g3 : ∃ (sl : Sl), (f_6 53) = .tuple #[sl.val, vU64 r_2.2.1, vI r_2.2.2] ∧ Ow E5 32000 w_10 c_9 sl.val r_2.1 := g3
            obtain ⟨sl, g3, o6⟩ := g3
            exact OS.move (v := .tuple #[sl.val, vU64 r_2.2.1, vI r_2.2.2]) rfl g3 ⟨_, St.refl, (show .tuple #[sl.val, vU64 r_2.2.1, vI r_2.2.2] = (f_6 53) from g3.symm)⟩
          · rintro f_7 w_11 c_10 hB5 hs5 ⟨g4, g5, -⟩ o ho; obtain rfl : _ = o := Option.some.inj ho
            replace g4 : ∃ (sl : Sl), (f_7 53) = .tuple #[sl.val, vU64 r_2.2.1, vI r_2.2.2] ∧ Ow E5 32000 w_11 c_10 sl.val r_2.1 := g4
            obtain ⟨sl, g4, o6⟩ := g4
            replace g5 : (f_7 49) = (f_7 53) := g5
            replace g5 : (f_7 49) = .tuple #[sl.val, vU64 r_2.2.1, vI r_2.2.2] := g5.trans g4
            exact OS.extract (v := sl.val) rfl g5 rfl ⟨_, St.refl, (show sl.val = prj 0 (f_7 49) from by rw [g5]; rfl)⟩
          · rintro f_8 w_12 c_11 hB6 hs6 ⟨g6, g7, -⟩ o ho; obtain rfl : _ = o := Option.some.inj ho
            replace g6 : ∃ (sl : Sl), (f_8 53) = .tuple #[sl.val, vU64 r_2.2.1, vI r_2.2.2] ∧ Ow E5 32000 w_12 c_11 sl.val r_2.1 := g6
            obtain ⟨sl, g6, o6⟩ := g6
            replace g7 : (f_8 49) = (f_8 53) := g7
            replace g7 : (f_8 49) = .tuple #[sl.val, vU64 r_2.2.1, vI r_2.2.2] := g7.trans g6
            exact OS.extract (v := vU64 r_2.2.1) rfl g7 rfl ⟨_, St.refl, rfl⟩
          · rintro f_9 w_13 c_12 hB7 hs7 ⟨g8, g9, -⟩ o ho; obtain rfl : _ = o := Option.some.inj ho
            replace g8 : ∃ (sl : Sl), (f_9 53) = .tuple #[sl.val, vU64 r_2.2.1, vI r_2.2.2] ∧ Ow E5 32000 w_13 c_12 sl.val r_2.1 := g8
            obtain ⟨sl, g8, o6⟩ := g8
            replace g9 : (f_9 49) = (f_9 53) := g9
            replace g9 : (f_9 49) = .tuple #[sl.val, vU64 r_2.2.1, vI r_2.2.2] := g9.trans g8
            exact OS.extract (v := vI r_2.2.2) rfl g9 rfl ⟨_, St.refl, rfl⟩
          · rintro f_10 w_14 c_13 hB8 hs8 ⟨g10, g11, g12, -⟩ o ho; obtain rfl : _ = o := Option.some.inj ho
            replace g10 : ∃ (sl : Sl), (f_10 53) = .tuple #[sl.val, vU64 r_2.2.1, vI r_2.2.2] ∧ Ow E5 32000 w_14 c_13 sl.val r_2.1 := g10
            obtain ⟨sl, g10, o6⟩ := g10
            replace g11 : (f_10 49) = (f_10 53) := g11
            replace g11 : (f_10 49) = .tuple #[sl.val, vU64 r_2.2.1, vI r_2.2.2] := g11.trans g10
            replace g12 : (f_10 54) = prj 0 (f_10 49) := g12
            replace g12 : (f_10 54) = sl.val := g12.trans (by rw [g11]; rfl)
            exact OS.assign (v := sl.val) rfl g12 ⟨_, St.refl, (show sl.val = (f_10 54) from g12.symm)⟩
          · rintro f_11 w_15 c_14 hB9 hs9 ⟨g13, -⟩ o ho; obtain rfl : _ = o := Option.some.inj ho
            replace g13 : (f_11 55) = vU64 r_2.2.1 := g13
            exact OS.assign (v := vU64 r_2.2.1) rfl g13 ⟨_, St.refl, rfl⟩
          · rintro f_12 w_16 c_15 hB10 hs10 ⟨g14, g15, g16, g17, g18, -⟩
            replace g14 : ∃ (sl : Sl), (f_12 53) = .tuple #[sl.val, vU64 r_2.2.1, vI r_2.2.2] ∧ Ow E5 32000 w_16 c_15 sl.val r_2.1 := g14
            obtain ⟨sl, g14, o6⟩ := g14
            replace g15 : (f_12 49) = (f_12 53) := g15
            replace g15 : (f_12 49) = .tuple #[sl.val, vU64 r_2.2.1, vI r_2.2.2] := g15.trans g14
            replace g16 : (f_12 54) = prj 0 (f_12 49) := g16
            replace g16 : (f_12 54) = sl.val := g16.trans (by rw [g15]; rfl)
            replace g17 : (f_12 56) = vI r_2.2.2 := g17
            replace g18 : (f_12 15) = (f_12 54) := g18
            replace g18 : (f_12 15) = sl.val := g18.trans g16
            have h11 := (hB10 13 (by kernel_rfl)).trans (show _ = vI (e2.toNat : Int) from rfl)
            refine WR.k rfl rfl rfl (OS.assign (v := vI r_2.2.2) rfl g17 ?_)
            refine WR.nil ?_
            refine WC.seq ?_
            refine WC.seq (WC.region ?_)
            refine WR.k rfl rfl rfl (OS.move (v := vI r_2.2.2) rfl rfl ?_)
            refine WR.k rfl rfl rfl (OS.bin (a := vI r_2.2.2) (b := vI (0 : Int)) rfl rfl rfl bI_neq ?_)
            refine WR.nil ?_
            refine WC.cond (!decide (r_2.2.2 = (0 : Int))) rfl (fun hb5 => ?_) (fun hb5 => ?_)
            · rw [if_pos hb5] at hp
              refine WC.seq (WC.region ?_)
              refine WR.k rfl rfl rfl (OS.move (v := vI r_2.2.2) rfl rfl ?_)
              refine WR.k rfl rfl rfl (OS.assign (v := (.slice none 0 0)) rfl rfl ?_)
              refine WR.k rfl rfl rfl (OS.assign (v := vI (0 : Int)) rfl rfl ?_)
              refine WR.k rfl rfl rfl (OS.assign (v := vI r_2.2.2) rfl rfl ?_)
              refine WR.nil ?_
              refine WC.ret ?_
              repeat first | refine thenQ_ret ?_ | refine blkQ_ret ?_
              cases hp
              exact fnQ.ls (fn := Tryz.f23) (rs := [.tmp 8, .tmp 9, .tmp 10]) (vs := [(.slice none 0 0), vI (0 : Int), vI r_2.2.2]) rfl ⟨(.inl ⟨_, rfl, rfl⟩), (.inl ⟨_, rfl, rfl⟩), (.inl ⟨_, rfl, rfl⟩), trivial⟩ ⟨⟨none, 0, 0⟩, _, rfl, ((((s1.t s3).t s4).t s5).t hs10).leave hcw (by decide), Ow.nil⟩ (by simp)
            · rw [if_neg (nt hb5)] at hp
              refine WC.skip ?_
              refine WC.seq (WC.region ?_)
              refine WR.k rfl rfl rfl (OS.move (v := sl.val) rfl g18 ?_)
              refine WR.k rfl rfl rfl (OS.move (v := vI (e2.toNat : Int)) rfl h11 ?_)
              refine WR.k rfl rfl rfl (OS.assign (v := sl.val) rfl rfl ?_)
              refine WR.k rfl rfl rfl (OS.assign (v := vI (e2.toNat : Int)) rfl rfl ?_)
              refine WR.k rfl rfl rfl (OS.assign (v := vI (0 : Int)) rfl rfl ?_)
              refine WR.nil ?_
              refine WC.ret ?_
              repeat first | refine thenQ_ret ?_ | refine blkQ_ret ?_
              cases hp
              obtain ⟨c_16, s6, o9⟩ := o6.recol 2000
              exact fnQ.ls (fn := Tryz.f23) (rs := [.tmp 8, .tmp 9, .tmp 10]) (vs := [sl.val, vI (e2.toNat : Int), vI (0 : Int)]) rfl ⟨(.inl ⟨_, rfl, rfl⟩), (.inl ⟨_, rfl, rfl⟩), (.inl ⟨_, rfl, rfl⟩), trivial⟩ ⟨_, _, rfl, (((((s1.t s3).t s4).t s5).t hs10).t s6).leave hcw (by decide), o9⟩ (by simp)

-- (*holdfast/keys.Tree).Reseal
set_option maxHeartbeats 4000000 in
theorem W18n0 (K : Nat) (w0 : World) (cw : Col) (hcw : ∀ b, cw b < 40) {tenant : List UInt8} {name : List UInt8} {sealed : List UInt8} {r : (List UInt8) × Bool × Int} (hp : keys_Tree_Reseal_nil0 K tenant name sealed = some r) {i : Nat} (hi : i ≤ 1) {v_ : Value} (o : Vw E5 i w0 cw v_ sealed) {gi0 : Nat} (hgi0 : gi0 ≤ 1) (og0 : Arr E76 gi0 w0 cw (.pointer (some ⟨0, 0, none⟩)) tab0) {gi7 : Nat} (hgi7 : gi7 ≤ 1) (og7 : Arr E5 gi7 w0 cw (.pointer (some ⟨7, 0, none⟩)) tab7) :
    Calls Tryz.prog 18 [.pointer none, vS tenant, vS name, v_].toArray w0 fun e w1 => ∃ (sl3 : Sl) (d : Col), e = .returned (.tuple #[sl3.val, vB r.2.1, vI r.2.2]) ∧ St [] w0 cw w1 d ∧ Ow E5 2000 w1 d sl3.val r.1 := by
  refine calls_intro Tryz.func18 rfl Tryz.ntmps18 rfl ?_
  unfold keys_Tree_Reseal_nil0 at hp
  refine WC.seq (WC.region ?_)
  refine WR.k rfl rfl rfl (OS.assign (v := (.slice none 0 0)) rfl rfl ?_)
  refine WR.k rfl rfl rfl (OS.assign (v := vB false) rfl rfl ?_)
  refine WR.k rfl rfl rfl (OS.assign (v := vI (0 : Int)) rfl rfl ?_)
  refine WR.nil ?_
  refine WC.seq (WC.region ?_)
  refine WR.k rfl rfl rfl (OS.move (v := .pointer none) rfl rfl ?_)
  refine WR.k rfl rfl rfl (OS.move (v := vS tenant) rfl rfl ?_)
  refine WR.k rfl rfl rfl (OS.move (v := vS name) rfl rfl ?_)
  refine WR.k rfl rfl rfl (OS.move (v := v_) rfl rfl ?_)
  obtain ⟨r_, hr_, hp⟩ := bind_some hp
  refine WR.k rfl rfl rfl (OS.callF (vs := [.pointer none, vS tenant, vS name, v_]) rfl ⟨rfl, rfl, rfl, rfl, trivial⟩ Tryz.call23 ((W23n0 (i := i) (gi0 := gi0) (gi7 := gi7) K w0 (rcc [] cw) (rcc_lt cw rfl) hr_ hi ((o).tr (rc_tr (rc_low hi rfl))) hgi0 (og0.tr (rc_tr (rc_low hgi0 rfl))) hgi7 (og7.tr (rc_tr (rc_low hgi7 rfl)))).mono ?_))
  rintro _ w_ ⟨sl, d1, rfl, s, o1⟩
  refine ⟨_, rfl, ?_⟩
  obtain ⟨c_, s1, o1⟩ : ∃ c_, St [] w0 cw w_ c_ ∧ Ow E5 12000 w_ c_ sl.val r_.1 := ⟨_, s.mg2 (sh := 10000) rfl, (o1.tr (mg2_back s rfl))⟩
  refine WR.k rfl rfl rfl (OS.move (v := .tuple #[sl.val, vI r_.2.1, vI r_.2.2]) rfl rfl ?_)
  refine WR.k rfl rfl rfl (OS.extract (v := sl.val) rfl rfl rfl ?_)
  refine WR.k rfl rfl rfl (OS.extract (v := vI r_.2.1) rfl rfl rfl ?_)
  refine WR.k rfl rfl rfl (OS.extract (v := vI r_.2.2) rfl rfl rfl ?_)
  refine WR.k rfl rfl rfl (OS.assign (v := sl.val) rfl rfl ?_)
  refine WR.k rfl rfl rfl (OS.assign (v := vI r_.2.1) rfl rfl ?_)
  refine WR.k rfl rfl rfl (OS.assign (v := vI r_.2.2) rfl rfl ?_)
  refine WR.nil ?_
  refine WC.seq ?_
  refine WC.seq (WC.region ?_)
  refine WR.k rfl rfl rfl (OS.move (v := vI r_.2.2) rfl rfl ?_)
  refine WR.k rfl rfl rfl (OS.bin (a := vI r_.2.2) (b := vI (0 : Int)) rfl rfl rfl bI_neq ?_)
  refine WR.nil ?_
  refine WC.cond (!decide (r_.2.2 = (0 : Int))) rfl (fun hb => ?_) (fun hb => ?_)
  · rw [if_pos hb] at hp
    refine WC.seq (WC.region ?_)
    refine WR.k rfl rfl rfl (OS.move (v := vI r_.2.2) rfl rfl ?_)
    refine WR.k rfl rfl rfl (OS.assign (v := (.slice none 0 0)) rfl rfl ?_)
    refine WR.k rfl rfl rfl (OS.assign (v := vB false) rfl rfl ?_)
    refine WR.k rfl rfl rfl (OS.assign (v := vI r_.2.2) rfl rfl ?_)
    refine WR.nil ?_
    refine WC.ret ?_
    repeat first | refine thenQ_ret ?_ | refine blkQ_ret ?_
    cases hp
    exact fnQ.ls (fn := Tryz.f18) (rs := [.tmp 8, .tmp 9, .tmp 10]) (vs := [(.slice none 0 0), vB false, vI r_.2.2]) rfl ⟨(.inl ⟨_, rfl, rfl⟩), (.inl ⟨_, rfl, rfl⟩), (.inl ⟨_, rfl, rfl⟩), trivial⟩ ⟨⟨none, 0, 0⟩, _, rfl, s1.leave hcw (by decide), Ow.nil⟩ (by simp)
  · rw [if_neg (nt hb)] at hp
    refine WC.skip ?_
    refine WC.seq ?_
    refine WC.seq (WC.region ?_)
    refine WR.k rfl rfl rfl (OS.move (v := .pointer none) rfl rfl ?_)
    refine WR.k rfl rfl rfl (OS.move (v := vS tenant) rfl rfl ?_)
    refine WR.k rfl rfl rfl (OS.move (v := vS name) rfl rfl ?_)
    obtain ⟨r_1, hr_1, hp⟩ := bind_some hp
    refine WR.k rfl rfl rfl (OS.callF (vs := [.pointer none, vS tenant, vS name]) rfl ⟨rfl, rfl, rfl, trivial⟩ Tryz.call13 ((W13n0 K w_ (rcc [] c_) (rcc_lt c_ rfl) hr_1).mono ?_))
    rintro _ w_1 ⟨d2, rfl, s2⟩
    refine ⟨_, rfl, ?_⟩
    obtain ⟨c_1, s3⟩ : ∃ c_1, St [] w_ c_ w_1 c_1 := ⟨_, s2.mg2 (sh := 20000) rfl⟩
    refine WR.k rfl rfl rfl (OS.move (v := .tuple #[vI r_1.1, vI r_1.2]) rfl rfl ?_)
    refine WR.k rfl rfl rfl (OS.extract (v := vI r_1.1) rfl rfl rfl ?_)
    refine WR.k rfl rfl rfl (OS.extract (v := vI r_1.2) rfl rfl rfl ?_)
    refine WR.k rfl rfl rfl (OS.assign (v := vI r_1.1) rfl rfl ?_)
    refine WR.k rfl rfl rfl (OS.assign (v := vI r_1.2) rfl rfl ?_)
    refine WR.nil ?_
    refine WC.seq (WC.region ?_)
    refine WR.k rfl rfl rfl (OS.move (v := vI r_1.1) rfl rfl ?_)
    refine WR.k rfl rfl rfl (OS.move (v := vI r_.2.1) rfl rfl ?_)
    refine WR.k rfl rfl rfl (OS.bin (a := vI r_1.1) (b := vI r_.2.1) rfl rfl rfl bI_eql ?_)
    refine WR.nil ?_
    refine WC.cond (decide (r_1.1 = r_.2.1)) rfl (fun hb1 => ?_) (fun hb1 => ?_)
    · rw [if_pos hb1] at hp
      refine WC.seq (WC.region ?_)
      refine WR.k rfl rfl rfl (OS.move (v := v_) rfl rfl ?_)
      have o2 := o.keep (s1.t s3) (nin hi (by decide))
      obtain ⟨r_2, hr_2, hp⟩ := bind_some hp
      refine WR.k rfl rfl rfl (OS.callF (vs := [v_]) rfl ⟨rfl, trivial⟩ Tryz.call38 ((W38 K w_1 hr_2 o2.forget).mono ?_))
      rintro _ w_2 ⟨v_1, d3, rfl, s4, o3⟩
      refine ⟨_, rfl, ?_⟩
      obtain ⟨c_2, s5, o3⟩ : ∃ c_2, St [] w_1 c_1 w_2 c_2 ∧ Ow E5 41 w_2 c_2 v_1 r_2 := ⟨_, s4.merge (fun x => x + 39), o3.merge (fun x => x + 39) s4 (by decide)⟩
      refine WR.k rfl rfl rfl (OS.assign (v := v_1) rfl rfl ?_)
      refine WR.k rfl rfl rfl (OS.assign (v := vB false) rfl rfl ?_)
      refine WR.k rfl rfl rfl (OS.assign (v := vI (0 : Int)) rfl rfl ?_)
      refine WR.nil ?_
      refine WC.ret ?_
      repeat first | refine thenQ_ret ?_ | refine blkQ_ret ?_
      obtain ⟨sl1, e1⟩ := isSlv o3.isSl; subst e1
      cases hp
      obtain ⟨c_3, s6, o4⟩ := o3.recol 2000
      exact fnQ.ls (fn := Tryz.f18) (rs := [.tmp 8, .tmp 9, .tmp 10]) (vs := [sl1.val, vB false, vI (0 : Int)]) rfl ⟨(.inl ⟨_, rfl, rfl⟩), (.inl ⟨_, rfl, rfl⟩), (.inl ⟨_, rfl, rfl⟩), trivial⟩ ⟨_, _, rfl, (((s1.t s3).t s5).t s6).leave hcw (by decide), o4⟩ (by simp)
    · rw [if_neg (nt hb1)] at hp
      refine WC.skip ?_
      refine WC.seq (WC.region ?_)
      refine WR.k rfl rfl rfl (OS.move (v := .pointer none) rfl rfl ?_)
      refine WR.k rfl rfl rfl (OS.move (v := vS tenant) rfl rfl ?_)
      refine WR.k rfl rfl rfl (OS.move (v := vS name) rfl rfl ?_)
      refine WR.k rfl rfl rfl (OS.move (v := sl.val) rfl rfl ?_)
      have o5 := o1.keep s3 (by decide)
      have og := og0.keep (s1.t s3) (nin hgi0 (by decide))
      have og1 := og7.keep (s1.t s3) (nin hgi7 (by decide))
      obtain ⟨r_3, hr_3, hp⟩ := bind_some hp
      refine WR.k rfl rfl rfl (OS.callF (vs := [.pointer none, vS tenant, vS name, sl.val]) rfl ⟨rfl, rfl, rfl, rfl, trivial⟩ Tryz.call17 ((W17n0 (i := 0) (gi0 := gi0) (gi7 := gi7) K w_1 (rcc [] c_1) (rcc_lt c_1 rfl) hr_3 (by decide) ((o5.vw).tr (rc_tr (by decide))) hgi0 (og.tr (rc_tr (rc_low hgi0 rfl))) hgi7 (og1.tr (rc_tr (rc_low hgi7 rfl)))).mono ?_))
      rintro _ w_3 ⟨sl2, d4, rfl, s7, o6⟩
      refine ⟨_, rfl, ?_⟩
      obtain ⟨c_4, s8, o6⟩ : ∃ c_4, St [] w_1 c_1 w_3 c_4 ∧ Ow E5 32000 w_3 c_4 sl2.val r_3.1 := ⟨_, s7.mg2 (sh := 30000) rfl, (o6.tr (mg2_back s7 rfl))⟩
      refine WR.k rfl rfl rfl (OS.move (v := .tuple #[sl2.val, vI r_3.2]) rfl rfl ?_)
      refine WR.k rfl rfl rfl (OS.extract (v := sl2.val) rfl rfl rfl ?_)
      refine WR.k rfl rfl rfl (OS.extract (v := vI r_3.2) rfl rfl rfl ?_)
      refine WR.k rfl rfl rfl (OS.assign (v := sl2.val) rfl rfl ?_)
      refine WR.k rfl rfl rfl (OS.assign (v := vI r_3.2) rfl rfl ?_)
      refine WR.nil ?_
      refine WC.seq (WC.region ?_)
      refine WR.k rfl rfl rfl (OS.move (v := sl2.val) rfl rfl ?_)
      refine WR.k rfl rfl rfl (OS.move (v := vI r_3.2) rfl rfl ?_)
      refine WR.k rfl rfl rfl (OS.bin (a := vI r_3.2) (b := vI (0 : Int)) rfl rfl rfl bI_eql ?_)
      refine WR.k rfl rfl rfl (OS.move (v := vI r_3.2) rfl rfl ?_)
      refine WR.k rfl rfl rfl (OS.assign (v := sl2.val) rfl rfl ?_)
      refine WR.k rfl rfl rfl (OS.assign (v := vB (decide (r_3.2 = (0 : Int)))) rfl rfl ?_)
      refine WR.k rfl rfl rfl (OS.assign (v := vI r_3.2) rfl rfl ?_)
      refine WR.nil ?_
      refine WC.ret ?_
      repeat first | refine thenQ_ret ?_ | refine blkQ_ret ?_
      cases hp
      obtain ⟨c_5, s9, o7⟩ := o6.recol 2000
      exact fnQ.ls (fn := Tryz.f18) (rs := [.tmp 8, .tmp 9, .tmp 10]) (vs := [sl2.val, vB (decide (r_3.2 = (0 : Int))), vI r_3.2]) rfl ⟨(.inl ⟨_, rfl, rfl⟩), (.inl ⟨_, rfl, rfl⟩), (.inl ⟨_, rfl, rfl⟩), trivial⟩ ⟨_, _, rfl, (((s1.t s3).t s8).t s9).leave hcw (by decide), o7⟩ (by simp)

-- holdfast/keys.New
set_option maxHeartbeats 4000000 in
theorem W9 (K : Nat) (w0 : World) (cw : Col) (hcw : ∀ b, cw b < 40) {root : List UInt8} {r : S_keys_Tree} (hp : keys_New K root = some r) (hl : root.length = 32) :
    Calls Tryz.prog 9 [.agg (fl E5 root).toArray].toArray w0 fun e w1 => ∃ (p_2 : Value) (b2 : Nat) (b3 : Nat) (d : Col), e = .returned (p_2) ∧ St [] w0 cw w1 d ∧ Bx 2000 w1 d p_2 (fa 32 r.root ++ [vI r.sealed, (.map (some b2)), (.map (some b3))]) ∧ Mp kv9 (VR.flat vv4) 2001 w1 d (.map (some b2)) r.gone ∧ Mp kv71 (VR.flat vv3) 2002 w1 d (.map (some b3)) r.at_ ∧ r.root.length = 32 := by
  refine calls_intro Tryz.func9 rfl Tryz.ntmps9 rfl ?_
  unfold keys_New at hp
  refine WC.seq (WC.region ?_)
  refine WR.k rfl rfl rfl (OS.boxArr (E := E5) (c := cw) 40 rfl rfl ?_); intro p_ w_ c_ o s
  refine WR.k rfl rfl rfl (OS.assign (v := .pointer none) rfl rfl ?_)
  refine WR.nil ?_
  refine WC.seq (WC.region ?_)
  refine WR.k rfl rfl rfl (OS.ldN rfl Tryz.isAgg23 Tryz.sizeOf23 rfl o.ldAll (by rw [fl_length, hl]; rfl) ?_)
  refine WR.k rfl rfl rfl (OS.makeMap (kv := kv9) (V := (VR.flat vv4)) (c := c_) 41 rfl ?_); intro v_ w_1 c_1 o1 s1
  obtain ⟨b, rfl⟩ := o1.isMap
  refine WR.k rfl rfl rfl (OS.makeMap (kv := kv71) (V := (VR.flat vv3)) (c := c_1) 42 rfl ?_); intro v_1 w_2 c_2 o2 s2
  obtain ⟨b1, rfl⟩ := o2.isMap
  refine WR.k rfl rfl rfl (OS.build (v := .agg ((fa 32 root ++ [vI (0 : Int), (.map (some b)), (.map (some b1))])).toArray) [(0, .agg (fa 32 root).toArray), (2, (.map (some b))), (3, (.map (some b1)))] rfl ⟨rfl, (arr_fa rfl hl), rfl, rfl, rfl, rfl, trivial⟩ (fun _ => by kernel_rfl) ?_)
  refine WR.k rfl rfl rfl (OS.boxBx (us := (fa 32 root ++ [vI (0 : Int), (.map (some b)), (.map (some b1))])) (c := c_2) 43 rfl rfl rfl ?_); intro p_1 w_3 c_3 o3 s3
  refine WR.k rfl rfl rfl (OS.assign (v := p_1) rfl rfl ?_)
  refine WR.nil ?_
  refine WC.ret ?_
  repeat first | refine thenQ_ret ?_ | refine blkQ_ret ?_
  cases hp
  obtain ⟨c_4, s4, o4⟩ := o3.recol 2000
  have o6 := o1.keep ((s2.t s3).t s4) (by decide) (by decide)
  obtain ⟨c_5, s5, o5⟩ := o6.recol 2001
  have o8 := o2.keep ((s3.t s4).t s5) (by decide) (by decide)
  obtain ⟨c_6, s6, o7⟩ := o8.recol 2002
  have o9 := o4.keep (s5.t s6) (by decide)
  have o10 := o5.keep s6 (by decide) (by decide)
  exact fnQ.l1 (fn := Tryz.f9) rfl (.inl ⟨_, rfl, rfl⟩) ⟨_, _, _, _, rfl, ((((((s.t s1).t s2).t s3).t s4).t s5).t s6).leave hcw (by decide), o9, o10, o7, hl⟩

-- strings.Count
theorem W133 (K : Nat) (w0 : World) (cw : Col) (hcw : ∀ b, cw b < 40) {s sub : List UInt8} {r : Int} (hp : strings_Count K s sub = some r) :
    Calls Tryz.prog 133 [vS s, vS sub].toArray w0 fun e w1 => ∃ (d : Col), e = .returned (vI r) ∧ St [] w0 cw w1 d := by
  unfold strings_Count at hp
  split at hp
  · rename_i x
    cases hp
    refine (Any.strings_Count_one Tryz.lays133 ⟨s.toArray⟩ x w0).mono ?_
    rintro e w1 ⟨he, hw⟩
    subst hw
    exact ⟨cw, he, St.refl⟩
  · cases hp

-- strings.Replace
set_option maxHeartbeats 4000000 in
theorem W112 (K : Nat) (w0 : World) (cw : Col) (hcw : ∀ b, cw b < 40) {s : List UInt8} {old : List UInt8} {new : List UInt8} {n1 : Int} {r : (List UInt8)} (hp : strings_Replace K s old new n1 = some r) :
    Calls Tryz.prog 112 [vS s, vS old, vS new, vI n1].toArray w0 fun e w1 => ∃ (d : Col), e = .returned (vS r) ∧ St [] w0 cw w1 d := by
  refine calls_intro Tryz.func112 rfl Tryz.ntmps112 rfl ?_
  unfold strings_Replace at hp
  refine WC.seq (WC.region ?_)
  refine WR.k rfl rfl rfl (OS.assign (v := vS ([] : List UInt8)) rfl rfl ?_)
  refine WR.nil ?_
  refine WC.seq ?_
  refine WC.seq (WC.region ?_)
  refine WR.k rfl rfl rfl (OS.move (v := vS old) rfl rfl ?_)
  refine WR.k rfl rfl rfl (OS.move (v := vS new) rfl rfl ?_)
  refine WR.k rfl rfl rfl (OS.bin (a := vS old) (b := vS new) rfl rfl rfl bS_eql ?_)
  refine WR.k rfl rfl rfl (OS.move (v := vB (decide (old = new))) rfl rfl ?_)
  refine WR.cut2 3 (fun f_ w_ => f_ 0 = vS s ∧ f_ 1 = vS old ∧ f_ 2 = vS new ∧ f_ 3 = vI n1 ∧ f_ 22 = vB ((decide (old = new)) || (decide (n1 = (0 : Int)))) ∧ w0 = w_) ?_ ?_
  · rcases Bool.eq_false_or_eq_true (decide (old = new)) with hg | hg
    · refine WR.gF rfl rfl (vb_t rfl hg) rfl rfl ?_
      refine WR.gF rfl rfl (vb_t rfl hg) rfl rfl ?_
      refine WR.k rfl rfl rfl (OS.pickT rfl (vb_t rfl hg) rfl ?_)
      refine WR.nil ?_
      exact ⟨rfl, rfl, rfl, rfl, (or_t hg), rfl⟩
    · refine WR.kT rfl rfl (vb_f rfl hg) rfl rfl (OS.move (v := vI n1) rfl rfl ?_)
      refine WR.kT rfl rfl (vb_f rfl hg) rfl rfl (OS.bin (a := vI n1) (b := vI (0 : Int)) rfl rfl rfl bI_eql ?_)
      refine WR.k rfl rfl rfl (OS.pickF rfl (vb_f rfl hg) rfl ?_)
      refine WR.nil ?_
      exact ⟨rfl, rfl, rfl, rfl, (or_f hg), rfl⟩
  · rintro f_ _ ⟨h, h1, h2, h3, h4, rfl⟩
    refine WR.nil ?_
    refine WC.cond ((decide (old = new)) || (decide (n1 = (0 : Int)))) h4 (fun hb => ?_) (fun hb => ?_)
    · rw [if_pos hb] at hp
      refine WC.seq (WC.region ?_)
      refine WR.k rfl rfl rfl (OS.move (v := vS s) rfl h ?_)
      refine WR.k rfl rfl rfl (OS.assign (v := vS s) rfl rfl ?_)
      refine WR.nil ?_
      refine WC.ret ?_
      repeat first | refine thenQ_ret ?_ | refine blkQ_ret ?_
      cases hp
      exact fnQ.l1 (fn := Tryz.f112) rfl (.inl ⟨_, rfl, rfl⟩) ⟨_, rfl, (St.refl.mono (by decide))⟩
    · rw [if_neg (nt hb)] at hp
      refine WC.skip ?_
      refine WC.seq ?_
      refine WC.seq (WC.region ?_)
      refine WR.k rfl rfl rfl (OS.move (v := vS s) rfl h ?_)
      refine WR.k rfl rfl rfl (OS.move (v := vS old) rfl h1 ?_)
      obtain ⟨r_, hr_, hp⟩ := bind_some hp
      refine WR.k rfl rfl rfl (OS.callF (vs := [vS s, vS old]) rfl ⟨rfl, rfl, trivial⟩ Tryz.call133 ((W133 K w0 (rcc [] cw) (rcc_lt cw rfl) hr_).mono ?_))
      rintro _ w_1 ⟨d1, rfl, s1⟩
      refine ⟨_, rfl, ?_⟩
      obtain ⟨c_1, s2⟩ : ∃ c_1, St [] w0 cw w_1 c_1 := ⟨_, s1.mg2 (sh := 10000) rfl⟩
      refine WR.k rfl rfl rfl (OS.assign (v := vI r_) rfl rfl ?_)
      refine WR.nil ?_
      refine WC.seq (WC.region ?_)
      refine WR.k rfl rfl rfl (OS.move (v := vI r_) rfl rfl ?_)
      refine WR.k rfl rfl rfl (OS.bin (a := vI r_) (b := vI (0 : Int)) rfl rfl rfl bI_eql ?_)
      refine WR.nil ?_
      refine WC.endJ (fun f_1 w_2 => ∃ (n2 : Int), strings_Replace.j1 K n2 = some r ∧ f_1 0 = vS s ∧ f_1 1 = vS old ∧ f_1 2 = vS new ∧ f_1 3 = vI n2 ∧ w_1 = w_2) ?_ ?_
      · refine WC.cond (decide (r_ = (0 : Int))) rfl (fun hb1 => ?_) (fun hb1 => ?_)
        · rw [if_pos hb1] at hp
          refine WC.seq (WC.region ?_)
          refine WR.k rfl rfl rfl (OS.move (v := vS s) rfl h ?_)
          refine WR.k rfl rfl rfl (OS.assign (v := vS s) rfl rfl ?_)
          refine WR.nil ?_
          refine WC.ret ?_
          repeat first | refine thenQ_ret ?_ | refine blkQ_ret ?_
          cases hp
          exact fnQ.l1 (fn := Tryz.f112) rfl (.inl ⟨_, rfl, rfl⟩) ⟨_, rfl, s2.leave hcw (by decide)⟩
        · rw [if_neg (nt hb1)] at hp
          refine WC.seq (WC.region ?_)
          refine WR.k rfl rfl rfl (OS.move (v := vI n1) rfl h3 ?_)
          refine WR.k rfl rfl rfl (OS.bin (a := vI n1) (b := vI (0 : Int)) rfl rfl rfl bI_lss ?_)
          refine WR.k rfl rfl rfl (OS.move (v := vB (decide (n1 < (0 : Int)))) rfl rfl ?_)
          refine WR.cut2 4 (fun f_2 w_3 => f_2 0 = vS s ∧ f_2 1 = vS old ∧ f_2 2 = vS new ∧ f_2 3 = vI n1 ∧ f_2 9 = vI r_ ∧ f_2 36 = vB ((decide (n1 < (0 : Int))) || (decide (r_ < n1))) ∧ w_1 = w_3) ?_ ?_
          · rcases Bool.eq_false_or_eq_true (decide (n1 < (0 : Int))) with hg1 | hg1
            · refine WR.gF rfl rfl (vb_t rfl hg1) rfl rfl ?_
              refine WR.gF rfl rfl (vb_t rfl hg1) rfl rfl ?_
              refine WR.gF rfl rfl (vb_t rfl hg1) rfl rfl ?_
              refine WR.k rfl rfl rfl (OS.pickT rfl (vb_t rfl hg1) rfl ?_)
              refine WR.nil ?_
              exact ⟨h, h1, h2, h3, rfl, (or_t hg1), rfl⟩
            · refine WR.kT rfl rfl (vb_f rfl hg1) rfl rfl (OS.move (v := vI r_) rfl rfl ?_)
              refine WR.kT rfl rfl (vb_f rfl hg1) rfl rfl (OS.move (v := vI n1) rfl h3 ?_)
              refine WR.kT rfl rfl (vb_f rfl hg1) rfl rfl (OS.bin (a := vI r_) (b := vI n1) rfl rfl rfl bI_lss ?_)
              refine WR.k rfl rfl rfl (OS.pickF rfl (vb_f rfl hg1) rfl ?_)
              refine WR.nil ?_
              exact ⟨h, h1, h2, h3, rfl, (or_f hg1), rfl⟩
          · rintro f_2 _ ⟨h5, h6, h7, h8, h9, h10, rfl⟩
            refine WR.nil ?_
            refine WC.cond ((decide (n1 < (0 : Int))) || (decide (r_ < n1))) h10 (fun hb2 => ?_) (fun hb2 => ?_)
            · rw [if_pos hb2] at hp
              refine WC.region ?_
              refine WR.k rfl rfl rfl (OS.move (v := vI r_) rfl h9 ?_)
              refine WR.k rfl rfl rfl (OS.assign (v := vI r_) rfl rfl ?_)
              refine WR.nil ?_
              exact ⟨_, hp, h5, h6, h7, rfl, rfl⟩
            · rw [if_neg (nt hb2)] at hp
              refine WC.skip ?_
              exact ⟨_, hp, h5, h6, h7, h8, rfl⟩
      · rintro f_1 _ ⟨n2, hp, h11, h12, h13, h14, rfl⟩
        unfold strings_Replace.j1 at hp
        cases hp

-- strings.ReplaceAll
set_option maxHeartbeats 4000000 in
theorem W85 (K : Nat) (w0 : World) (cw : Col) (hcw : ∀ b, cw b < 40) {s : List UInt8} {old : List UInt8} {new : List UInt8} {r : (List UInt8)} (hp : strings_ReplaceAll K s old new = some r) :
    Calls Tryz.prog 85 [vS s, vS old, vS new].toArray w0 fun e w1 => ∃ (d : Col), e = .returned (vS r) ∧ St [] w0 cw w1 d := by
  refine calls_intro Tryz.func85 rfl Tryz.ntmps85 rfl ?_
  unfold strings_ReplaceAll at hp
  refine WC.seq (WC.region ?_)
  refine WR.k rfl rfl rfl (OS.assign (v := vS ([] : List UInt8)) rfl rfl ?_)
  refine WR.nil ?_
  refine WC.seq (WC.region ?_)
  refine WR.k rfl rfl rfl (OS.move (v := vS s) rfl rfl ?_)
  refine WR.k rfl rfl rfl (OS.move (v := vS old) rfl rfl ?_)
  refine WR.k rfl rfl rfl (OS.move (v := vS new) rfl rfl ?_)
  obtain ⟨r_, hr_, hp⟩ := bind_some hp
  refine WR.k rfl rfl rfl (OS.callF (vs := [vS s, vS old, vS new, vI (-1 : Int)]) rfl ⟨rfl, rfl, rfl, rfl, trivial⟩ Tryz.call112 ((W112 K w0 (rcc [] cw) (rcc_lt cw rfl) hr_).mono ?_))
  rintro _ w_ ⟨d1, rfl, s1⟩
  refine ⟨_, rfl, ?_⟩
  obtain ⟨c_, s2⟩ : ∃ c_, St [] w0 cw w_ c_ := ⟨_, s1.mg2 (sh := 10000) rfl⟩
  refine WR.k rfl rfl rfl (OS.assign (v := vS r_) rfl rfl ?_)
  refine WR.nil ?_
  refine WC.ret ?_
  repeat first | refine thenQ_ret ?_ | refine blkQ_ret ?_
  cases hp
  exact fnQ.l1 (fn := Tryz.f85) rfl (.inl ⟨_, rfl, rfl⟩) ⟨_, rfl, s2.leave hcw (by decide)⟩

-- holdfast/codec.Key
set_option maxHeartbeats 4000000 in
theorem W58 (K : Nat) (w0 : World) (cw : Col) (hcw : ∀ b, cw b < 40) {parts : List (List UInt8)} {r : (List UInt8) × Int} (hp : codec_Key K parts = some r) {i : Nat} (hi : i ≤ 1) {v_ : Value} (o : Vw E9 i w0 cw v_ parts) :
    Calls Tryz.prog 58 [v_].toArray w0 fun e w1 => ∃ (sl1 : Sl) (d : Col), e = .returned (.tuple #[sl1.val, vI r.2]) ∧ St [] w0 cw w1 d ∧ Ow E5 2000 w1 d sl1.val r.1 := by
  refine calls_intro Tryz.func58 rfl Tryz.ntmps58 rfl ?_
  unfold codec_Key at hp
  refine WC.seq (WC.region ?_)
  refine WR.k rfl rfl rfl (OS.assign (v := (.slice none 0 0)) rfl rfl ?_)
  refine WR.k rfl rfl rfl (OS.assign (v := vI (0 : Int)) rfl rfl ?_)
  refine WR.nil ?_
  refine WC.seq ?_
  refine WC.seq (WC.region ?_)
  refine WR.k rfl rfl rfl (OS.move (v := v_) rfl rfl ?_)
  refine WR.k rfl rfl rfl (OS.lenSl rfl Tryz.runUnderlying64 rfl o.isSl ?_)
  refine WR.k rfl rfl rfl (OS.bin (a := vI (parts.length : Int)) (b := vI (1 : Int)) rfl rfl rfl bI_lss ?_)
  refine WR.k rfl rfl rfl (OS.move (v := vB (decide ((parts.length : Int) < (1 : Int)))) rfl rfl ?_)
  refine WR.cut2 4 (fun f_ w_ => f_ 0 = v_ ∧ f_ 14 = vB ((decide ((parts.length : Int) < (1 : Int))) || (decide ((8 : Int) < (parts.length : Int)))) ∧ w0 = w_) ?_ ?_
  · rcases Bool.eq_false_or_eq_true (decide ((parts.length : Int) < (1 : Int))) with hg | hg
    · refine WR.gF rfl rfl (vb_t rfl hg) rfl rfl ?_
      refine WR.gF rfl rfl (vb_t rfl hg) rfl rfl ?_
      refine WR.gF rfl rfl (vb_t rfl hg) rfl rfl ?_
      refine WR.k rfl rfl rfl (OS.pickT rfl (vb_t rfl hg) rfl ?_)
      refine WR.nil ?_
      exact ⟨rfl, (or_t hg), rfl⟩
    · refine WR.kT rfl rfl (vb_f rfl hg) rfl rfl (OS.move (v := v_) rfl rfl ?_)
      refine WR.kT rfl rfl (vb_f rfl hg) rfl rfl (OS.lenSl rfl Tryz.runUnderlying64 rfl o.isSl ?_)
      refine WR.kT rfl rfl (vb_f rfl hg) rfl rfl (OS.bin (a := vI (parts.length : Int)) (b := vI (8 : Int)) rfl rfl rfl bI_gtr ?_)
      refine WR.k rfl rfl rfl (OS.pickF rfl (vb_f rfl hg) rfl ?_)
      refine WR.nil ?_
      exact ⟨rfl, (or_f hg), rfl⟩
  · rintro f_ _ ⟨h, h1, rfl⟩
    refine WR.nil ?_
    refine WC.cond ((decide ((parts.length : Int) < (1 : Int))) || (decide ((8 : Int) < (parts.length : Int)))) h1 (fun hb => ?_) (fun hb => ?_)
    · rw [if_pos hb] at hp
      refine WC.seq (WC.region ?_)
      refine WR.k rfl rfl rfl (OS.assign (v := (.slice none 0 0)) rfl rfl ?_)
      refine WR.k rfl rfl rfl (OS.assign (v := vI (2 : Int)) rfl rfl ?_)
      refine WR.nil ?_
      refine WC.ret ?_
      repeat first | refine thenQ_ret ?_ | refine blkQ_ret ?_
      cases hp
      exact fnQ.ls (fn := Tryz.f58) (rs := [.tmp 2, .tmp 3]) (vs := [(.slice none 0 0), vI (2 : Int)]) rfl ⟨(.inl ⟨_, rfl, rfl⟩), (.inl ⟨_, rfl, rfl⟩), trivial⟩ ⟨⟨none, 0, 0⟩, _, rfl, (St.refl.mono (by decide)), Ow.nil⟩ (by simp)
    · rw [if_neg (nt hb)] at hp
      refine WC.skip ?_
      refine WC.seq (WC.region ?_)
      refine WR.k rfl rfl rfl (OS.assign (v := (.slice none 0 0)) rfl rfl ?_)
      refine WR.nil ?_
      refine WC.seq ?_
      refine WC.seq (WC.region ?_)
      refine WR.k rfl rfl rfl (OS.move (v := v_) rfl h ?_)
      refine WR.k rfl rfl rfl (OS.lenSl rfl Tryz.runUnderlying64 rfl o.isSl ?_)
      refine WR.k rfl rfl rfl (OS.move (v := vI (0 : Int)) rfl rfl ?_)
      refine WR.nil ?_
      obtain ⟨q, hl, hp⟩ := bind_some hp
      refine WC.blockJ2 (fun f_1 w_1 => ∃ (out1 : List UInt8) (v_2 : Value) (c_1 : Col), q = .go out1 ∧ f_1 4 = v_2 ∧ Ow E5 40 w_1 c_1 v_2 out1 ∧ St [40] w0 cw w_1 c_1) ?_ ?_
      · refine WC.loop (fun n => fun f_2 w_2 => ∃ (out : List UInt8) (x17 : Int) (v_1 : Value) (c_2 : Col), codec_Key.l1 K n parts out x17 = some q ∧ f_2 4 = v_1 ∧ f_2 15 = v_ ∧ f_2 16 = vI (parts.length : Int) ∧ f_2 17 = vI x17 ∧ Ow E5 40 w_2 c_2 v_1 out ∧ St [40] w0 cw w_2 c_2) K ⟨_, _, _, _, hl, rfl, rfl, rfl, rfl, Ow.nil, St.refl.mono (by decide)⟩ ?_
        rintro n f_2 w_2 ⟨out, x17, v_1, c_2, hl, h2, h3, h4, h5, o1, s⟩
        cases n with
        | zero => exact absurd hl (by simp [codec_Key.l1])
        | succ k =>
        rw [codec_Key.l1] at hl
        refine WC.seq (WC.region ?_)
        refine WR.k rfl rfl rfl (OS.bin (a := vI x17) (b := vI (parts.length : Int)) rfl h5 h4 bI_lss ?_)
        refine WR.nil ?_
        refine WC.seq ?_
        refine WC.cond (decide (x17 < (parts.length : Int))) rfl (fun hb1 => ?_) (fun hb1 => ?_)
        · rw [if_pos hb1] at hl
          refine WC.skip ?_
          refine WC.seq ?_
          refine WC.block ?_
          refine WC.seq (WC.region ?_)
          have o3 := o.keep s (nin hi (by decide))
          obtain ⟨e1, he1, hl⟩ := bind_some hl
          obtain ⟨ha, hb2, hc⟩ := gt_some he1
          refine WR.k rfl rfl rfl (OS.idx rfl Tryz.runUnderlying64 Tryz.sizeOf9 h3 o3.isSl h5 ha hb2 ?_); intro p_ a1
          refine WR.k rfl rfl rfl (OS.ld1 (u := vS e1) rfl Tryz.isAgg9 rfl (o3.ld a1 hc) ?_)
          refine WR.k rfl rfl rfl (OS.assign (v := vS e1) rfl rfl ?_)
          refine WR.nil ?_
          refine WC.seq ?_
          refine WC.seq (WC.region ?_)
          refine WR.k rfl rfl rfl (OS.move (v := vS e1) rfl rfl ?_)
          refine WR.k rfl rfl rfl (OS.lenS rfl Tryz.runUnderlying9 rfl ?_)
          refine WR.k rfl rfl rfl (OS.bin (a := vI (e1.length : Int)) (b := vI (64 : Int)) rfl rfl rfl bI_gtr ?_)
          refine WR.nil ?_
          refine WC.cond (decide ((64 : Int) < (e1.length : Int))) rfl (fun hb3 => ?_) (fun hb3 => ?_)
          · rw [if_pos hb3] at hl
            refine WC.seq (WC.region ?_)
            refine WR.k rfl rfl rfl (OS.assign (v := (.slice none 0 0)) rfl rfl ?_)
            refine WR.k rfl rfl rfl (OS.assign (v := vI (6 : Int)) rfl rfl ?_)
            refine WR.nil ?_
            refine WC.ret ?_
            repeat first | refine thenQ_ret ?_ | refine blkQ_ret ?_
            cases hl
            simp only [lrc] at hp
            cases hp
            exact fnQ.ls (fn := Tryz.f58) (rs := [.tmp 2, .tmp 3]) (vs := [(.slice none 0 0), vI (6 : Int)]) rfl ⟨(.inl ⟨_, rfl, rfl⟩), (.inl ⟨_, rfl, rfl⟩), trivial⟩ ⟨⟨none, 0, 0⟩, _, rfl, s.leave hcw (by decide), Ow.nil⟩ (by simp)
          · rw [if_neg (nt hb3)] at hl
            refine WC.skip ?_
            refine WC.seq (WC.region ?_)
            refine WR.k rfl rfl rfl (OS.move (v := v_1) rfl h2 ?_)
            refine WR.k rfl rfl rfl (OS.move (v := vS e1) rfl rfl ?_)
            obtain ⟨r_, hr_, hl⟩ := bind_some hl
            refine WR.k rfl rfl rfl (OS.callF (vs := [vS e1, vS ([0] : List UInt8), vS ([0, 255] : List UInt8)]) rfl ⟨rfl, rfl, rfl, trivial⟩ Tryz.call85 ((W85 K w_2 (rcc [] c_2) (rcc_lt c_2 rfl) hr_).mono ?_))
            rintro _ w_3 ⟨d1, rfl, s1⟩
            refine ⟨_, rfl, ?_⟩
            obtain ⟨c_3, s2⟩ : ∃ c_3, St [] w_2 c_2 w_3 c_3 := ⟨_, s1.mg2 (sh := 30000) rfl⟩
            have o4 := o1.keep s2 (by decide)
            obtain ⟨out2, hout2, hl⟩ := bind_some hl
            obtain ⟨ha1, hout2⟩ := app_some hout2
            refine WR.k rfl rfl rfl (OS.append (E := E5) (c := c_3) (i := 40) (xs := out) (ys := r_) rfl Tryz.underlying25 Tryz.underlying9 (.inr rfl) I5 rfl rfl rfl rfl rfl o4 (src_str _) (lim_bytes (by decide) ha1) (lim_max (b := 1) (by decide) ha1) ?_); intro v_3 w_4 c_4 o5 s3
            replace o5 : Ow E5 40 w_4 c_4 v_3 out2 := by rw [hout2]; exact o5
            refine WR.k rfl rfl rfl (OS.assign (v := v_3) rfl rfl ?_)
            refine WR.nil ?_
            refine WC.region ?_
            refine WR.k rfl rfl rfl (OS.move (v := v_3) rfl rfl ?_)
            obtain ⟨l1, hl1, hl⟩ := bind_some hl
            replace hl1 := (Option.some.inj hl1).symm
            refine WR.k rfl rfl rfl (OS.bslice (E := E5) (c := c_4) 46 ([(0 : UInt8), (1 : UInt8)] : List UInt8) [(0, vU8 (0 : UInt8)), (1, vU8 (1 : UInt8))] rfl ⟨rfl, (by kernel_rfl), rfl, (by kernel_rfl), trivial⟩ (fun _ => by kernel_rfl) rfl (by decide) ?_); intro v_4 w_5 c_5 o6 s4
            replace o6 : Ow E5 46 w_5 c_5 v_4 l1 := by rw [hl1]; exact o6
            have o7 := o5.keep s4 (by decide)
            obtain ⟨out3, hout3, hl⟩ := bind_some hl
            obtain ⟨ha2, hout3⟩ := app_some hout3
            refine WR.k rfl rfl rfl (OS.append (E := E5) (c := c_5) (i := 40) (xs := out2) (ys := l1) rfl Tryz.underlying25 Tryz.underlying25 (.inl rfl) I5 rfl rfl rfl rfl rfl o7 o6.vw.src (lim_bytes (by decide) ha2) (lim_max (b := 1) (by decide) ha2) ?_); intro v_5 w_6 c_6 o8 s5
            replace o8 : Ow E5 40 w_6 c_6 v_5 out3 := by rw [hout3]; exact o8
            refine WR.k rfl rfl rfl (OS.assign (v := v_5) rfl rfl ?_)
            refine WR.nil ?_
            refine WC.region ?_
            refine WR.k rfl rfl rfl (OS.bin (a := vI x17) (b := vI (1 : Int)) rfl h5 rfl bI_add ?_)
            refine WR.k rfl rfl rfl (OS.move (v := vI (W (x17 + (1 : Int)))) rfl rfl ?_)
            refine WR.nil ?_
            exact ⟨k, by omega, _, _, _, _, hl, rfl, h3, h4, rfl, o8, ((((s.t s2).t s3).t s4).t s5).mono (by decide)⟩
        · rw [if_neg (nt hb1)] at hl
          refine WC.exit ?_
          cases hl
          exact ⟨_, _, _, rfl, h2, o1, s.mono (by decide)⟩
      · rintro f_1 w_1 ⟨out1, v_2, c_1, rfl, h6, o2, s6⟩
        simp only [lrc] at hp
        refine WC.seq ?_
        refine WC.seq (WC.region ?_)
        refine WR.k rfl rfl rfl (OS.move (v := v_2) rfl h6 ?_)
        refine WR.k rfl rfl rfl (OS.lenSl rfl Tryz.runUnderlying25 rfl o2.isSl ?_)
        refine WR.k rfl rfl rfl (OS.bin (a := vI (out1.length : Int)) (b := vI (64 : Int)) rfl rfl rfl bI_gtr ?_)
        refine WR.nil ?_
        refine WC.cond (decide ((64 : Int) < (out1.length : Int))) rfl (fun hb4 => ?_) (fun hb4 => ?_)
        · rw [if_pos hb4] at hp
          refine WC.seq (WC.region ?_)
          refine WR.k rfl rfl rfl (OS.assign (v := (.slice none 0 0)) rfl rfl ?_)
          refine WR.k rfl rfl rfl (OS.assign (v := vI (6 : Int)) rfl rfl ?_)
          refine WR.nil ?_
          refine WC.ret ?_
          repeat first | refine thenQ_ret ?_ | refine blkQ_ret ?_
          cases hp
          exact fnQ.ls (fn := Tryz.f58) (rs := [.tmp 2, .tmp 3]) (vs := [(.slice none 0 0), vI (6 : Int)]) rfl ⟨(.inl ⟨_, rfl, rfl⟩), (.inl ⟨_, rfl, rfl⟩), trivial⟩ ⟨⟨none, 0, 0⟩, _, rfl, s6.leave hcw (by decide), Ow.nil⟩ (by simp)
        · rw [if_neg (nt hb4)] at hp
          refine WC.skip ?_
          refine WC.seq (WC.region ?_)
          refine WR.k rfl rfl rfl (OS.move (v := v_2) rfl h6 ?_)
          refine WR.k rfl rfl rfl (OS.assign (v := v_2) rfl rfl ?_)
          refine WR.k rfl rfl rfl (OS.assign (v := vI (0 : Int)) rfl rfl ?_)
          refine WR.nil ?_
          refine WC.ret ?_
          repeat first | refine thenQ_ret ?_ | refine blkQ_ret ?_
          obtain ⟨sl, e2⟩ := isSlv o2.isSl; subst e2
          cases hp
          obtain ⟨c_7, s7, o9⟩ := o2.recol 2000
          exact fnQ.ls (fn := Tryz.f58) (rs := [.tmp 2, .tmp 3]) (vs := [sl.val, vI (0 : Int)]) rfl ⟨(.inl ⟨_, rfl, rfl⟩), (.inl ⟨_, rfl, rfl⟩), trivial⟩ ⟨_, _, rfl, (s6.t s7).leave hcw (by decide), o9⟩ (by simp)

-- holdfast/hash.Derive
set_option maxHeartbeats 4000000 in
theorem W36 (K : Nat) (w0 : World) (cw : Col) (hcw : ∀ b, cw b < 40) {key : List UInt8} {labels : List (List UInt8)} {r : (List UInt8) × Int} (hp : hash_Derive K key labels = some r) (hl : key.length = 32) {i : Nat} (hi : i ≤ 1) {v_ : Value} (o : Vw E9 i w0 cw v_ labels) :
    Calls Tryz.prog 36 [.agg (fl E5 key).toArray, v_].toArray w0 fun e w1 => ∃ (d : Col), e = .returned (.tuple #[.agg (fl E5 r.1).toArray, vI r.2]) ∧ St [] w0 cw w1 d ∧ r.1.length = 32 := by
  refine calls_intro Tryz.func36 rfl Tryz.ntmps36 rfl ?_
  unfold hash_Derive at hp
  refine WC.seq (WC.region ?_)
  refine WR.k rfl rfl rfl (OS.boxArr (E := E5) (c := cw) 40 rfl rfl ?_); intro p_ w_ c_ o1 s
  refine WR.k rfl rfl rfl (OS.allocArr (E := E5) (xs := (List.replicate 32 (0 : UInt8))) (c := c_) 41 rfl Tryz.zeroValue23 (by kernel_rfl) ?_); intro p_1 w_1 c_1 o2 s1
  refine WR.k rfl rfl rfl (OS.assign (v := vI (0 : Int)) rfl rfl ?_)
  refine WR.nil ?_
  refine WC.seq (WC.region ?_)
  refine WR.k rfl rfl rfl (OS.move (v := v_) rfl rfl ?_)
  have o3 := o.keep (s.t s1) (nin hi (by decide))
  obtain ⟨r_, hr_, hp⟩ := bind_some hp
  refine WR.k rfl rfl rfl (OS.callF (vs := [v_]) rfl ⟨rfl, trivial⟩ Tryz.call58 ((W58 (i := i) K w_1 (rcc [] c_1) (rcc_lt c_1 rfl) hr_ hi ((o3).tr (rc_tr (rc_low hi rfl)))).mono ?_))
  rintro _ w_2 ⟨sl, d1, rfl, s2, o4⟩
  refine ⟨_, rfl, ?_⟩
  obtain ⟨c_2, s3, o4⟩ : ∃ c_2, St [] w_1 c_1 w_2 c_2 ∧ Ow E5 12000 w_2 c_2 sl.val r_.1 := ⟨_, s2.mg2 (sh := 10000) rfl, (o4.tr (mg2_back s2 rfl))⟩
  refine WR.k rfl rfl rfl (OS.move (v := .tuple #[sl.val, vI r_.2]) rfl rfl ?_)
  refine WR.k rfl rfl rfl (OS.extract (v := sl.val) rfl rfl rfl ?_)
  refine WR.k rfl rfl rfl (OS.extract (v := vI r_.2) rfl rfl rfl ?_)
  refine WR.k rfl rfl rfl (OS.assign (v := sl.val) rfl rfl ?_)
  refine WR.k rfl rfl rfl (OS.assign (v := vI r_.2) rfl rfl ?_)
  refine WR.nil ?_
  refine WC.seq ?_
  refine WC.seq (WC.region ?_)
  refine WR.k rfl rfl rfl (OS.move (v := vI r_.2) rfl rfl ?_)
  refine WR.k rfl rfl rfl (OS.bin (a := vI r_.2) (b := vI (0 : Int)) rfl rfl rfl bI_neq ?_)
  refine WR.nil ?_
  refine WC.cond (!decide (r_.2 = (0 : Int))) rfl (fun hb => ?_) (fun hb => ?_)
  · rw [if_pos hb] at hp
    refine WC.seq (WC.region ?_)
    obtain ⟨l1, hl1, hp⟩ := bind_some hp
    replace hl1 := (Option.some.inj hl1).symm
    have hl2 : l1.length = 32 := by rw [hl1]; rfl
    refine WR.k rfl rfl rfl (OS.build (v := .agg (fl E5 l1).toArray) [] rfl trivial (fun _ => by rw [hl1]; kernel_rfl) ?_)
    refine WR.k rfl rfl rfl (OS.move (v := vI r_.2) rfl rfl ?_)
    have o5 := o2.keep s3 (by decide)
    refine WR.k0 rfl rfl (OS.stArrAll rfl Tryz.sizeOf23 rfl rfl o5 (by rw [fl_length, hl2]; rfl) (Eq.trans (List.length_replicate (n := 32) (a := (0 : UInt8))) (Eq.symm hl2)) ?_); intro w_3 o6 s4
    have hl3 : l1.length = 32 := hl2
    refine WR.k rfl rfl rfl (OS.assign (v := vI r_.2) rfl rfl ?_)
    refine WR.nil ?_
    refine WC.ret ?_
    repeat first | refine thenQ_ret ?_ | refine blkQ_ret ?_
    cases hp
    exact fnQ.ls (fn := Tryz.f36) (rs := [.cell 4 23, .tmp 5]) (vs := [.agg (fl E5 l1).toArray, vI r_.2]) rfl ⟨(.inr ⟨_, _, _, _, rfl, ⟨_, rfl, Tryz.isAgg23, Tryz.sizeOf23, o6.ldAll, (by rw [fl_length, hl3]; rfl)⟩, rfl⟩), (.inl ⟨_, rfl, rfl⟩), trivial⟩ ⟨_, rfl, (((s.t s1).t s3).t s4).leave hcw (by decide), hl3⟩ (by simp)
  · rw [if_neg (nt hb)] at hp
    refine WC.skip ?_
    refine WC.seq (WC.region ?_)
    have o7 := o1.keep (s1.t s3) (by decide)
    refine WR.k rfl rfl rfl (OS.sliceAF (E := E5) (l := 0) (h := 32) rfl Tryz.underlying23 Tryz.sizeOf5 rfl o7 hl Bd.none Bd.none (by decide) (by decide) ?_); intro v_1 y z1 fu
    rw [List.drop_zero, List.take_of_length_le (by rw [hl]; decide)] at y
    replace z1 := z1 (by decide)
    replace fu := fu rfl
    refine WR.k rfl rfl rfl (OS.move (v := sl.val) rfl rfl ?_)
    obtain ⟨r_1, hr_1, hp⟩ := bind_some hp
    refine WR.k rfl rfl rfl (OS.callF (vs := [v_1, sl.val]) rfl ⟨rfl, rfl, trivial⟩ Tryz.call59 ((W59 K w_2 hr_1 y.forget o4.vw.forget).mono ?_))
    rintro _ w_4 ⟨d2, rfl, s5, hl4⟩
    refine ⟨_, rfl, ?_⟩
    obtain ⟨c_3, s6⟩ : ∃ c_3, St [] w_2 c_2 w_4 c_3 := ⟨_, s5.merge (fun x => x + 41)⟩
    have o8 := o2.keep (s3.t s6) (by decide)
    refine WR.k0 rfl rfl (OS.stArrAll rfl Tryz.sizeOf23 rfl rfl o8 (by rw [fl_length, hl4]; rfl) (Eq.trans (List.length_replicate (n := 32) (a := (0 : UInt8))) (Eq.symm hl4)) ?_); intro w_5 o9 s7
    have hl5 : r_1.length = 32 := hl4
    refine WR.k rfl rfl rfl (OS.assign (v := vI (0 : Int)) rfl rfl ?_)
    refine WR.nil ?_
    refine WC.ret ?_
    repeat first | refine thenQ_ret ?_ | refine blkQ_ret ?_
    cases hp
    exact fnQ.ls (fn := Tryz.f36) (rs := [.cell 4 23, .tmp 5]) (vs := [.agg (fl E5 r_1).toArray, vI (0 : Int)]) rfl ⟨(.inr ⟨_, _, _, _, rfl, ⟨_, rfl, Tryz.isAgg23, Tryz.sizeOf23, o9.ldAll, (by rw [fl_length, hl5]; rfl)⟩, rfl⟩), (.inl ⟨_, rfl, rfl⟩), trivial⟩ ⟨_, rfl, ((((s.t s1).t s3).t s6).t s7).leave hcw (by decide), hl5⟩ (by simp)

-- (*holdfast/keys.Tree).Key
set_option maxHeartbeats 4000000 in
theorem W14 (K : Nat) (w0 : World) (cw : Col) (hcw : ∀ b, cw b < 40) {t : S_keys_Tree} {tenant : List UInt8} {name : List UInt8} {version : Int} {r : (List UInt8) × Int} (hp : keys_Tree_Key K t tenant name version = some r) {b : Nat} {b1 : Nat} {p_ : Value} (o : Bx 3 w0 cw p_ (fa 32 t.root ++ [vI t.sealed, (.map (some b)), (.map (some b1))])) (hl : t.root.length = 32) (o1 : Mp kv9 (VR.flat vv4) 4 w0 cw (.map (some b)) t.gone) (o2 : Mp kv71 (VR.flat vv3) 5 w0 cw (.map (some b1)) t.at_) {gi0 : Nat} (hgi0 : gi0 ≤ 1) (og0 : Arr E76 gi0 w0 cw (.pointer (some ⟨0, 0, none⟩)) tab0) {gi7 : Nat} (hgi7 : gi7 ≤ 1) (og7 : Arr E5 gi7 w0 cw (.pointer (some ⟨7, 0, none⟩)) tab7) :
    Calls Tryz.prog 14 [p_, vS tenant, vS name, vI version].toArray w0 fun e w1 => ∃ (d : Col), e = .returned (.tuple #[.agg (fl E5 r.1).toArray, vI r.2]) ∧ St [] w0 cw w1 d ∧ r.1.length = 32 := by
  refine calls_intro Tryz.func14 rfl Tryz.ntmps14 rfl ?_
  unfold keys_Tree_Key at hp
  refine WC.seq (WC.region ?_)
  refine WR.k rfl rfl rfl (OS.allocArr (E := E5) (xs := (List.replicate 32 (0 : UInt8))) (c := cw) 40 rfl Tryz.zeroValue23 (by kernel_rfl) ?_); intro p_1 w_ c_ o3 s
  refine WR.k rfl rfl rfl (OS.assign (v := vI (0 : Int)) rfl rfl ?_)
  refine WR.nil ?_
  refine WC.seq (WC.region ?_)
  refine WR.k rfl rfl rfl (OS.move (v := p_) rfl rfl ?_)
  refine WR.k rfl rfl rfl (OS.move (v := vS tenant) rfl rfl ?_)
  refine WR.k rfl rfl rfl (OS.move (v := vS name) rfl rfl ?_)
  have o4 := o.keep s (by decide)
  have o5 := o1.keep s (by decide) (by decide)
  have o6 := o2.keep s (by decide) (by decide)
  obtain ⟨r_, hr_, hp⟩ := bind_some hp
  refine WR.k rfl rfl rfl (OS.callF (vs := [p_, vS tenant, vS name]) rfl ⟨rfl, rfl, rfl, trivial⟩ Tryz.call13 ((W13 K w_ (rcc [3, 4, 5] c_) (rcc_lt c_ rfl) hr_ (o4.tr (rc_tr (by decide))) hl (o5.tr (rc_tr (by decide))) (o6.tr (rc_tr (by decide)))).mono ?_))
  rintro _ w_1 ⟨d1, rfl, s1⟩
  refine ⟨_, rfl, ?_⟩
  obtain ⟨c_1, s2⟩ : ∃ c_1, St [] w_ c_ w_1 c_1 := ⟨_, s1.mg2 (sh := 10000) rfl⟩
  refine WR.k rfl rfl rfl (OS.move (v := .tuple #[vI r_.1, vI r_.2]) rfl rfl ?_)
  refine WR.k rfl rfl rfl (OS.extract (v := vI r_.1) rfl rfl rfl ?_)
  refine WR.k rfl rfl rfl (OS.extract (v := vI r_.2) rfl rfl rfl ?_)
  refine WR.k rfl rfl rfl (OS.assign (v := vI r_.1) rfl rfl ?_)
  refine WR.k rfl rfl rfl (OS.assign (v := vI r_.2) rfl rfl ?_)
  refine WR.nil ?_
  refine WC.seq ?_
  refine WC.block ?_
  refine WC.seq (WC.region ?_)
  refine WR.k rfl rfl rfl (OS.move (v := vI r_.2) rfl rfl ?_)
  refine WR.k rfl rfl rfl (OS.bin (a := vI r_.2) (b := vI (0 : Int)) rfl rfl rfl bI_neq ?_)
  refine WR.k rfl rfl rfl (OS.assign (v := vB (!decide (r_.2 = (0 : Int)))) rfl rfl ?_)
  refine WR.nil ?_
  refine WC.cond (!decide (r_.2 = (0 : Int))) rfl (fun hb => ?_) (fun hb => ?_)
  · rw [if_pos hb] at hp
    refine WC.seq (WC.region ?_)
    obtain ⟨l1, hl1, hp⟩ := bind_some hp
    replace hl1 := (Option.some.inj hl1).symm
    have hl2 : l1.length = 32 := by rw [hl1]; rfl
    refine WR.k rfl rfl rfl (OS.build (v := .agg (fl E5 l1).toArray) [] rfl trivial (fun _ => by rw [hl1]; kernel_rfl) ?_)
    refine WR.k rfl rfl rfl (OS.move (v := vI r_.2) rfl rfl ?_)
    have o7 := o3.keep s2 (by decide)
    refine WR.k0 rfl rfl (OS.stArrAll rfl Tryz.sizeOf23 rfl rfl o7 (by rw [fl_length, hl2]; rfl) (Eq.trans (List.length_replicate (n := 32) (a := (0 : UInt8))) (Eq.symm hl2)) ?_); intro w_2 o8 s3
    have hl3 : l1.length = 32 := hl2
    refine WR.k rfl rfl rfl (OS.assign (v := vI r_.2) rfl rfl ?_)
    refine WR.nil ?_
    refine WC.ret ?_
    repeat first | refine thenQ_ret ?_ | refine blkQ_ret ?_
    cases hp
    exact fnQ.ls (fn := Tryz.f14) (rs := [.cell 8 23, .tmp 9]) (vs := [.agg (fl E5 l1).toArray, vI r_.2]) rfl ⟨(.inr ⟨_, _, _, _, rfl, ⟨_, rfl, Tryz.isAgg23, Tryz.sizeOf23, o8.ldAll, (by rw [fl_length, hl3]; rfl)⟩, rfl⟩), (.inl ⟨_, rfl, rfl⟩), trivial⟩ ⟨_, rfl, ((s.t s2).t s3).leave hcw (by decide), hl3⟩ (by simp)
  · rw [if_neg (nt hb)] at hp
    refine WC.seq (WC.region ?_)
    refine WR.k rfl rfl rfl (OS.move (v := vI version) rfl rfl ?_)
    refine WR.k rfl rfl rfl (OS.bin (a := vI version) (b := vI (1 : Int)) rfl rfl rfl bI_lss ?_)
    refine WR.k rfl rfl rfl (OS.move (v := vB (decide (version < (1 : Int)))) rfl rfl ?_)
    refine WR.cut2 4 (fun f_ w_3 => f_ 0 = p_ ∧ f_ 1 = vS tenant ∧ f_ 2 = vS name ∧ f_ 3 = vI version ∧ f_ 8 = p_1 ∧ f_ 33 = vB ((decide (version < (1 : Int))) || (decide (r_.1 < version))) ∧ w_1 = w_3) ?_ ?_
    · rcases Bool.eq_false_or_eq_true (decide (version < (1 : Int))) with hg | hg
      · refine WR.gF rfl rfl (vb_t rfl hg) rfl rfl ?_
        refine WR.gF rfl rfl (vb_t rfl hg) rfl rfl ?_
        refine WR.gF rfl rfl (vb_t rfl hg) rfl rfl ?_
        refine WR.k rfl rfl rfl (OS.pickT rfl (vb_t rfl hg) rfl ?_)
        refine WR.nil ?_
        exact ⟨rfl, rfl, rfl, rfl, rfl, (or_t hg), rfl⟩
      · refine WR.kT rfl rfl (vb_f rfl hg) rfl rfl (OS.move (v := vI version) rfl rfl ?_)
        refine WR.kT rfl rfl (vb_f rfl hg) rfl rfl (OS.move (v := vI r_.1) rfl rfl ?_)
        refine WR.kT rfl rfl (vb_f rfl hg) rfl rfl (OS.bin (a := vI version) (b := vI r_.1) rfl rfl rfl bI_gtr ?_)
        refine WR.k rfl rfl rfl (OS.pickF rfl (vb_f rfl hg) rfl ?_)
        refine WR.nil ?_
        exact ⟨rfl, rfl, rfl, rfl, rfl, (or_f hg), rfl⟩
    · rintro f_ _ ⟨h, h1, h2, h3, h4, h5, rfl⟩
      refine WR.k rfl rfl rfl (OS.assign (v := vB ((decide (version < (1 : Int))) || (decide (r_.1 < version)))) rfl h5 ?_)
      refine WR.nil ?_
      refine WC.cond ((decide (version < (1 : Int))) || (decide (r_.1 < version))) rfl (fun hb1 => ?_) (fun hb1 => ?_)
      · rw [if_pos hb1] at hp
        refine WC.seq (WC.region ?_)
        obtain ⟨l4, hl4, hp⟩ := bind_some hp
        replace hl4 := (Option.some.inj hl4).symm
        have hl5 : l4.length = 32 := by rw [hl4]; rfl
        refine WR.k rfl rfl rfl (OS.build (v := .agg (fl E5 l4).toArray) [] rfl trivial (fun _ => by rw [hl4]; kernel_rfl) ?_)
        have o9 := o3.keep s2 (by decide)
        refine WR.k0 rfl rfl (OS.stArrAll rfl Tryz.sizeOf23 h4 rfl o9 (by rw [fl_length, hl5]; rfl) (Eq.trans (List.length_replicate (n := 32) (a := (0 : UInt8))) (Eq.symm hl5)) ?_); intro w_4 o10 s4
        have hl6 : l4.length = 32 := hl5
        refine WR.k rfl rfl rfl (OS.assign (v := vI (2 : Int)) rfl rfl ?_)
        refine WR.nil ?_
        refine WC.ret ?_
        repeat first | refine thenQ_ret ?_ | refine blkQ_ret ?_
        cases hp
        exact fnQ.ls (fn := Tryz.f14) (rs := [.cell 8 23, .tmp 9]) (vs := [.agg (fl E5 l4).toArray, vI (2 : Int)]) rfl ⟨(.inr ⟨_, _, _, _, rfl, ⟨_, h4, Tryz.isAgg23, Tryz.sizeOf23, o10.ldAll, (by rw [fl_length, hl6]; rfl)⟩, rfl⟩), (.inl ⟨_, rfl, rfl⟩), trivial⟩ ⟨_, rfl, ((s.t s2).t s4).leave hcw (by decide), hl6⟩ (by simp)
      · rw [if_neg (nt hb1)] at hp
        refine WC.skip ?_
        refine WC.seq (WC.region ?_)
        refine WR.k rfl rfl rfl (OS.move (v := vI version) rfl h3 ?_)
        have og := og0.keep (s.t s2) (nin hgi0 (by decide))
        have og1 := og7.keep (s.t s2) (nin hgi7 (by decide))
        obtain ⟨r_1, hr_1, hp⟩ := bind_some hp
        refine WR.k rfl rfl rfl (OS.callF (vs := [vI version]) rfl ⟨rfl, trivial⟩ Tryz.call35 ((W35 (gi0 := gi0) (gi7 := gi7) K w_1 (rcc [] c_1) (rcc_lt c_1 rfl) hr_1 hgi0 (og.tr (rc_tr (rc_low hgi0 rfl))) hgi7 (og1.tr (rc_tr (rc_low hgi7 rfl)))).mono ?_))
        rintro _ w_5 ⟨d2, rfl, s5⟩
        refine ⟨_, rfl, ?_⟩
        obtain ⟨c_3, s6⟩ : ∃ c_3, St [] w_1 c_1 w_5 c_3 := ⟨_, s5.mg2 (sh := 20000) rfl⟩
        refine WR.k rfl rfl rfl (OS.move (v := .tuple #[vS r_1.1, vI r_1.2]) rfl rfl ?_)
        refine WR.k rfl rfl rfl (OS.extract (v := vS r_1.1) rfl rfl rfl ?_)
        refine WR.k rfl rfl rfl (OS.extract (v := vI r_1.2) rfl rfl rfl ?_)
        refine WR.k rfl rfl rfl (OS.assign (v := vS r_1.1) rfl rfl ?_)
        refine WR.k rfl rfl rfl (OS.assign (v := vI r_1.2) rfl rfl ?_)
        refine WR.nil ?_
        refine WC.seq (WC.region ?_)
        refine WR.k rfl rfl rfl (OS.move (v := p_) rfl h ?_)
        have o11 := o4.keep (s2.t s6) (by decide)
        refine WR.k rfl rfl rfl (OS.nilCheckBx rfl rfl o11 ?_)
        refine WR.k rfl rfl rfl (OS.fieldAddrBx rfl Tryz.runUnderlying63 rfl Tryz.sizeOf23 rfl rfl o11 ?_); intro p_2 a1
        refine WR.k rfl rfl rfl (OS.ldN (us := fl E5 t.root) rfl Tryz.isAgg23 Tryz.sizeOf23 rfl (ld_fa hl (o11.ldn a1 (sub_of rfl))) (len_fl8 hl) ?_)
        refine WR.k rfl rfl rfl (OS.move (v := vS tenant) rfl h1 ?_)
        refine WR.k rfl rfl rfl (OS.move (v := vS name) rfl h2 ?_)
        refine WR.k rfl rfl rfl (OS.move (v := vS r_1.1) rfl rfl ?_)
        obtain ⟨l7, hl7, hp⟩ := bind_some hp
        replace hl7 := (Option.some.inj hl7).symm
        refine WR.k rfl rfl rfl (OS.bslice (E := E9) (c := c_3) 41 ([tenant, name, r_1.1] : List (List UInt8)) [(0, vS tenant), (1, vS name), (2, vS r_1.1)] rfl ⟨rfl, rfl, rfl, rfl, rfl, rfl, trivial⟩ (fun _ => by kernel_rfl) rfl (by decide) ?_); intro v_ w_6 c_4 o12 s7
        replace o12 : Ow E9 41 w_6 c_4 v_ l7 := by rw [hl7]; exact o12
        obtain ⟨r_2, hr_2, hp⟩ := bind_some hp
        refine WR.k rfl rfl rfl (OS.callF (vs := [.agg (fl E5 t.root).toArray, v_]) rfl ⟨rfl, rfl, trivial⟩ Tryz.call36 ((W36 (i := 0) K w_6 (rcc [] c_4) (rcc_lt c_4 rfl) hr_2 hl (by decide) ((o12.vw).tr (rc_tr (by decide)))).mono ?_))
        rintro _ w_7 ⟨d3, rfl, s8, hl8⟩
        refine ⟨_, rfl, ?_⟩
        obtain ⟨c_5, s9⟩ : ∃ c_5, St [] w_6 c_4 w_7 c_5 := ⟨_, s8.mg2 (sh := 30000) rfl⟩
        refine WR.k rfl rfl rfl (OS.extract (v := .agg (fl E5 r_2.1).toArray) rfl rfl rfl ?_)
        refine WR.k rfl rfl rfl (OS.extract (v := vI r_2.2) rfl rfl rfl ?_)
        have o13 := o3.keep (((s2.t s6).t s7).t s9) (by decide)
        refine WR.k0 rfl rfl (OS.stArrAll rfl Tryz.sizeOf23 h4 rfl o13 (by rw [fl_length, hl8]; rfl) (Eq.trans (List.length_replicate (n := 32) (a := (0 : UInt8))) (Eq.symm hl8)) ?_); intro w_8 o14 s10
        have hl9 : r_2.1.length = 32 := hl8
        refine WR.k rfl rfl rfl (OS.assign (v := vI r_2.2) rfl rfl ?_)
        refine WR.nil ?_
        refine WC.ret ?_
        repeat first | refine thenQ_ret ?_ | refine blkQ_ret ?_
        cases hp
        exact fnQ.ls (fn := Tryz.f14) (rs := [.cell 8 23, .tmp 9]) (vs := [.agg (fl E5 r_2.1).toArray, vI r_2.2]) rfl ⟨(.inr ⟨_, _, _, _, rfl, ⟨_, h4, Tryz.isAgg23, Tryz.sizeOf23, o14.ldAll, (by rw [fl_length, hl9]; rfl)⟩, rfl⟩), (.inl ⟨_, rfl, rfl⟩), trivial⟩ ⟨_, rfl, (((((s.t s2).t s6).t s7).t s9).t s10).leave hcw (by decide), hl9⟩ (by simp)

-- holdfast/seal.Seal
set_option maxHeartbeats 4000000 in
theorem W37 (K : Nat) (w0 : World) {key : List UInt8} {once : UInt64} {plain : List UInt8} {r : (List UInt8) × Int} (hp : seal_Seal K key once plain = some r) (hl : key.length = 32) {v_ : Value} (o : Vw E5 0 w0 c0 v_ plain) :
    Calls Tryz.prog 37 [.agg (fl E5 key).toArray, vU64 once, v_].toArray w0 fun e w1 => ∃ (v0 : Value) (d : Col), e = .returned (.tuple #[v0, vI r.2]) ∧ St [] w0 c0 w1 d ∧ Ow E5 2 w1 d v0 r.1 := by
  refine calls_intro Tryz.func37 rfl Tryz.ntmps37 rfl ?_
  unfold seal_Seal at hp
  refine WC.seq (WC.region ?_)
  refine WR.k rfl rfl rfl (OS.boxArr (E := E5) (c := c0) 12 rfl rfl ?_); intro p_ w_ c_ o1 s
  refine WR.k rfl rfl rfl (OS.assign (v := (.slice none 0 0)) rfl rfl ?_)
  refine WR.k rfl rfl rfl (OS.assign (v := vI (0 : Int)) rfl rfl ?_)
  refine WR.nil ?_
  refine WC.seq ?_
  refine WC.seq (WC.region ?_)
  refine WR.k rfl rfl rfl (OS.move (v := v_) rfl rfl ?_)
  have o2 := o.keep s (by decide)
  refine WR.k rfl rfl rfl (OS.lenSl rfl Tryz.runUnderlying25 rfl o2.isSl ?_)
  refine WR.k rfl rfl rfl (OS.bin (a := vI (plain.length : Int)) (b := vI (1024 : Int)) rfl rfl rfl bI_gtr ?_)
  refine WR.nil ?_
  refine WC.cond (decide ((1024 : Int) < (plain.length : Int))) rfl (fun hb => ?_) (fun hb => ?_)
  · rw [if_pos hb] at hp
    refine WC.seq (WC.region ?_)
    refine WR.k rfl rfl rfl (OS.assign (v := (.slice none 0 0)) rfl rfl ?_)
    refine WR.k rfl rfl rfl (OS.assign (v := vI (6 : Int)) rfl rfl ?_)
    refine WR.nil ?_
    refine WC.ret ?_
    repeat first | refine thenQ_ret ?_ | refine blkQ_ret ?_
    cases hp
    exact fnQ.ls (fn := Tryz.f37) (rs := [.tmp 6, .tmp 7]) (vs := [(.slice none 0 0), vI (6 : Int)]) rfl ⟨(.inl ⟨_, rfl, rfl⟩), (.inl ⟨_, rfl, rfl⟩), trivial⟩ ⟨_, _, rfl, s.entry (by decide), Ow.nil⟩ (by simp)
  · rw [if_neg (nt hb)] at hp
    refine WC.skip ?_
    obtain ⟨r_, hr_, hp⟩ := bind_some hp
    refine WC.seq (WC.draw (c := c_) ⟨5, [[1], [14], [1], [1], [1]], [[], [], [], [], []], [], [[], [0], [], [], []], [1, 2, 3, 4]⟩ [fun v w c => v = vU64 once, fun v w c => Ow E5 14 w c v r_, fun v w c => v = .agg (fl E5 key).toArray, fun v w c => v = vU64 once, fun v w c => v = v_] hmix (by kernel_rfl) (by kernel_rfl) ⟨?_, ?_, ?_, ?_, ?_, trivial⟩ ⟨fun _ _ _ _ _ _ h _ _ => h, fun _ _ _ _ _ _ h s hk => Ow.keep h s (hk _ (by simp)), fun _ _ _ _ _ _ h _ _ => h, fun _ _ _ _ _ _ h _ _ => h, fun _ _ _ _ _ _ h _ _ => h, trivial⟩ ?_)
    · rintro f_ w_1 c_1 hB hs1 ⟨-⟩ o ho; obtain rfl : _ = o := Option.some.inj ho
      exact OS.move (v := vU64 once) rfl ((hB 1 (by kernel_rfl)).trans rfl) ⟨_, St.refl, rfl⟩
    · rintro f_1 w_2 c_2 hB1 hs2 ⟨g, -⟩ o ho; obtain rfl : _ = o := Option.some.inj ho
      replace g : (f_1 13) = vU64 once := g
      refine OS.callF (vs := [vU64 once]) rfl ⟨g, trivial⟩ Tryz.call60 ((W60 K w_2 hr_).mono ?_)
      rintro _ w ⟨v, d, rfl, s, o⟩
      exact ⟨_, rfl, _, s.merge (fun x => x + 12), o.merge (fun x => x + 12) s (by decide)⟩
    · rintro f_2 w_3 c_3 hB2 hs3 ⟨-⟩ o ho; obtain rfl : _ = o := Option.some.inj ho
      have o3 := o1.keep hs3 (by decide)
      exact OS.ldN rfl Tryz.isAgg23 Tryz.sizeOf23 ((hB2 3 (by kernel_rfl)).trans rfl) o3.ldAll (by rw [fl_length, hl]; rfl) ⟨_, St.refl, rfl⟩
    · rintro f_3 w_4 c_4 hB3 hs4 ⟨-⟩ o ho; obtain rfl : _ = o := Option.some.inj ho
      exact OS.move (v := vU64 once) rfl ((hB3 1 (by kernel_rfl)).trans rfl) ⟨_, St.refl, rfl⟩
    · rintro f_4 w_5 c_5 hB4 hs5 ⟨-⟩ o ho; obtain rfl : _ = o := Option.some.inj ho
      exact OS.move (v := v_) rfl ((hB4 2 (by kernel_rfl)).trans rfl) ⟨_, St.refl, rfl⟩
    · rintro f_5 w_6 c_6 hB5 hs6 ⟨g1, g2, g3, g4, -⟩
      have h := (hB5 3 (by kernel_rfl)).trans (show _ = p_ from rfl)
      replace g1 : Ow E5 14 w_6 c_6 (f_5 14) r_ := g1
      replace g2 : (f_5 15) = .agg (fl E5 key).toArray := g2
      replace g3 : (f_5 16) = vU64 once := g3
      replace g4 : (f_5 17) = v_ := g4
      have o4 := o2.keep hs6 (by decide)
      obtain ⟨r_1, hr_1, hp⟩ := bind_some hp
      refine WR.k rfl rfl rfl (OS.callF (vs := [.agg (fl E5 key).toArray, vU64 once, v_]) rfl ⟨g2, g3, g4, trivial⟩ Tryz.call61 ((W61 K w_6 hr_1 hl o4.forget).mono ?_))
      rintro _ w_7 ⟨v_1, d, rfl, s1, o5⟩
      refine ⟨_, rfl, ?_⟩
      obtain ⟨c_7, s2, o5⟩ : ∃ c_7, St [] w_6 c_6 w_7 c_7 ∧ Ow E5 18 w_7 c_7 v_1 r_1 := ⟨_, s1.merge (fun x => x + 16), o5.merge (fun x => x + 16) s1 (by decide)⟩
      have g5 := g1.keep s2 (by decide)
      obtain ⟨r_2, hr_2, hp⟩ := bind_some hp
      obtain ⟨ha, hr_2⟩ := app_some hr_2
      refine WR.k rfl rfl rfl (OS.append (E := E5) (c := c_7) (i := 14) (xs := r_) (ys := r_1) rfl Tryz.underlying25 Tryz.underlying25 (.inl rfl) I5 rfl rfl rfl rfl rfl g5 o5.vw.src (lim_bytes (by decide) ha) (lim_max (b := 1) (by decide) ha) ?_); intro v_2 w_8 c_8 o6 s3
      replace o6 : Ow E5 14 w_8 c_8 v_2 r_2 := by rw [hr_2]; exact o6
      refine WR.k rfl rfl rfl (OS.assign (v := v_2) rfl rfl ?_)
      refine WR.nil ?_
      refine WC.seq (WC.region ?_)
      have o7 := o1.keep ((hs6.t s2).t s3) (by decide)
      refine WR.k rfl rfl rfl (OS.ldN rfl Tryz.isAgg23 Tryz.sizeOf23 h o7.ldAll (by rw [fl_length, hl]; rfl) ?_)
      refine WR.k rfl rfl rfl (OS.move (v := v_2) rfl rfl ?_)
      obtain ⟨r_3, hr_3, hp⟩ := bind_some hp
      refine WR.k rfl rfl rfl (OS.callF (vs := [.agg (fl E5 key).toArray, v_2]) rfl ⟨rfl, rfl, trivial⟩ Tryz.call62 ((W62 K w_8 hr_3 hl o6.vw.forget).mono ?_))
      rintro _ w_9 ⟨d1, rfl, s4, hl1⟩
      refine ⟨_, rfl, ?_⟩
      obtain ⟨c_9, s5⟩ : ∃ c_9, St [] w_8 c_8 w_9 c_9 := ⟨_, s4.merge (fun x => x + 19)⟩
      refine WR.k rfl rfl rfl (OS.allocArr (E := E5) (xs := (List.replicate 16 (0 : UInt8))) (c := c_9) 22 rfl Tryz.zeroValue101 (by kernel_rfl) ?_); intro p_1 w_10 c_10 o8 s6
      refine WR.k0 rfl rfl (OS.stArrAll rfl Tryz.sizeOf101 rfl rfl o8 (by rw [fl_length, hl1]; rfl) (Eq.trans (List.length_replicate (n := 16) (a := (0 : UInt8))) (Eq.symm hl1)) ?_); intro w_11 o9 s7
      have hl2 : r_3.length = 16 := hl1
      refine WR.nil ?_
      refine WC.seq (WC.region ?_)
      refine WR.k rfl rfl rfl (OS.move (v := v_2) rfl rfl ?_)
      refine WR.k rfl rfl rfl (OS.sliceAF (E := E5) (l := 0) (h := 16) rfl Tryz.underlying101 Tryz.sizeOf5 rfl o9 hl2 Bd.none Bd.none (by decide) (by decide) ?_); intro v_3 y z1 fu
      rw [List.drop_zero, List.take_of_length_le (by rw [hl2]; decide)] at y
      replace z1 := z1 (by decide)
      replace fu := fu rfl
      have o10 := o6.keep ((s5.t s6).t s7) (by decide)
      obtain ⟨r_4, hr_4, hp⟩ := bind_some hp
      obtain ⟨ha1, hr_4⟩ := app_some hr_4
      refine WR.k rfl rfl rfl (OS.append (E := E5) (c := c_10) (i := 14) (xs := r_2) (ys := r_3) rfl Tryz.underlying25 Tryz.underlying25 (.inl rfl) I5 rfl rfl rfl rfl rfl o10 y.src (lim_bytes (by decide) ha1) (lim_max (b := 1) (by decide) ha1) ?_); intro v_4 w_12 c_11 o11 s8
      replace o11 : Ow E5 14 w_12 c_11 v_4 r_4 := by rw [hr_4]; exact o11
      refine WR.k rfl rfl rfl (OS.assign (v := v_4) rfl rfl ?_)
      refine WR.k rfl rfl rfl (OS.assign (v := vI (0 : Int)) rfl rfl ?_)
      refine WR.nil ?_
      refine WC.ret ?_
      repeat first | refine thenQ_ret ?_ | refine blkQ_ret ?_
      cases hp
      obtain ⟨c_12, s9, o12⟩ := o11.recol 2
      exact fnQ.ls (fn := Tryz.f37) (rs := [.tmp 6, .tmp 7]) (vs := [v_4, vI (0 : Int)]) rfl ⟨(.inl ⟨_, rfl, rfl⟩), (.inl ⟨_, rfl, rfl⟩), trivial⟩ ⟨_, _, rfl, ((((((((s.t hs6).t s2).t s3).t s5).t s6).t s7).t s8).t s9).entry (by decide), o12⟩ (by simp)
theorem V37 (K : Nat) (w0 : World) (cw : Col) (hcw : ∀ b, cw b < 40) {x0 : List UInt8} {x1 : UInt64} {x2 : List UInt8} {r : (List UInt8) × Int} (hp : seal_Seal K x0 x1 x2 = some r) (h0 : x0.length = 32) {i2 : Nat} (hi2 : i2 ≤ 1) {v2 : Value} (o2 : Vw E5 i2 w0 cw v2 x2) :
    Calls Tryz.prog 37 [.agg (fl E5 x0).toArray, vU64 x1, v2].toArray w0 fun e w1 => ∃ (s0 : Sl) (d : Col), e = .returned (.tuple #[s0.val, vI r.2]) ∧ St [] w0 cw w1 d ∧ Ow E5 2000 w1 d s0.val r.1 := by
  refine (W37 K w0 hp h0 o2.forget).mono ?_
  rintro _ w1 ⟨y0, d, rfl, sx, o0_⟩
  obtain ⟨s0, e0⟩ := isSlv o0_.isSl; subst e0
  exact ⟨s0, _, rfl, sx.merge (fun x => x + 1998), o0_.merge (fun x => x + 1998) sx (by decide)⟩

-- (*holdfast/keys.Tree).Seal
set_option maxHeartbeats 4000000 in
theorem W17 (K : Nat) (w0 : World) (cw : Col) (hcw : ∀ b, cw b < 40) {t : S_keys_Tree} {tenant : List UInt8} {name : List UInt8} {plain : List UInt8} {r : (List UInt8) × Int × S_keys_Tree} (hp : keys_Tree_Seal K t tenant name plain = some r) {b : Nat} {b1 : Nat} {p_ : Value} (o : Bx 3 w0 cw p_ (fa 32 t.root ++ [vI t.sealed, (.map (some b)), (.map (some b1))])) (hl : t.root.length = 32) (o1 : Mp kv9 (VR.flat vv4) 4 w0 cw (.map (some b)) t.gone) (o2 : Mp kv71 (VR.flat vv3) 5 w0 cw (.map (some b1)) t.at_) {i : Nat} (hi : i ≤ 1) {v_ : Value} (o3 : Vw E5 i w0 cw v_ plain) {gi0 : Nat} (hgi0 : gi0 ≤ 1) (og0 : Arr E76 gi0 w0 cw (.pointer (some ⟨0, 0, none⟩)) tab0) {gi7 : Nat} (hgi7 : gi7 ≤ 1) (og7 : Arr E5 gi7 w0 cw (.pointer (some ⟨7, 0, none⟩)) tab7) :
    Calls Tryz.prog 17 [p_, vS tenant, vS name, v_].toArray w0 fun e w1 => ∃ (sl2 : Sl) (b2 : Nat) (b3 : Nat) (d : Col), e = .returned (.tuple #[sl2.val, vI r.2.1]) ∧ St [3, 4, 5] w0 cw w1 d ∧ Ow E5 2000 w1 d sl2.val r.1 ∧ Bx 3 w1 d p_ (fa 32 r.2.2.root ++ [vI r.2.2.sealed, (.map (some b2)), (.map (some b3))]) ∧ Mp kv9 (VR.flat vv4) 4 w1 d (.map (some b2)) r.2.2.gone ∧ Mp kv71 (VR.flat vv3) 5 w1 d (.map (some b3)) r.2.2.at_ ∧ r.2.2.root.length = 32 := by
  refine calls_intro Tryz.func17 rfl Tryz.ntmps17 rfl ?_
  unfold keys_Tree_Seal at hp
  refine WC.seq (WC.region ?_)
  refine WR.k rfl rfl rfl (OS.assign (v := (.slice none 0 0)) rfl rfl ?_)
  refine WR.k rfl rfl rfl (OS.assign (v := vI (0 : Int)) rfl rfl ?_)
  refine WR.nil ?_
  refine WC.seq (WC.region ?_)
  refine WR.k rfl rfl rfl (OS.move (v := p_) rfl rfl ?_)
  refine WR.k rfl rfl rfl (OS.move (v := vS tenant) rfl rfl ?_)
  refine WR.k rfl rfl rfl (OS.move (v := vS name) rfl rfl ?_)
  obtain ⟨r_, hr_, hp⟩ := bind_some hp
  refine WR.k rfl rfl rfl (OS.callF (vs := [p_, vS tenant, vS name]) rfl ⟨rfl, rfl, rfl, trivial⟩ Tryz.call13 ((W13 K w0 (rcc [3, 4, 5] cw) (rcc_lt cw rfl) hr_ (o.tr (rc_tr (by decide))) hl (o1.tr (rc_tr (by decide))) (o2.tr (rc_tr (by decide)))).mono ?_))
  rintro _ w_ ⟨d1, rfl, s⟩
  refine ⟨_, rfl, ?_⟩
  obtain ⟨c_, s1⟩ : ∃ c_, St [] w0 cw w_ c_ := ⟨_, s.mg2 (sh := 10000) rfl⟩
  refine WR.k rfl rfl rfl (OS.move (v := .tuple #[vI r_.1, vI r_.2]) rfl rfl ?_)
  refine WR.k rfl rfl rfl (OS.extract (v := vI r_.1) rfl rfl rfl ?_)
  refine WR.k rfl rfl rfl (OS.extract (v := vI r_.2) rfl rfl rfl ?_)
  refine WR.k rfl rfl rfl (OS.assign (v := vI r_.1) rfl rfl ?_)
  refine WR.k rfl rfl rfl (OS.assign (v := vI r_.2) rfl rfl ?_)
  refine WR.nil ?_
  refine WC.seq ?_
  refine WC.seq (WC.region ?_)
  refine WR.k rfl rfl rfl (OS.move (v := vI r_.2) rfl rfl ?_)
  refine WR.k rfl rfl rfl (OS.bin (a := vI r_.2) (b := vI (0 : Int)) rfl rfl rfl bI_neq ?_)
  refine WR.nil ?_
  refine WC.cond (!decide (r_.2 = (0 : Int))) rfl (fun hb => ?_) (fun hb => ?_)
  · rw [if_pos hb] at hp
    refine WC.seq (WC.region ?_)
    refine WR.k rfl rfl rfl (OS.move (v := vI r_.2) rfl rfl ?_)
    refine WR.k rfl rfl rfl (OS.assign (v := (.slice none 0 0)) rfl rfl ?_)
    refine WR.k rfl rfl rfl (OS.assign (v := vI r_.2) rfl rfl ?_)
    refine WR.nil ?_
    refine WC.ret ?_
    repeat first | refine thenQ_ret ?_ | refine blkQ_ret ?_
    cases hp
    have o4 := o.keep s1 (by decide)
    have o5 := o1.keep s1 (by decide) (by decide)
    have o6 := o2.keep s1 (by decide) (by decide)
    exact fnQ.ls (fn := Tryz.f17) (rs := [.tmp 8, .tmp 9]) (vs := [(.slice none 0 0), vI r_.2]) rfl ⟨(.inl ⟨_, rfl, rfl⟩), (.inl ⟨_, rfl, rfl⟩), trivial⟩ ⟨⟨none, 0, 0⟩, _, _, _, rfl, s1.leave hcw (by decide), Ow.nil, o4, o5, o6, hl⟩ (by simp)
  · rw [if_neg (nt hb)] at hp
    refine WC.skip ?_
    refine WC.seq (WC.region ?_)
    refine WR.k rfl rfl rfl (OS.move (v := p_) rfl rfl ?_)
    refine WR.k rfl rfl rfl (OS.move (v := vS tenant) rfl rfl ?_)
    refine WR.k rfl rfl rfl (OS.move (v := vS name) rfl rfl ?_)
    refine WR.k rfl rfl rfl (OS.move (v := vI r_.1) rfl rfl ?_)
    have o7 := o.keep s1 (by decide)
    have o8 := o1.keep s1 (by decide) (by decide)
    have o9 := o2.keep s1 (by decide) (by decide)
    have og := og0.keep s1 (nin hgi0 (by decide))
    have og1 := og7.keep s1 (nin hgi7 (by decide))
    obtain ⟨r_1, hr_1, hp⟩ := bind_some hp
    refine WR.k rfl rfl rfl (OS.callF (vs := [p_, vS tenant, vS name, vI r_.1]) rfl ⟨rfl, rfl, rfl, rfl, trivial⟩ Tryz.call14 ((W14 (gi0 := gi0) (gi7 := gi7) K w_ (rcc [3, 4, 5] c_) (rcc_lt c_ rfl) hr_1 (o7.tr (rc_tr (by decide))) hl (o8.tr (rc_tr (by decide))) (o9.tr (rc_tr (by decide))) hgi0 (og.tr (rc_tr (rc_low hgi0 rfl))) hgi7 (og1.tr (rc_tr (rc_low hgi7 rfl)))).mono ?_))
    rintro _ w_1 ⟨d2, rfl, s2, hl1⟩
    refine ⟨_, rfl, ?_⟩
    obtain ⟨c_1, s3⟩ : ∃ c_1, St [] w_ c_ w_1 c_1 := ⟨_, s2.mg2 (sh := 20000) rfl⟩
    refine WR.k rfl rfl rfl (OS.move (v := .tuple #[.agg (fl E5 r_1.1).toArray, vI r_1.2]) rfl rfl ?_)
    refine WR.k rfl rfl rfl (OS.extract (v := .agg (fl E5 r_1.1).toArray) rfl rfl rfl ?_)
    refine WR.k rfl rfl rfl (OS.extract (v := vI r_1.2) rfl rfl rfl ?_)
    refine WR.k rfl rfl rfl (OS.allocArr (E := E5) (xs := (List.replicate 32 (0 : UInt8))) (c := c_1) 40 rfl Tryz.zeroValue23 (by kernel_rfl) ?_); intro p_1 w_2 c_2 o10 s4
    refine WR.k0 rfl rfl (OS.stArrAll rfl Tryz.sizeOf23 rfl rfl o10 (by rw [fl_length, hl1]; rfl) (Eq.trans (List.length_replicate (n := 32) (a := (0 : UInt8))) (Eq.symm hl1)) ?_); intro w_3 o11 s5
    have hl2 : r_1.1.length = 32 := hl1
    refine WR.k rfl rfl rfl (OS.assign (v := vI r_1.2) rfl rfl ?_)
    refine WR.nil ?_
    have o12 := o7.keep ((s3.t s4).t s5) (by decide)
    have o13 := o3.keep (((s1.t s3).t s4).t s5) (nin hi (by decide))
    obtain ⟨r_2, hr_2, hp⟩ := bind_some hp
    refine WC.seq (WC.draw3 (c := c_2) ⟨12, [[], [], [], [], [], [], [], [32000], [], [], [], []], [[], [], [], [], [], [], [], [], [], [], [], []], [], [[], [], [1], [2], [3], [4], [], [0, 5, 6], [7], [7, 8], [7, 8], [7, 8, 9]], [7, 8, 9, 10, 11]⟩ [[], [], [], [], [], [], [], [], [], [], [], []] [[34], [35], [36], [37], [38], [39], [40], [41], [33, 41], [33, 42], [43], [14, 42]] [fun yf yw yc => (yf 34) = .agg (fl E5 r_1.1).toArray, fun yf yw yc => (yf 35) = p_, fun yf yw yc => (yf 36) = p_, fun yf yw yc => AdrP p_ 32 1 (yf 37), fun yf yw yc => (yf 38) = vI t.sealed, fun yf yw yc => (yf 39) = vU64 (iU64 t.sealed), fun yf yw yc => (yf 40) = v_, fun yf yw yc => ∃ (sl : Sl), (yf 41) = .tuple #[sl.val, vI r_2.2] ∧ Ow E5 32000 yw yc sl.val r_2.1, fun yf yw yc => (yf 33) = (yf 41), fun yf yw yc => (yf 42) = prj 0 (yf 33), fun yf yw yc => (yf 43) = vI r_2.2, fun yf yw yc => (yf 14) = (yf 42)] hmix (by kernel_rfl) (by kernel_rfl) ⟨?_, ?_, ?_, ?_, ?_, ?_, ?_, ?_, ?_, ?_, ?_, ?_, trivial⟩ ⟨fun y1 y2 yw yc yI yw1 yc1 yh ye ys yk => by obtain ⟨ye0, -⟩ := ye; show (y2 34) = .agg (fl E5 r_1.1).toArray; rw [ye0]; exact yh, fun y1 y2 yw yc yI yw1 yc1 yh ye ys yk => by obtain ⟨ye0, -⟩ := ye; show (y2 35) = p_; rw [ye0]; exact yh, fun y1 y2 yw yc yI yw1 yc1 yh ye ys yk => by obtain ⟨ye0, -⟩ := ye; show (y2 36) = p_; rw [ye0]; exact yh, fun y1 y2 yw yc yI yw1 yc1 yh ye ys yk => by obtain ⟨ye0, -⟩ := ye; show AdrP p_ 32 1 (y2 37); rw [ye0]; exact yh, fun y1 y2 yw yc yI yw1 yc1 yh ye ys yk => by obtain ⟨ye0, -⟩ := ye; show (y2 38) = vI t.sealed; rw [ye0]; exact yh, fun y1 y2 yw yc yI yw1 yc1 yh ye ys yk => by obtain ⟨ye0, -⟩ := ye; show (y2 39) = vU64 (iU64 t.sealed); rw [ye0]; exact yh, fun y1 y2 yw yc yI yw1 yc1 yh ye ys yk => by obtain ⟨ye0, -⟩ := ye; show (y2 40) = v_; rw [ye0]; exact yh, fun y1 y2 yw yc yI yw1 yc1 yh ye ys yk => by obtain ⟨ye0, -⟩ := ye; obtain ⟨sl, yg, o14⟩ := yh; exact ⟨sl, (by rw [ye0]; exact yg), o14.keep ys (yk _ (by simp))⟩, fun y1 y2 yw yc yI yw1 yc1 yh ye ys yk => by obtain ⟨ye0, ye1, -⟩ := ye; show (y2 33) = (y2 41); rw [ye0, ye1]; exact yh, fun y1 y2 yw yc yI yw1 yc1 yh ye ys yk => by obtain ⟨ye0, ye1, -⟩ := ye; show (y2 42) = prj 0 (y2 33); rw [ye0, ye1]; exact yh, fun y1 y2 yw yc yI yw1 yc1 yh ye ys yk => by obtain ⟨ye0, -⟩ := ye; show (y2 43) = vI r_2.2; rw [ye0]; exact yh, fun y1 y2 yw yc yI yw1 yc1 yh ye ys yk => by obtain ⟨ye0, ye1, -⟩ := ye; show (y2 14) = (y2 42); rw [ye0, ye1]; exact yh, trivial⟩ ?_)
    · rintro f_ w_4 c_3 hB hs ⟨-⟩ o ho; obtain rfl : _ = o := Option.some.inj ho
      have o15 := o11.keep hs (by decide)
      exact OS.ldN rfl Tryz.isAgg23 Tryz.sizeOf23 ((hB 12 (by kernel_rfl)).trans (show _ = p_1 from rfl)) o15.ldAll (by rw [fl_length, hl2]; rfl) ⟨_, St.refl, rfl⟩
    · rintro f_1 w_5 c_4 hB1 hs1 ⟨-⟩ o ho; obtain rfl : _ = o := Option.some.inj ho
      exact OS.move (v := p_) rfl ((hB1 0 (by kernel_rfl)).trans (show _ = p_ from rfl)) ⟨_, St.refl, rfl⟩
    · rintro f_2 w_6 c_5 hB2 hs2 ⟨g, -⟩ o ho; obtain rfl : _ = o := Option.some.inj ho
      replace g : (f_2 35) = p_ := g
      have o16 := o7.keep (((s3.t s4).t s5).t hs2) (by decide)
      exact OS.nilCheckBx rfl g o16 ⟨_, St.refl, rfl⟩
    · rintro f_3 w_7 c_6 hB3 hs3 ⟨g1, -⟩ o ho; obtain rfl : _ = o := Option.some.inj ho
      replace g1 : (f_3 36) = p_ := g1
      have o17 := o12.keep hs3 (by decide)
      exact OS.fieldAddrBx rfl Tryz.runUnderlying63 rfl Tryz.sizeOf3 rfl g1 o17 (fun _ h => ⟨_, St.refl, h⟩)
    · rintro f_4 w_8 c_7 hB4 hs4 ⟨g2, -⟩ o ho; obtain rfl : _ = o := Option.some.inj ho
      replace g2 : AdrP p_ 32 1 (f_4 37) := g2
      have o18 := o12.keep hs4 (by decide)
      exact OS.ld1 (u := vI t.sealed) rfl Tryz.isAgg3 rfl (o18.ldn g2 (sub_of rfl)) ⟨_, St.refl, rfl⟩
    · rintro f_5 w_9 c_8 hB5 hs5 ⟨g3, -⟩ o ho; obtain rfl : _ = o := Option.some.inj ho
      replace g3 : (f_5 38) = vI t.sealed := g3
      exact OS.conv rfl Tryz.runUnderlying3 Tryz.runUnderlying76 g3 (cv_i64 _) ⟨_, St.refl, rfl⟩
    · rintro f_6 w_10 c_9 hB6 hs6 ⟨-⟩ o ho; obtain rfl : _ = o := Option.some.inj ho
      exact OS.move (v := v_) rfl ((hB6 3 (by kernel_rfl)).trans (show _ = v_ from rfl)) ⟨_, St.refl, rfl⟩
    · rintro f_7 w_11 c_10 hB7 hs7 ⟨g4, g5, g6, -⟩ o ho; obtain rfl : _ = o := Option.some.inj ho
      replace g4 : (f_7 34) = .agg (fl E5 r_1.1).toArray := g4
      replace g5 : (f_7 39) = vU64 (iU64 t.sealed) := g5
      replace g6 : (f_7 40) = v_ := g6
      have o19 := o3.keep ((((s1.t s3).t s4).t s5).t hs7) (nin hi (by decide))
      refine OS.callF (vs := [.agg (fl E5 r_1.1).toArray, vU64 (iU64 t.sealed), v_]) rfl ⟨g4, g5, g6, trivial⟩ Tryz.call37 ((V37 (i2 := i) K w_11 (rcc [] c_10) (rcc_lt c_10 rfl) hr_2 hl2 hi ((o19).tr (rc_tr (rc_low hi rfl)))).mono ?_)
      rintro _ yw ⟨sl, yd, rfl, ys, o14⟩
      exact ⟨_, rfl, _, ys.mg2 (I := []) (sh := 30000) rfl, sl, rfl, (o14.tr (mg2_back ys rfl))⟩
    · rintro f_8 w_12 c_11 hB8 hs8 ⟨g7, -⟩ o ho; obtain rfl : _ = o := Option.some.inj ho
      replace g7 : ∃ (sl : Sl), (f_8 41) = .tuple #[sl.val, vI r_2.2] ∧ Ow E5 32000 w_12 c_11 sl.val r_2.1 := g7
      obtain ⟨sl, g7, o14⟩ := g7
      exact OS.move (v := .tuple #[sl.val, vI r_2.2]) rfl g7 ⟨_, St.refl, (show .tuple #[sl.val, vI r_2.2] = (f_8 41) from g7.symm)⟩
    · rintro f_9 w_13 c_12 hB9 hs9 ⟨g8, g9, -⟩ o ho; obtain rfl : _ = o := Option.some.inj ho
      replace g8 : ∃ (sl : Sl), (f_9 41) = .tuple #[sl.val, vI r_2.2] ∧ Ow E5 32000 w_13 c_12 sl.val r_2.1 := g8
      obtain ⟨sl, g8, o14⟩ := g8
      replace g9 : (f_9 33) = (f_9 41) := g9
      replace g9 : (f_9 33) = .tuple #[sl.val, vI r_2.2] := g9.trans g8
      exact OS.extract (v := sl.val) rfl g9 rfl ⟨_, St.refl, (show sl.val = prj 0 (f_9 33) from by rw [g9]; rfl)⟩
    · rintro f_10 w_14 c_13 hB10 hs10 ⟨g10, g11, -⟩ o ho; obtain rfl : _ = o := Option.some.inj ho
      replace g10 : ∃ (sl : Sl), (f_10 41) = .tuple #[sl.val, vI r_2.2] ∧ Ow E5 32000 w_14 c_13 sl.val r_2.1 := g10
      obtain ⟨sl, g10, o14⟩ := g10
      replace g11 : (f_10 33) = (f_10 41) := g11
      replace g11 : (f_10 33) = .tuple #[sl.val, vI r_2.2] := g11.trans g10
      exact OS.extract (v := vI r_2.2) rfl g11 rfl ⟨_, St.refl, rfl⟩
    · rintro f_11 w_15 c_14 hB11 hs11 ⟨g12, g13, g14, -⟩ o ho; obtain rfl : _ = o := Option.some.inj ho
      replace g12 : ∃ (sl : Sl), (f_11 41) = .tuple #[sl.val, vI r_2.2] ∧ Ow E5 32000 w_15 c_14 sl.val r_2.1 := g12
      obtain ⟨sl, g12, o14⟩ := g12
      replace g13 : (f_11 33) = (f_11 41) := g13
      replace g13 : (f_11 33) = .tuple #[sl.val, vI r_2.2] := g13.trans g12
      replace g14 : (f_11 42) = prj 0 (f_11 33) := g14
      replace g14 : (f_11 42) = sl.val := g14.trans (by rw [g13]; rfl)
      exact OS.assign (v := sl.val) rfl g14 ⟨_, St.refl, (show sl.val = (f_11 42) from g14.symm)⟩
    · rintro f_12 w_16 c_15 hB12 hs12 ⟨g15, g16, g17, g18, g19, -⟩
      replace g15 : ∃ (sl : Sl), (f_12 41) = .tuple #[sl.val, vI r_2.2] ∧ Ow E5 32000 w_16 c_15 sl.val r_2.1 := g15
      obtain ⟨sl, g15, o14⟩ := g15
      replace g16 : (f_12 33) = (f_12 41) := g16
      replace g16 : (f_12 33) = .tuple #[sl.val, vI r_2.2] := g16.trans g15
      replace g17 : (f_12 42) = prj 0 (f_12 33) := g17
      replace g17 : (f_12 42) = sl.val := g17.trans (by rw [g16]; rfl)
      replace g18 : (f_12 43) = vI r_2.2 := g18
      replace g19 : (f_12 14) = (f_12 42) := g19
      replace g19 : (f_12 14) = sl.val := g19.trans g17
      have h := (hB12 0 (by kernel_rfl)).trans (show _ = p_ from rfl)
      have h1 := (hB12 10 (by kernel_rfl)).trans (show _ = vI r_.1 from rfl)
      refine WR.k rfl rfl rfl (OS.assign (v := vI r_2.2) rfl g18 ?_)
      refine WR.nil ?_
      refine WC.seq ?_
      refine WC.block ?_
      refine WC.seq (WC.region ?_)
      refine WR.k rfl rfl rfl (OS.move (v := vI r_2.2) rfl rfl ?_)
      refine WR.k rfl rfl rfl (OS.bin (a := vI r_2.2) (b := vI (0 : Int)) rfl rfl rfl bI_neq ?_)
      refine WR.k rfl rfl rfl (OS.assign (v := vB (!decide (r_2.2 = (0 : Int)))) rfl rfl ?_)
      refine WR.nil ?_
      refine WC.cond (!decide (r_2.2 = (0 : Int))) rfl (fun hb1 => ?_) (fun hb1 => ?_)
      · rw [if_pos hb1] at hp
        refine WC.seq (WC.region ?_)
        refine WR.k rfl rfl rfl (OS.move (v := vI r_2.2) rfl rfl ?_)
        refine WR.k rfl rfl rfl (OS.assign (v := (.slice none 0 0)) rfl rfl ?_)
        refine WR.k rfl rfl rfl (OS.assign (v := vI r_2.2) rfl rfl ?_)
        refine WR.nil ?_
        refine WC.ret ?_
        repeat first | refine thenQ_ret ?_ | refine blkQ_ret ?_
        cases hp
        have o20 := o12.keep hs12 (by decide)
        have o21 := o8.keep (((s3.t s4).t s5).t hs12) (by decide) (by decide)
        have o22 := o9.keep (((s3.t s4).t s5).t hs12) (by decide) (by decide)
        exact fnQ.ls (fn := Tryz.f17) (rs := [.tmp 8, .tmp 9]) (vs := [(.slice none 0 0), vI r_2.2]) rfl ⟨(.inl ⟨_, rfl, rfl⟩), (.inl ⟨_, rfl, rfl⟩), trivial⟩ ⟨⟨none, 0, 0⟩, _, _, _, rfl, ((((s1.t s3).t s4).t s5).t hs12).leave hcw (by decide), Ow.nil, o20, o21, o22, hl⟩ (by simp)
      · rw [if_neg (nt hb1)] at hp
        refine WC.seq (WC.region ?_)
        refine WR.k rfl rfl rfl (OS.move (v := p_) rfl h ?_)
        have o23 := o12.keep hs12 (by decide)
        refine WR.k rfl rfl rfl (OS.nilCheckBx rfl rfl o23 ?_)
        refine WR.k rfl rfl rfl (OS.fieldAddrBx rfl Tryz.runUnderlying63 rfl Tryz.sizeOf3 rfl rfl o23 ?_); intro p_2 a2
        refine WR.k rfl rfl rfl (OS.ld1 (u := vI t.sealed) rfl Tryz.isAgg3 rfl (o23.ldn a2 (sub_of rfl)) ?_)
        refine WR.k rfl rfl rfl (OS.bin (a := vI t.sealed) (b := vI (1099511627776 : Int)) rfl rfl rfl bI_geq ?_)
        refine WR.k rfl rfl rfl (OS.assign (v := vB (decide ((1099511627776 : Int) ≤ t.sealed))) rfl rfl ?_)
        refine WR.nil ?_
        refine WC.cond (decide ((1099511627776 : Int) ≤ t.sealed)) rfl (fun hb2 => ?_) (fun hb2 => ?_)
        · rw [if_pos hb2] at hp
          refine WC.seq (WC.region ?_)
          refine WR.k rfl rfl rfl (OS.assign (v := (.slice none 0 0)) rfl rfl ?_)
          refine WR.k rfl rfl rfl (OS.assign (v := vI (7 : Int)) rfl rfl ?_)
          refine WR.nil ?_
          refine WC.ret ?_
          repeat first | refine thenQ_ret ?_ | refine blkQ_ret ?_
          cases hp
          have o24 := o8.keep (((s3.t s4).t s5).t hs12) (by decide) (by decide)
          have o25 := o9.keep (((s3.t s4).t s5).t hs12) (by decide) (by decide)
          exact fnQ.ls (fn := Tryz.f17) (rs := [.tmp 8, .tmp 9]) (vs := [(.slice none 0 0), vI (7 : Int)]) rfl ⟨(.inl ⟨_, rfl, rfl⟩), (.inl ⟨_, rfl, rfl⟩), trivial⟩ ⟨⟨none, 0, 0⟩, _, _, _, rfl, ((((s1.t s3).t s4).t s5).t hs12).leave hcw (by decide), Ow.nil, o23, o24, o25, hl⟩ (by simp)
        · rw [if_neg (nt hb2)] at hp
          refine WC.skip ?_
          refine WC.seq (WC.region ?_)
          refine WR.k rfl rfl rfl (OS.move (v := p_) rfl h ?_)
          refine WR.k rfl rfl rfl (OS.nilCheckBx rfl rfl o23 ?_)
          refine WR.k rfl rfl rfl (OS.fieldAddrBx rfl Tryz.runUnderlying63 rfl Tryz.sizeOf3 rfl rfl o23 ?_); intro p_3 a3
          refine WR.k rfl rfl rfl (OS.ld1 (u := vI t.sealed) rfl Tryz.isAgg3 rfl (o23.ldn a3 (sub_of rfl)) ?_)
          refine WR.k rfl rfl rfl (OS.bin (a := vI t.sealed) (b := vI (1 : Int)) rfl rfl rfl bI_add ?_)
          refine WR.k rfl rfl rfl (OS.nilCheckBx rfl rfl o23 ?_)
          refine WR.k rfl rfl rfl (OS.fieldAddrBx rfl Tryz.runUnderlying63 rfl Tryz.sizeOf3 rfl rfl o23 ?_); intro p_4 a4
          refine WR.k0 rfl rfl (OS.stBxAt (v := vI (W (t.sealed + (1 : Int)))) (vs := [vI (W (t.sealed + (1 : Int)))]) (ws := (fa 32 t.root ++ [vI (W (t.sealed + (1 : Int))), (.map (some b)), (.map (some b1))])) rfl Tryz.sizeOf3 rfl rfl rfl o23 a4 rfl (Nat.le_of_ble_eq_true rfl) (one_of rfl) rfl ?_); intro w_17 o26 s6
          refine WR.nil ?_
          refine WC.seq (WC.region ?_)
          refine WR.k rfl rfl rfl (OS.move (v := vI r_.1) rfl h1 ?_)
          refine WR.k rfl rfl rfl (OS.conv rfl Tryz.runUnderlying3 Tryz.runUnderlying5 rfl (cv_i8 _) ?_)
          obtain ⟨l3, hl3, hp⟩ := bind_some hp
          replace hl3 := (Option.some.inj hl3).symm
          refine WR.k rfl rfl rfl (OS.bslice (E := E5) (c := c_15) 41 ([iU8 r_.1] : List UInt8) [(0, vU8 (iU8 r_.1))] rfl ⟨rfl, rfl, trivial⟩ (fun _ => by kernel_rfl) rfl (by decide) ?_); intro v_1 w_18 c_16 o27 s7
          replace o27 : Ow E5 41 w_18 c_16 v_1 l3 := by rw [hl3]; exact o27
          refine WR.k rfl rfl rfl (OS.move (v := sl.val) rfl g19 ?_)
          have o28 := o14.keep (s6.t s7) (by decide)
          obtain ⟨l4, hl4, hp⟩ := bind_some hp
          obtain ⟨ha, hl4⟩ := app_some hl4
          refine WR.k rfl rfl rfl (OS.append (E := E5) (c := c_16) (i := 41) (xs := l3) (ys := r_2.1) rfl Tryz.underlying25 Tryz.underlying25 (.inl rfl) I5 rfl rfl rfl rfl rfl o27 o28.vw.src (lim_bytes (by decide) ha) (lim_max (b := 1) (by decide) ha) ?_); intro v_2 w_19 c_17 o29 s8
          replace o29 : Ow E5 41 w_19 c_17 v_2 l4 := by rw [hl4]; exact o29
          refine WR.k rfl rfl rfl (OS.assign (v := v_2) rfl rfl ?_)
          refine WR.k rfl rfl rfl (OS.assign (v := vI (0 : Int)) rfl rfl ?_)
          refine WR.nil ?_
          refine WC.ret ?_
          repeat first | refine thenQ_ret ?_ | refine blkQ_ret ?_
          obtain ⟨sl1, e1⟩ := isSlv o29.isSl; subst e1
          cases hp
          obtain ⟨c_18, s9, o30⟩ := o29.recol 2000
          have o31 := o26.keep ((s7.t s8).t s9) (by decide)
          have o32 := o8.keep (((((((s3.t s4).t s5).t hs12).t s6).t s7).t s8).t s9) (by decide) (by decide)
          have o33 := o9.keep (((((((s3.t s4).t s5).t hs12).t s6).t s7).t s8).t s9) (by decide) (by decide)
          exact fnQ.ls (fn := Tryz.f17) (rs := [.tmp 8, .tmp 9]) (vs := [sl1.val, vI (0 : Int)]) rfl ⟨(.inl ⟨_, rfl, rfl⟩), (.inl ⟨_, rfl, rfl⟩), trivial⟩ ⟨_, _, _, _, rfl, ((((((((s1.t s3).t s4).t s5).t hs12).t s6).t s7).t s8).t s9).leave hcw (by decide), o30, o31, o32, o33, hl⟩ (by simp)

-- (*holdfast/keys.Tree).Rotate
set_option maxHeartbeats 4000000 in
theorem W15 (K : Nat) (w0 : World) (cw : Col) (hcw : ∀ b, cw b < 40) {t : S_keys_Tree} {tenant : List UInt8} {name : List UInt8} {r : Int × Int × S_keys_Tree} (hp : keys_Tree_Rotate K t tenant name = some r) {b : Nat} {b1 : Nat} {p_ : Value} (o : Bx 3 w0 cw p_ (fa 32 t.root ++ [vI t.sealed, (.map (some b)), (.map (some b1))])) (hl : t.root.length = 32) (o1 : Mp kv9 (VR.flat vv4) 4 w0 cw (.map (some b)) t.gone) (o2 : Mp kv71 (VR.flat vv3) 5 w0 cw (.map (some b1)) t.at_) :
    Calls Tryz.prog 15 [p_, vS tenant, vS name].toArray w0 fun e w1 => ∃ (b2 : Nat) (b3 : Nat) (d : Col), e = .returned (.tuple #[vI r.1, vI r.2.1]) ∧ St [3, 4, 5] w0 cw w1 d ∧ Bx 3 w1 d p_ (fa 32 r.2.2.root ++ [vI r.2.2.sealed, (.map (some b2)), (.map (some b3))]) ∧ Mp kv9 (VR.flat vv4) 4 w1 d (.map (some b2)) r.2.2.gone ∧ Mp kv71 (VR.flat vv3) 5 w1 d (.map (some b3)) r.2.2.at_ ∧ r.2.2.root.length = 32 := by
  refine calls_intro Tryz.func15 rfl Tryz.ntmps15 rfl ?_
  unfold keys_Tree_Rotate at hp
  refine WC.seq (WC.region ?_)
  refine WR.k rfl rfl rfl (OS.assign (v := vI (0 : Int)) rfl rfl ?_)
  refine WR.k rfl rfl rfl (OS.assign (v := vI (0 : Int)) rfl rfl ?_)
  refine WR.nil ?_
  refine WC.seq (WC.region ?_)
  refine WR.k rfl rfl rfl (OS.move (v := p_) rfl rfl ?_)
  refine WR.k rfl rfl rfl (OS.move (v := vS tenant) rfl rfl ?_)
  refine WR.k rfl rfl rfl (OS.move (v := vS name) rfl rfl ?_)
  obtain ⟨r_, hr_, hp⟩ := bind_some hp
  refine WR.k rfl rfl rfl (OS.callF (vs := [p_, vS tenant, vS name]) rfl ⟨rfl, rfl, rfl, trivial⟩ Tryz.call13 ((W13 K w0 (rcc [3, 4, 5] cw) (rcc_lt cw rfl) hr_ (o.tr (rc_tr (by decide))) hl (o1.tr (rc_tr (by decide))) (o2.tr (rc_tr (by decide)))).mono ?_))
  rintro _ w_ ⟨d1, rfl, s⟩
  refine ⟨_, rfl, ?_⟩
  obtain ⟨c_, s1⟩ : ∃ c_, St [] w0 cw w_ c_ := ⟨_, s.mg2 (sh := 10000) rfl⟩
  refine WR.k rfl rfl rfl (OS.move (v := .tuple #[vI r_.1, vI r_.2]) rfl rfl ?_)
  refine WR.k rfl rfl rfl (OS.extract (v := vI r_.1) rfl rfl rfl ?_)
  refine WR.k rfl rfl rfl (OS.extract (v := vI r_.2) rfl rfl rfl ?_)
  refine WR.k rfl rfl rfl (OS.assign (v := vI r_.1) rfl rfl ?_)
  refine WR.k rfl rfl rfl (OS.assign (v := vI r_.2) rfl rfl ?_)
  refine WR.nil ?_
  refine WC.seq ?_
  refine WC.block ?_
  refine WC.seq (WC.region ?_)
  refine WR.k rfl rfl rfl (OS.move (v := vI r_.2) rfl rfl ?_)
  refine WR.k rfl rfl rfl (OS.bin (a := vI r_.2) (b := vI (0 : Int)) rfl rfl rfl bI_neq ?_)
  refine WR.k rfl rfl rfl (OS.assign (v := vB (!decide (r_.2 = (0 : Int)))) rfl rfl ?_)
  refine WR.nil ?_
  refine WC.cond (!decide (r_.2 = (0 : Int))) rfl (fun hb => ?_) (fun hb => ?_)
  · rw [if_pos hb] at hp
    refine WC.seq (WC.region ?_)
    refine WR.k rfl rfl rfl (OS.move (v := vI r_.2) rfl rfl ?_)
    refine WR.k rfl rfl rfl (OS.assign (v := vI (0 : Int)) rfl rfl ?_)
    refine WR.k rfl rfl rfl (OS.assign (v := vI r_.2) rfl rfl ?_)
    refine WR.nil ?_
    refine WC.ret ?_
    repeat first | refine thenQ_ret ?_ | refine blkQ_ret ?_
    cases hp
    have o3 := o.keep s1 (by decide)
    have o4 := o1.keep s1 (by decide) (by decide)
    have o5 := o2.keep s1 (by decide) (by decide)
    exact fnQ.ls (fn := Tryz.f15) (rs := [.tmp 6, .tmp 7]) (vs := [vI (0 : Int), vI r_.2]) rfl ⟨(.inl ⟨_, rfl, rfl⟩), (.inl ⟨_, rfl, rfl⟩), trivial⟩ ⟨_, _, _, rfl, s1.leave hcw (by decide), o3, o4, o5, hl⟩ (by simp)
  · rw [if_neg (nt hb)] at hp
    refine WC.seq (WC.region ?_)
    refine WR.k rfl rfl rfl (OS.move (v := vI r_.1) rfl rfl ?_)
    refine WR.k rfl rfl rfl (OS.bin (a := vI r_.1) (b := vI (16 : Int)) rfl rfl rfl bI_geq ?_)
    refine WR.k rfl rfl rfl (OS.move (v := vB (decide ((16 : Int) ≤ r_.1))) rfl rfl ?_)
    refine WR.cut2 11 (fun f_ w_1 => f_ 0 = p_ ∧ f_ 1 = vS tenant ∧ f_ 2 = vS name ∧ f_ 8 = vI r_.1 ∧ f_ 35 = vB ((decide ((16 : Int) ≤ r_.1)) || ((decide (r_.1 = (1 : Int))) && (decide ((16 : Int) ≤ (t.at_.length : Int))))) ∧ w_ = w_1) ?_ ?_
    · rcases Bool.eq_false_or_eq_true (decide ((16 : Int) ≤ r_.1)) with hg | hg
      · refine WR.gF rfl rfl (vb_t rfl hg) rfl rfl ?_
        refine WR.gF rfl rfl (vb_t rfl hg) rfl rfl ?_
        refine WR.gF rfl rfl (vb_t rfl hg) rfl rfl ?_
        refine WR.gN rfl rfl rfl rfl rfl ?_
        refine WR.gN rfl rfl rfl rfl rfl ?_
        refine WR.gN rfl rfl rfl rfl rfl ?_
        refine WR.gN rfl rfl rfl rfl rfl ?_
        refine WR.gN rfl rfl rfl rfl rfl ?_
        refine WR.gN rfl rfl rfl rfl rfl ?_
        refine WR.gF rfl rfl (vb_t rfl hg) rfl rfl ?_
        refine WR.k rfl rfl rfl (OS.pickT rfl (vb_t rfl hg) rfl ?_)
        refine WR.nil ?_
        exact ⟨rfl, rfl, rfl, rfl, (or_t hg), rfl⟩
      · refine WR.kT rfl rfl (vb_f rfl hg) rfl rfl (OS.move (v := vI r_.1) rfl rfl ?_)
        refine WR.kT rfl rfl (vb_f rfl hg) rfl rfl (OS.bin (a := vI r_.1) (b := vI (1 : Int)) rfl rfl rfl bI_eql ?_)
        refine WR.kT rfl rfl (vb_f rfl hg) rfl rfl (OS.move (v := vB (decide (r_.1 = (1 : Int)))) rfl rfl ?_)
        refine WR.cut2 7 (fun f_1 w_2 => f_1 0 = p_ ∧ f_1 1 = vS tenant ∧ f_1 2 = vS name ∧ f_1 8 = vI r_.1 ∧ f_1 24 = vB (decide ((16 : Int) ≤ r_.1)) ∧ f_1 34 = vB ((decide (r_.1 = (1 : Int))) && (decide ((16 : Int) ≤ (t.at_.length : Int)))) ∧ w_ = w_2) ?_ ?_
        · rcases Bool.eq_false_or_eq_true (decide (r_.1 = (1 : Int))) with hg1 | hg1
          · refine WR.kT rfl rfl (vb_t rfl hg1) rfl rfl (OS.move (v := p_) rfl rfl ?_)
            have o6 := o.keep s1 (by decide)
            refine WR.kT rfl rfl (vb_t rfl hg1) rfl rfl (OS.nilCheckBx rfl rfl o6 ?_)
            refine WR.kT rfl rfl (vb_t rfl hg1) rfl rfl (OS.fieldAddrBx rfl Tryz.runUnderlying63 rfl Tryz.sizeOf61 rfl rfl o6 ?_); intro p_1 a1
            refine WR.kT rfl rfl (vb_t rfl hg1) rfl rfl (OS.ld1 (u := (.map (some b1))) rfl Tryz.isAgg61 rfl (o6.ldn a1 (sub_of rfl)) ?_)
            have o7 := o2.keep s1 (by decide) (by decide)
            refine WR.kT rfl rfl (vb_t rfl hg1) rfl rfl (OS.lenMap rfl Tryz.runUnderlying61 rfl o7 ?_)
            refine WR.kT rfl rfl (vb_t rfl hg1) rfl rfl (OS.bin (a := vI (t.at_.length : Int)) (b := vI (16 : Int)) rfl rfl rfl bI_geq ?_)
            refine WR.kT rfl rfl (vb_f rfl hg) rfl rfl (OS.pickT rfl (vb_t rfl hg1) rfl ?_)
            refine WR.nil ?_
            exact ⟨rfl, rfl, rfl, rfl, rfl, (and_t hg1), rfl⟩
          · refine WR.gF rfl rfl (vb_f rfl hg1) rfl rfl ?_
            refine WR.gF rfl rfl (vb_f rfl hg1) rfl rfl ?_
            refine WR.gF rfl rfl (vb_f rfl hg1) rfl rfl ?_
            refine WR.gF rfl rfl (vb_f rfl hg1) rfl rfl ?_
            refine WR.gF rfl rfl (vb_f rfl hg1) rfl rfl ?_
            refine WR.gF rfl rfl (vb_f rfl hg1) rfl rfl ?_
            refine WR.kT rfl rfl (vb_f rfl hg) rfl rfl (OS.pickF rfl (vb_f rfl hg1) rfl ?_)
            refine WR.nil ?_
            exact ⟨rfl, rfl, rfl, rfl, rfl, (and_f hg1), rfl⟩
        · rintro f_1 _ ⟨h, h1, h2, h3, h4, h5, rfl⟩
          refine WR.k rfl rfl rfl (OS.pickF rfl (vb_f h4 hg) h5 ?_)
          refine WR.nil ?_
          exact ⟨h, h1, h2, h3, (or_f hg), rfl⟩
    · rintro f_ _ ⟨h6, h7, h8, h9, h10, rfl⟩
      refine WR.k rfl rfl rfl (OS.assign (v := vB ((decide ((16 : Int) ≤ r_.1)) || ((decide (r_.1 = (1 : Int))) && (decide ((16 : Int) ≤ (t.at_.length : Int)))))) rfl h10 ?_)
      refine WR.nil ?_
      refine WC.cond ((decide ((16 : Int) ≤ r_.1)) || ((decide (r_.1 = (1 : Int))) && (decide ((16 : Int) ≤ (t.at_.length : Int))))) rfl (fun hb1 => ?_) (fun hb1 => ?_)
      · rw [if_pos hb1] at hp
        refine WC.seq (WC.region ?_)
        refine WR.k rfl rfl rfl (OS.assign (v := vI (0 : Int)) rfl rfl ?_)
        refine WR.k rfl rfl rfl (OS.assign (v := vI (7 : Int)) rfl rfl ?_)
        refine WR.nil ?_
        refine WC.ret ?_
        repeat first | refine thenQ_ret ?_ | refine blkQ_ret ?_
        cases hp
        have o8 := o.keep s1 (by decide)
        have o9 := o1.keep s1 (by decide) (by decide)
        have o10 := o2.keep s1 (by decide) (by decide)
        exact fnQ.ls (fn := Tryz.f15) (rs := [.tmp 6, .tmp 7]) (vs := [vI (0 : Int), vI (7 : Int)]) rfl ⟨(.inl ⟨_, rfl, rfl⟩), (.inl ⟨_, rfl, rfl⟩), trivial⟩ ⟨_, _, _, rfl, s1.leave hcw (by decide), o8, o9, o10, hl⟩ (by simp)
      · rw [if_neg (nt hb1)] at hp
        refine WC.skip ?_
        refine WC.seq (WC.region ?_)
        refine WR.k rfl rfl rfl (OS.move (v := p_) rfl h6 ?_)
        have o11 := o.keep s1 (by decide)
        refine WR.k rfl rfl rfl (OS.nilCheckBx rfl rfl o11 ?_)
        refine WR.k rfl rfl rfl (OS.fieldAddrBx rfl Tryz.runUnderlying63 rfl Tryz.sizeOf61 rfl rfl o11 ?_); intro p_2 a2
        refine WR.k rfl rfl rfl (OS.ld1 (u := (.map (some b1))) rfl Tryz.isAgg61 rfl (o11.ldn a2 (sub_of rfl)) ?_)
        refine WR.k rfl rfl rfl (OS.move (v := vS tenant) rfl h7 ?_)
        refine WR.k rfl rfl rfl (OS.move (v := vS name) rfl h8 ?_)
        refine WR.k rfl rfl rfl (OS.build (v := .agg (E71.e (⟨tenant, name⟩ : S_keys_purpose)).toArray) [(0, vS tenant), (1, vS name)] rfl ⟨rfl, rfl, rfl, rfl, trivial⟩ (fun _ => by kernel_rfl) ?_)
        refine WR.k rfl rfl rfl (OS.move (v := vI r_.1) rfl h9 ?_)
        refine WR.k rfl rfl rfl (OS.bin (a := vI r_.1) (b := vI (1 : Int)) rfl rfl rfl bI_add ?_)
        have o12 := o2.keep s1 (by decide) (by decide)
        obtain ⟨m, hm, hp⟩ := bind_some hp
        replace hm := (Option.some.inj hm).symm
        refine WR.k0 rfl rfl (OS.mapUpd (q := W (r_.1 + (1 : Int))) (a := (⟨tenant, name⟩ : S_keys_purpose)) (.inl rfl) K71 Tryz.underlying61 rfl rfl rfl o12 rfl (by decide) ?_); intro w_3 o13 s2
        replace o13 : Mp kv71 (VR.flat vv3) 5 w_3 c_ (.map (some b1)) m := by rw [hm]; exact o13
        refine WR.nil ?_
        refine WC.seq (WC.region ?_)
        refine WR.k rfl rfl rfl (OS.move (v := vI r_.1) rfl h9 ?_)
        refine WR.k rfl rfl rfl (OS.bin (a := vI r_.1) (b := vI (1 : Int)) rfl rfl rfl bI_add ?_)
        refine WR.k rfl rfl rfl (OS.assign (v := vI (W (r_.1 + (1 : Int)))) rfl rfl ?_)
        refine WR.k rfl rfl rfl (OS.assign (v := vI (0 : Int)) rfl rfl ?_)
        refine WR.nil ?_
        refine WC.ret ?_
        repeat first | refine thenQ_ret ?_ | refine blkQ_ret ?_
        cases hp
        have o14 := o11.keep s2 (by decide)
        have o15 := o1.keep (s1.t s2) (by decide) (by decide)
        exact fnQ.ls (fn := Tryz.f15) (rs := [.tmp 6, .tmp 7]) (vs := [vI (W (r_.1 + (1 : Int))), vI (0 : Int)]) rfl ⟨(.inl ⟨_, rfl, rfl⟩), (.inl ⟨_, rfl, rfl⟩), trivial⟩ ⟨_, _, _, rfl, (s1.t s2).leave hcw (by decide), o14, o15, o13, hl⟩ (by simp)

-- (*holdfast/keys.Tree).Open
set_option maxHeartbeats 4000000 in
theorem W23 (K : Nat) (w0 : World) (cw : Col) (hcw : ∀ b, cw b < 40) {t : S_keys_Tree} {tenant : List UInt8} {name : List UInt8} {sealed : List UInt8} {r : (List UInt8) × Int × Int} (hp : keys_Tree_Open K t tenant name sealed = some r) {b : Nat} {b1 : Nat} {p_ : Value} (o : Bx 3 w0 cw p_ (fa 32 t.root ++ [vI t.sealed, (.map (some b)), (.map (some b1))])) (hl : t.root.length = 32) (o1 : Mp kv9 (VR.flat vv4) 4 w0 cw (.map (some b)) t.gone) (o2 : Mp kv71 (VR.flat vv3) 5 w0 cw (.map (some b1)) t.at_) {i : Nat} (hi : i ≤ 1) {v_ : Value} (o3 : Vw E5 i w0 cw v_ sealed) {gi0 : Nat} (hgi0 : gi0 ≤ 1) (og0 : Arr E76 gi0 w0 cw (.pointer (some ⟨0, 0, none⟩)) tab0) {gi7 : Nat} (hgi7 : gi7 ≤ 1) (og7 : Arr E5 gi7 w0 cw (.pointer (some ⟨7, 0, none⟩)) tab7) :
    Calls Tryz.prog 23 [p_, vS tenant, vS name, v_].toArray w0 fun e w1 => ∃ (sl1 : Sl) (d : Col), e = .returned (.tuple #[sl1.val, vI r.2.1, vI r.2.2]) ∧ St [] w0 cw w1 d ∧ Ow E5 2000 w1 d sl1.val r.1 := by
  refine calls_intro Tryz.func23 rfl Tryz.ntmps23 rfl ?_
  unfold keys_Tree_Open at hp
  refine WC.seq (WC.region ?_)
  refine WR.k rfl rfl rfl (OS.assign (v := (.slice none 0 0)) rfl rfl ?_)
  refine WR.k rfl rfl rfl (OS.assign (v := vI (0 : Int)) rfl rfl ?_)
  refine WR.k rfl rfl rfl (OS.assign (v := vI (0 : Int)) rfl rfl ?_)
  refine WR.nil ?_
  refine WC.seq (WC.region ?_)
  refine WR.k rfl rfl rfl (OS.move (v := p_) rfl rfl ?_)
  refine WR.k rfl rfl rfl (OS.move (v := vS tenant) rfl rfl ?_)
  refine WR.k rfl rfl rfl (OS.move (v := vS name) rfl rfl ?_)
  obtain ⟨r_, hr_, hp⟩ := bind_some hp
  refine WR.k rfl rfl rfl (OS.callF (vs := [p_, vS tenant, vS name]) rfl ⟨rfl, rfl, rfl, trivial⟩ Tryz.call13 ((W13 K w0 (rcc [3, 4, 5] cw) (rcc_lt cw rfl) hr_ (o.tr (rc_tr (by decide))) hl (o1.tr (rc_tr (by decide))) (o2.tr (rc_tr (by decide)))).mono ?_))
  rintro _ w_ ⟨d1, rfl, s⟩
  refine ⟨_, rfl, ?_⟩
  obtain ⟨c_, s1⟩ : ∃ c_, St [] w0 cw w_ c_ := ⟨_, s.mg2 (sh := 10000) rfl⟩
  refine WR.k rfl rfl rfl (OS.move (v := .tuple #[vI r_.1, vI r_.2]) rfl rfl ?_)
  refine WR.k rfl rfl rfl (OS.extract (v := vI r_.1) rfl rfl rfl ?_)
  refine WR.k rfl rfl rfl (OS.extract (v := vI r_.2) rfl rfl rfl ?_)
  refine WR.k rfl rfl rfl (OS.assign (v := vI r_.1) rfl rfl ?_)
  refine WR.k rfl rfl rfl (OS.assign (v := vI r_.2) rfl rfl ?_)
  refine WR.nil ?_
  refine WC.seq ?_
  refine WC.seq (WC.region ?_)
  refine WR.k rfl rfl rfl (OS.move (v := vI r_.2) rfl rfl ?_)
  refine WR.k rfl rfl rfl (OS.bin (a := vI r_.2) (b := vI (0 : Int)) rfl rfl rfl bI_eql ?_)
  refine WR.k rfl rfl rfl (OS.move (v := vB (decide (r_.2 = (0 : Int)))) rfl rfl ?_)
  refine WR.cut2 4 (fun f_ w_1 => f_ 0 = p_ ∧ f_ 1 = vS tenant ∧ f_ 2 = vS name ∧ f_ 3 = v_ ∧ f_ 12 = vI r_.2 ∧ f_ 30 = vB ((decide (r_.2 = (0 : Int))) && (decide ((sealed.length : Int) = (0 : Int)))) ∧ w_ = w_1) ?_ ?_
  · rcases Bool.eq_false_or_eq_true (decide (r_.2 = (0 : Int))) with hg | hg
    · refine WR.kT rfl rfl (vb_t rfl hg) rfl rfl (OS.move (v := v_) rfl rfl ?_)
      have o4 := o3.keep s1 (nin hi (by decide))
      refine WR.kT rfl rfl (vb_t rfl hg) rfl rfl (OS.lenSl rfl Tryz.runUnderlying25 rfl o4.isSl ?_)
      refine WR.kT rfl rfl (vb_t rfl hg) rfl rfl (OS.bin (a := vI (sealed.length : Int)) (b := vI (0 : Int)) rfl rfl rfl bI_eql ?_)
      refine WR.k rfl rfl rfl (OS.pickT rfl (vb_t rfl hg) rfl ?_)
      refine WR.nil ?_
      exact ⟨rfl, rfl, rfl, rfl, rfl, (and_t hg), rfl⟩
    · refine WR.gF rfl rfl (vb_f rfl hg) rfl rfl ?_
      refine WR.gF rfl rfl (vb_f rfl hg) rfl rfl ?_
      refine WR.gF rfl rfl (vb_f rfl hg) rfl rfl ?_
      refine WR.k rfl rfl rfl (OS.pickF rfl (vb_f rfl hg) rfl ?_)
      refine WR.nil ?_
      exact ⟨rfl, rfl, rfl, rfl, rfl, (and_f hg), rfl⟩
  · rintro f_ _ ⟨h, h1, h2, h3, h4, h5, rfl⟩
    refine WR.nil ?_
    refine WC.endJ (fun f_1 w_2 => ∃ (e1 : Int), keys_Tree_Open.j1 K sealed t tenant name e1 = some r ∧ f_1 0 = p_ ∧ f_1 1 = vS tenant ∧ f_1 2 = vS name ∧ f_1 3 = v_ ∧ f_1 12 = vI e1 ∧ w_ = w_2) ?_ ?_
    · refine WC.cond ((decide (r_.2 = (0 : Int))) && (decide ((sealed.length : Int) = (0 : Int)))) h5 (fun hb => ?_) (fun hb => ?_)
      · rw [if_pos hb] at hp
        refine WC.region ?_
        refine WR.k rfl rfl rfl (OS.assign (v := vI (3 : Int)) rfl rfl ?_)
        refine WR.nil ?_
        exact ⟨_, hp, h, h1, h2, h3, rfl, rfl⟩
      · rw [if_neg (nt hb)] at hp
        refine WC.skip ?_
        exact ⟨_, hp, h, h1, h2, h3, h4, rfl⟩
    · rintro f_1 _ ⟨e1, hp, h6, h7, h8, h9, h10, rfl⟩
      unfold keys_Tree_Open.j1 at hp
      refine WC.seq ?_
      refine WC.seq (WC.region ?_)
      refine WR.k rfl rfl rfl (OS.move (v := vI e1) rfl h10 ?_)
      refine WR.k rfl rfl rfl (OS.bin (a := vI e1) (b := vI (0 : Int)) rfl rfl rfl bI_neq ?_)
      refine WR.nil ?_
      refine WC.cond (!decide (e1 = (0 : Int))) rfl (fun hb1 => ?_) (fun hb1 => ?_)
      · rw [if_pos hb1] at hp
        refine WC.seq (WC.region ?_)
        refine WR.k rfl rfl rfl (OS.move (v := vI e1) rfl h10 ?_)
        refine WR.k rfl rfl rfl (OS.assign (v := (.slice none 0 0)) rfl rfl ?_)
        refine WR.k rfl rfl rfl (OS.assign (v := vI (0 : Int)) rfl rfl ?_)
        refine WR.k rfl rfl rfl (OS.assign (v := vI e1) rfl rfl ?_)
        refine WR.nil ?_
        refine WC.ret ?_
        repeat first | refine thenQ_ret ?_ | refine blkQ_ret ?_
        cases hp
        exact fnQ.ls (fn := Tryz.f23) (rs := [.tmp 8, .tmp 9, .tmp 10]) (vs := [(.slice none 0 0), vI (0 : Int), vI e1]) rfl ⟨(.inl ⟨_, rfl, rfl⟩), (.inl ⟨_, rfl, rfl⟩), (.inl ⟨_, rfl, rfl⟩), trivial⟩ ⟨⟨none, 0, 0⟩, _, rfl, s1.leave hcw (by decide), Ow.nil⟩ (by simp)
      · rw [if_neg (nt hb1)] at hp
        refine WC.skip ?_
        refine WC.seq (WC.region ?_)
        refine WR.k rfl rfl rfl (OS.move (v := v_) rfl h9 ?_)
        have o5 := o3.keep s1 (nin hi (by decide))
        obtain ⟨e2, he2, hp⟩ := bind_some hp
        obtain ⟨ha, hb2, hc⟩ := gt_some he2
        refine WR.k rfl rfl rfl (OS.idx rfl Tryz.runUnderlying25 Tryz.sizeOf5 rfl o5.isSl rfl ha hb2 ?_); intro p_1 a1
        refine WR.k rfl rfl rfl (OS.ld1 (u := vU8 e2) rfl Tryz.isAgg5 rfl (o5.ld a1 hc) ?_)
        refine WR.k rfl rfl rfl (OS.conv rfl Tryz.runUnderlying5 Tryz.runUnderlying3 rfl (cv_8i _) ?_)
        refine WR.k rfl rfl rfl (OS.assign (v := vI (e2.toNat : Int)) rfl rfl ?_)
        refine WR.nil ?_
        refine WC.seq (WC.region ?_)
        refine WR.k rfl rfl rfl (OS.move (v := p_) rfl h6 ?_)
        refine WR.k rfl rfl rfl (OS.move (v := vS tenant) rfl h7 ?_)
        refine WR.k rfl rfl rfl (OS.move (v := vS name) rfl h8 ?_)
        refine WR.k rfl rfl rfl (OS.move (v := vI (e2.toNat : Int)) rfl rfl ?_)
        have o6 := o.keep s1 (by decide)
        have o7 := o1.keep s1 (by decide) (by decide)
        have o8 := o2.keep s1 (by decide) (by decide)
        have og := og0.keep s1 (nin hgi0 (by decide))
        have og1 := og7.keep s1 (nin hgi7 (by decide))
        obtain ⟨r_1, hr_1, hp⟩ := bind_some hp
        refine WR.k rfl rfl rfl (OS.callF (vs := [p_, vS tenant, vS name, vI (e2.toNat : Int)]) rfl ⟨rfl, rfl, rfl, rfl, trivial⟩ Tryz.call14 ((W14 (gi0 := gi0) (gi7 := gi7) K w_ (rcc [3, 4, 5] c_) (rcc_lt c_ rfl) hr_1 (o6.tr (rc_tr (by decide))) hl (o7.tr (rc_tr (by decide))) (o8.tr (rc_tr (by decide))) hgi0 (og.tr (rc_tr (rc_low hgi0 rfl))) hgi7 (og1.tr (rc_tr (rc_low hgi7 rfl)))).mono ?_))
        rintro _ w_3 ⟨d2, rfl, s2, hl1⟩
        refine ⟨_, rfl, ?_⟩
        obtain ⟨c_3, s3⟩ : ∃ c_3, St [] w_ c_ w_3 c_3 := ⟨_, s2.mg2 (sh := 20000) rfl⟩
        refine WR.k rfl rfl rfl (OS.move (v := .tuple #[.agg (fl E5 r_1.1).toArray, vI r_1.2]) rfl rfl ?_)
        refine WR.k rfl rfl rfl (OS.extract (v := .agg (fl E5 r_1.1).toArray) rfl rfl rfl ?_)
        refine WR.k rfl rfl rfl (OS.extract (v := vI r_1.2) rfl rfl rfl ?_)
        refine WR.k rfl rfl rfl (OS.allocArr (E := E5) (xs := (List.replicate 32 (0 : UInt8))) (c := c_3) 40 rfl Tryz.zeroValue23 (by kernel_rfl) ?_); intro p_2 w_4 c_4 o9 s4
        refine WR.k0 rfl rfl (OS.stArrAll rfl Tryz.sizeOf23 rfl rfl o9 (by rw [fl_length, hl1]; rfl) (Eq.trans (List.length_replicate (n := 32) (a := (0 : UInt8))) (Eq.symm hl1)) ?_); intro w_5 o10 s5
        have hl2 : r_1.1.length = 32 := hl1
        refine WR.k rfl rfl rfl (OS.assign (v := vI r_1.2) rfl rfl ?_)
        refine WR.nil ?_
        refine WC.seq ?_
        refine WC.seq (WC.region ?_)
        refine WR.k rfl rfl rfl (OS.move (v := vI r_1.2) rfl rfl ?_)
        refine WR.k rfl rfl rfl (OS.bin (a := vI r_1.2) (b := vI (0 : Int)) rfl rfl rfl bI_neq ?_)
        refine WR.nil ?_
        refine WC.cond (!decide (r_1.2 = (0 : Int))) rfl (fun hb3 => ?_) (fun hb3 => ?_)
        · rw [if_pos hb3] at hp
          refine WC.seq (WC.region ?_)
          refine WR.k rfl rfl rfl (OS.move (v := vI r_1.2) rfl rfl ?_)
          refine WR.k rfl rfl rfl (OS.assign (v := (.slice none 0 0)) rfl rfl ?_)
          refine WR.k rfl rfl rfl (OS.assign (v := vI (0 : Int)) rfl rfl ?_)
          refine WR.k rfl rfl rfl (OS.assign (v := vI r_1.2) rfl rfl ?_)
          refine WR.nil ?_
          refine WC.ret ?_
          repeat first | refine thenQ_ret ?_ | refine blkQ_ret ?_
          cases hp
          exact fnQ.ls (fn := Tryz.f23) (rs := [.tmp 8, .tmp 9, .tmp 10]) (vs := [(.slice none 0 0), vI (0 : Int), vI r_1.2]) rfl ⟨(.inl ⟨_, rfl, rfl⟩), (.inl ⟨_, rfl, rfl⟩), (.inl ⟨_, rfl, rfl⟩), trivial⟩ ⟨⟨none, 0, 0⟩, _, rfl, (((s1.t s3).t s4).t s5).leave hcw (by decide), Ow.nil⟩ (by simp)
        · rw [if_neg (nt hb3)] at hp
          refine WC.skip ?_
          have o11 := o5.keep ((s3.t s4).t s5) (nin hi (by decide))
          obtain ⟨ys1, hys1, hp⟩ := bind_some hp
          obtain ⟨ha1, hb4, hc1, hys1⟩ := sub_some hys1
          obtain ⟨r_2, hr_2, hp⟩ := bind_some hp
          refine WC.seq (WC.draw3 (c := c_4) ⟨10, [[], [], [0, 1], [32000], [], [], [], [], [], []], [[], [], [], [], [], [], [], [], [], []], [], [[], [], [1], [0, 2], [3], [3, 4], [3, 4], [3, 4], [3, 4, 5], [6]], [3, 4, 5, 7, 8]⟩ [[], [], [], [], [], [], [], [], [], []] [[50], [51], [52], [53], [49, 53], [49, 54], [55], [56], [15, 54], [16]] [fun yf yw yc => (yf 50) = .agg (fl E5 r_1.1).toArray, fun yf yw yc => (yf 51) = v_, fun yf yw yc => Vw E5 i yw yc ((yf 52)) ys1, fun yf yw yc => ∃ (sl : Sl), (yf 53) = .tuple #[sl.val, vU64 r_2.2.1, vI r_2.2.2] ∧ Ow E5 32000 yw yc sl.val r_2.1, fun yf yw yc => (yf 49) = (yf 53), fun yf yw yc => (yf 54) = prj 0 (yf 49), fun yf yw yc => (yf 55) = vU64 r_2.2.1, fun yf yw yc => (yf 56) = vI r_2.2.2, fun yf yw yc => (yf 15) = (yf 54), fun yf yw yc => (yf 16) = vU64 r_2.2.1] hmix (by kernel_rfl) (by kernel_rfl) ⟨?_, ?_, ?_, ?_, ?_, ?_, ?_, ?_, ?_, ?_, trivial⟩ ⟨fun y1 y2 yw yc yI yw1 yc1 yh ye ys yk => by obtain ⟨ye0, -⟩ := ye; show (y2 50) = .agg (fl E5 r_1.1).toArray; rw [ye0]; exact yh, fun y1 y2 yw yc yI yw1 yc1 yh ye ys yk => by obtain ⟨ye0, -⟩ := ye; show (y2 51) = v_; rw [ye0]; exact yh, fun y1 y2 yw yc yI yw1 yc1 yh ye ys yk => by obtain ⟨ye0, -⟩ := ye; replace yh : Vw E5 i yw yc ((y1 52)) ys1 := yh; have h2 := yh.keep ys (low01 hi (yk 0 (by simp)) (yk 1 (by simp))); show Vw E5 i yw1 yc1 ((y2 52)) ys1; rw [ye0]; exact h2, fun y1 y2 yw yc yI yw1 yc1 yh ye ys yk => by obtain ⟨ye0, -⟩ := ye; obtain ⟨sl, yg, o12⟩ := yh; exact ⟨sl, (by rw [ye0]; exact yg), o12.keep ys (yk _ (by simp))⟩, fun y1 y2 yw yc yI yw1 yc1 yh ye ys yk => by obtain ⟨ye0, ye1, -⟩ := ye; show (y2 49) = (y2 53); rw [ye0, ye1]; exact yh, fun y1 y2 yw yc yI yw1 yc1 yh ye ys yk => by obtain ⟨ye0, ye1, -⟩ := ye; show (y2 54) = prj 0 (y2 49); rw [ye0, ye1]; exact yh, fun y1 y2 yw yc yI yw1 yc1 yh ye ys yk => by obtain ⟨ye0, -⟩ := ye; show (y2 55) = vU64 r_2.2.1; rw [ye0]; exact yh, fun y1 y2 yw yc yI yw1 yc1 yh ye ys yk => by obtain ⟨ye0, -⟩ := ye; show (y2 56) = vI r_2.2.2; rw [ye0]; exact yh, fun y1 y2 yw yc yI yw1 yc1 yh ye ys yk => by obtain ⟨ye0, ye1, -⟩ := ye; show (y2 15) = (y2 54); rw [ye0, ye1]; exact yh, fun y1 y2 yw yc yI yw1 yc1 yh ye ys yk => by obtain ⟨ye0, -⟩ := ye; show (y2 16) = vU64 r_2.2.1; rw [ye0]; exact yh, trivial⟩ ?_)
          · rintro f_2 w_6 c_5 hB hs ⟨-⟩ o ho; obtain rfl : _ = o := Option.some.inj ho
            have o13 := o10.keep hs (by decide)
            exact OS.ldN rfl Tryz.isAgg23 Tryz.sizeOf23 ((hB 14 (by kernel_rfl)).trans (show _ = p_2 from rfl)) o13.ldAll (by rw [fl_length, hl2]; rfl) ⟨_, St.refl, rfl⟩
          · rintro f_3 w_7 c_6 hB1 hs1 ⟨-⟩ o ho; obtain rfl : _ = o := Option.some.inj ho
            exact OS.move (v := v_) rfl ((hB1 3 (by kernel_rfl)).trans h9) ⟨_, St.refl, rfl⟩
          · rintro f_4 w_8 c_7 hB2 hs2 ⟨g, -⟩ o ho; obtain rfl : _ = o := Option.some.inj ho
            replace g : (f_4 51) = v_ := g
            have o14 := o5.keep (((s3.t s4).t s5).t hs2) (nin hi (by decide))
            exact OS.sliceV (E := E5) rfl Tryz.underlying25 Tryz.sizeOf5 g o14 (Bd.some rfl ha1) Bd.none rfl (by omega) (by omega) (fun _ h => ⟨_, St.refl, (by rw [hys1]; exact h)⟩)
          · rintro f_5 w_9 c_8 hB3 hs3 ⟨g1, g2, -⟩ o ho; obtain rfl : _ = o := Option.some.inj ho
            replace g1 : (f_5 50) = .agg (fl E5 r_1.1).toArray := g1
            replace g2 : Vw E5 i w_9 c_8 ((f_5 52)) ys1 := g2
            refine OS.callF (vs := [.agg (fl E5 r_1.1).toArray, (f_5 52)]) rfl ⟨g1, rfl, trivial⟩ Tryz.call46 ((V46 (i1 := i) K w_9 (rcc [] c_8) (rcc_lt c_8 rfl) hr_2 hl2 hi ((g2).tr (rc_tr (rc_low hi rfl)))).mono ?_)
            rintro _ yw ⟨sl, yd, rfl, ys, o12⟩
            exact ⟨_, rfl, _, ys.mg2 (I := []) (sh := 30000) rfl, sl, rfl, (o12.tr (mg2_back ys rfl))⟩
          · rintro f_6 w_10 c_9 hB4 hs4 ⟨g3, -⟩ o ho; obtain rfl : _ = o := Option.some.inj ho
            replace g3 : ∃ (sl : Sl), (f_6 53) = .tuple #[sl.val, vU64 r_2.2.1, vI r_2.2.2] ∧ Ow E5 32000 w_10 c_9 sl.val r_2.1 := g3
            obtain ⟨sl, g3, o12⟩ := g3
            exact OS.move (v := .tuple #[sl.val, vU64 r_2.2.1, vI r_2.2.2]) rfl g3 ⟨_, St.refl, (show .tuple #[sl.val, vU64 r_2.2.1, vI r_2.2.2] = (f_6 53) from g3.symm)⟩
          · rintro f_7 w_11 c_10 hB5 hs5 ⟨g4, g5, -⟩ o ho; obtain rfl : _ = o := Option.some.inj ho
            replace g4 : ∃ (sl : Sl), (f_7 53) = .tuple #[sl.val, vU64 r_2.2.1, vI r_2.2.2] ∧ Ow E5 32000 w_11 c_10 sl.val r_2.1 := g4
            obtain ⟨sl, g4, o12⟩ := g4
            replace g5 : (f_7 49) = (f_7 53) := g5
            replace g5 : (f_7 49) = .tuple #[sl.val, vU64 r_2.2.1, vI r_2.2.2] := g5.trans g4
            exact OS.extract (v := sl.val) rfl g5 rfl ⟨_, St.refl, (show sl.val = prj 0 (f_7 49) from by rw [g5]; rfl)⟩
          · rintro f_8 w_12 c_11 hB6 hs6 ⟨g6, g7, -⟩ o ho; obtain rfl : _ = o := Option.some.inj ho
            replace g6 : ∃ (sl : Sl), (f_8 53) = .tuple #[sl.val, vU64 r_2.2.1, vI r_2.2.2] ∧ Ow E5 32000 w_12 c_11 sl.val r_2.1 := g6
            obtain ⟨sl, g6, o12⟩ := g6
            replace g7 : (f_8 49) = (f_8 53) := g7
            replace g7 : (f_8 49) = .tuple #[sl.val, vU64 r_2.2.1, vI r_2.2.2] := g7.trans g6
            exact OS.extract (v := vU64 r_2.2.1) rfl g7 rfl ⟨_, St.refl, rfl⟩
          · rintro f_9 w_13 c_12 hB7 hs7 ⟨g8, g9, -⟩ o ho; obtain rfl : _ = o := Option.some.inj ho
            replace g8 : ∃ (sl : Sl), (f_9 53) = .tuple #[sl.val, vU64 r_2.2.1, vI r_2.2.2] ∧ Ow E5 32000 w_13 c_12 sl.val r_2.1 := g8
            obtain ⟨sl, g8, o12⟩ := g8
            replace g9 : (f_9 49) = (f_9 53) := g9
            replace g9 : (f_9 49) = .tuple #[sl.val, vU64 r_2.2.1, vI r_2.2.2] := g9.trans g8
            exact OS.extract (v := vI r_2.2.2) rfl g9 rfl ⟨_, St.refl, rfl⟩
          · rintro f_10 w_14 c_13 hB8 hs8 ⟨g10, g11, g12, -⟩ o ho; obtain rfl : _ = o := Option.some.inj ho
            replace g10 : ∃ (sl : Sl), (f_10 53) = .tuple #[sl.val, vU64 r_2.2.1, vI r_2.2.2] ∧ Ow E5 32000 w_14 c_13 sl.val r_2.1 := g10
            obtain ⟨sl, g10, o12⟩ := g10
            replace g11 : (f_10 49) = (f_10 53) := g11
            replace g11 : (f_10 49) = .tuple #[sl.val, vU64 r_2.2.1, vI r_2.2.2] := g11.trans g10
            replace g12 : (f_10 54) = prj 0 (f_10 49) := g12
            replace g12 : (f_10 54) = sl.val := g12.trans (by rw [g11]; rfl)
            exact OS.assign (v := sl.val) rfl g12 ⟨_, St.refl, (show sl.val = (f_10 54) from g12.symm)⟩
          · rintro f_11 w_15 c_14 hB9 hs9 ⟨g13, -⟩ o ho; obtain rfl : _ = o := Option.some.inj ho
            replace g13 : (f_11 55) = vU64 r_2.2.1 := g13
            exact OS.assign (v := vU64 r_2.2.1) rfl g13 ⟨_, St.refl, rfl⟩
          · rintro f_12 w_16 c_15 hB10 hs10 ⟨g14, g15, g16, g17, g18, -⟩
            replace g14 : ∃ (sl : Sl), (f_12 53) = .tuple #[sl.val, vU64 r_2.2.1, vI r_2.2.2] ∧ Ow E5 32000 w_16 c_15 sl.val r_2.1 := g14
            obtain ⟨sl, g14, o12⟩ := g14
            replace g15 : (f_12 49) = (f_12 53) := g15
            replace g15 : (f_12 49) = .tuple #[sl.val, vU64 r_2.2.1, vI r_2.2.2] := g15.trans g14
            replace g16 : (f_12 54) = prj 0 (f_12 49) := g16
            replace g16 : (f_12 54) = sl.val := g16.trans (by rw [g15]; rfl)
            replace g17 : (f_12 56) = vI r_2.2.2 := g17
            replace g18 : (f_12 15) = (f_12 54) := g18
            replace g18 : (f_12 15) = sl.val := g18.trans g16
            have h11 := (hB10 0 (by kernel_rfl)).trans h6
            have h12 := (hB10 13 (by kernel_rfl)).trans (show _ = vI (e2.toNat : Int) from rfl)
            refine WR.k rfl rfl rfl (OS.assign (v := vI r_2.2.2) rfl g17 ?_)
            refine WR.nil ?_
            refine WC.seq ?_
            refine WC.seq (WC.region ?_)
            refine WR.k rfl rfl rfl (OS.move (v := vI r_2.2.2) rfl rfl ?_)
            refine WR.k rfl rfl rfl (OS.bin (a := vI r_2.2.2) (b := vI (0 : Int)) rfl rfl rfl bI_neq ?_)
            refine WR.nil ?_
            refine WC.cond (!decide (r_2.2.2 = (0 : Int))) rfl (fun hb5 => ?_) (fun hb5 => ?_)
            · rw [if_pos hb5] at hp
              refine WC.seq (WC.region ?_)
              refine WR.k rfl rfl rfl (OS.move (v := vI r_2.2.2) rfl rfl ?_)
              refine WR.k rfl rfl rfl (OS.assign (v := (.slice none 0 0)) rfl rfl ?_)
              refine WR.k rfl rfl rfl (OS.assign (v := vI (0 : Int)) rfl rfl ?_)
              refine WR.k rfl rfl rfl (OS.assign (v := vI r_2.2.2) rfl rfl ?_)
              refine WR.nil ?_
              refine WC.ret ?_
              repeat first | refine thenQ_ret ?_ | refine blkQ_ret ?_
              cases hp
              exact fnQ.ls (fn := Tryz.f23) (rs := [.tmp 8, .tmp 9, .tmp 10]) (vs := [(.slice none 0 0), vI (0 : Int), vI r_2.2.2]) rfl ⟨(.inl ⟨_, rfl, rfl⟩), (.inl ⟨_, rfl, rfl⟩), (.inl ⟨_, rfl, rfl⟩), trivial⟩ ⟨⟨none, 0, 0⟩, _, rfl, ((((s1.t s3).t s4).t s5).t hs10).leave hcw (by decide), Ow.nil⟩ (by simp)
            · rw [if_neg (nt hb5)] at hp
              refine WC.skip ?_
              refine WC.seq (WC.region ?_)
              refine WR.k rfl rfl rfl (OS.move (v := sl.val) rfl g18 ?_)
              refine WR.k rfl rfl rfl (OS.move (v := vI (e2.toNat : Int)) rfl h12 ?_)
              refine WR.k rfl rfl rfl (OS.assign (v := sl.val) rfl rfl ?_)
              refine WR.k rfl rfl rfl (OS.assign (v := vI (e2.toNat : Int)) rfl rfl ?_)
              refine WR.k rfl rfl rfl (OS.assign (v := vI (0 : Int)) rfl rfl ?_)
              refine WR.nil ?_
              refine WC.ret ?_
              repeat first | refine thenQ_ret ?_ | refine blkQ_ret ?_
              cases hp
              obtain ⟨c_16, s6, o15⟩ := o12.recol 2000
              exact fnQ.ls (fn := Tryz.f23) (rs := [.tmp 8, .tmp 9, .tmp 10]) (vs := [sl.val, vI (e2.toNat : Int), vI (0 : Int)]) rfl ⟨(.inl ⟨_, rfl, rfl⟩), (.inl ⟨_, rfl, rfl⟩), (.inl ⟨_, rfl, rfl⟩), trivial⟩ ⟨_, _, rfl, (((((s1.t s3).t s4).t s5).t hs10).t s6).leave hcw (by decide), o15⟩ (by simp)

-- holdfast/holdfastlaw09.live
set_option maxHeartbeats 4000000 in
theorem W11 (K : Nat) (w0 : World) (cw : Col) (hcw : ∀ b, cw b < 40) {r : Bool} (hp : holdfastlaw09_live K = some r) {gi0 : Nat} (hgi0 : gi0 ≤ 1) (og0 : Arr E76 gi0 w0 cw (.pointer (some ⟨0, 0, none⟩)) tab0) {gi7 : Nat} (hgi7 : gi7 ≤ 1) (og7 : Arr E5 gi7 w0 cw (.pointer (some ⟨7, 0, none⟩)) tab7) :
    Calls Tryz.prog 11 [].toArray w0 fun e w1 => ∃ (d : Col), e = .returned (vB r) ∧ St [] w0 cw w1 d := by
  refine calls_intro Tryz.func11 rfl Tryz.ntmps11 rfl ?_
  unfold holdfastlaw09_live at hp
  refine WC.seq (WC.region ?_)
  refine WR.k rfl rfl rfl (OS.assign (v := vB false) rfl rfl ?_)
  refine WR.nil ?_
  refine WC.seq (WC.region ?_)
  obtain ⟨l, hl, hp⟩ := bind_some hp
  replace hl := (Option.some.inj hl).symm
  have hl1 : l.length = 32 := by rw [hl]; rfl
  refine WR.k rfl rfl rfl (OS.build (v := .agg (fl E5 l).toArray) [(0, vU8 (1 : UInt8))] rfl ⟨rfl, (by kernel_rfl), trivial⟩ (fun _ => by rw [hl]; kernel_rfl) ?_)
  obtain ⟨r_, hr_, hp⟩ := bind_some hp
  refine WR.k rfl rfl rfl (OS.callF (vs := [.agg (fl E5 l).toArray]) rfl ⟨rfl, trivial⟩ Tryz.call9 ((W9 K w0 (rcc [] cw) (rcc_lt cw rfl) hr_ hl1).mono ?_))
  rintro _ w_ ⟨p_, b, b1, d1, rfl, s, o, o1, o2, hl2⟩
  refine ⟨_, rfl, ?_⟩
  obtain ⟨c_, s1, o, o1, o2⟩ : ∃ c_, St [] w0 cw w_ c_ ∧ Bx 12000 w_ c_ p_ (fa 32 r_.root ++ [vI r_.sealed, (.map (some b)), (.map (some b1))]) ∧ Mp kv9 (VR.flat vv4) 12001 w_ c_ (.map (some b)) r_.gone ∧ Mp kv71 (VR.flat vv3) 12002 w_ c_ (.map (some b1)) r_.at_ := ⟨_, s.mg2 (sh := 10000) rfl, (o.tr (mg2_back s rfl)), (o1.tr (mg2_back s rfl)), (o2.tr (mg2_back s rfl))⟩
  refine WR.k rfl rfl rfl (OS.assign (v := p_) rfl rfl ?_)
  refine WR.nil ?_
  refine WC.seq ?_
  refine WC.seq (WC.region ?_)
  refine WR.k rfl rfl rfl (OS.move (v := p_) rfl rfl ?_)
  refine WR.k rfl rfl rfl (OS.eqPtrS rfl (.inl ⟨rfl, rfl⟩) Tryz.underlying28 rfl o rfl ?_)
  refine WR.nil ?_
  refine WC.condF rfl ?_
  refine WC.skip ?_
  refine WC.seq (WC.region ?_)
  refine WR.k rfl rfl rfl (OS.move (v := p_) rfl rfl ?_)
  obtain ⟨l3, hl3, hp⟩ := bind_some hp
  replace hl3 := (Option.some.inj hl3).symm
  refine WR.k rfl rfl rfl (OS.bslice (E := E5) (c := c_) 40 ([(120 : UInt8)] : List UInt8) [(0, vU8 (120 : UInt8))] rfl ⟨rfl, (by kernel_rfl), trivial⟩ (fun _ => by kernel_rfl) rfl (by decide) ?_); intro v_ w_1 c_1 o3 s2
  replace o3 : Ow E5 40 w_1 c_1 v_ l3 := by rw [hl3]; exact o3
  refine WR.k rfl rfl rfl (OS.convSame (E := E5) rfl Tryz.underlying25 Tryz.underlying5 rfl o3 (by rw [hl3]; simp) ?_); intro w_2 o4 s3
  have o5 := o.keep (s2.t s3) (by decide)
  have o6 := o1.keep (s2.t s3) (by decide) (by decide)
  have o7 := o2.keep (s2.t s3) (by decide) (by decide)
  have og := og0.keep ((s1.t s2).t s3) (nin hgi0 (by decide))
  have og1 := og7.keep ((s1.t s2).t s3) (nin hgi7 (by decide))
  obtain ⟨r_1, hr_1, hp⟩ := bind_some hp
  refine WR.k rfl rfl rfl (OS.callF (vs := [p_, vS ([97] : List UInt8), vS ([109, 97, 105, 108] : List UInt8), v_]) rfl ⟨rfl, rfl, rfl, rfl, trivial⟩ Tryz.call17 ((W17 (i := 0) (gi0 := gi0) (gi7 := gi7) K w_2 (rcc [12000, 12001, 12002] c_1) (rcc_lt c_1 rfl) hr_1 (o5.tr (rc_tr (by decide))) hl2 (o6.tr (rc_tr (by decide))) (o7.tr (rc_tr (by decide))) (by decide) ((o4).tr (rc_tr (by decide))) hgi0 (og.tr (rc_tr (rc_low hgi0 rfl))) hgi7 (og1.tr (rc_tr (rc_low hgi7 rfl)))).mono ?_))
  rintro _ w_3 ⟨sl, b2, b3, d2, rfl, s4, o8, o9, o10, o11, hl4⟩
  refine ⟨_, rfl, ?_⟩
  obtain ⟨c_2, s5, o8, o9, o10, o11⟩ : ∃ c_2, St [12000, 12001, 12002] w_2 c_1 w_3 c_2 ∧ Ow E5 22000 w_3 c_2 sl.val r_1.1 ∧ Bx 12000 w_3 c_2 p_ (fa 32 r_1.2.2.root ++ [vI r_1.2.2.sealed, (.map (some b2)), (.map (some b3))]) ∧ Mp kv9 (VR.flat vv4) 12001 w_3 c_2 (.map (some b2)) r_1.2.2.gone ∧ Mp kv71 (VR.flat vv3) 12002 w_3 c_2 (.map (some b3)) r_1.2.2.at_ := ⟨_, s4.mg2 (sh := 20000) rfl, (o8.tr (mg2_back s4 rfl)), (o9.tr (mg2_back s4 rfl)), (o10.tr (mg2_back s4 rfl)), (o11.tr (mg2_back s4 rfl))⟩
  refine WR.k rfl rfl rfl (OS.move (v := .tuple #[sl.val, vI r_1.2.1]) rfl rfl ?_)
  refine WR.k rfl rfl rfl (OS.extract (v := sl.val) rfl rfl rfl ?_)
  refine WR.k rfl rfl rfl (OS.extract (v := vI r_1.2.1) rfl rfl rfl ?_)
  refine WR.k rfl rfl rfl (OS.assign (v := sl.val) rfl rfl ?_)
  refine WR.k rfl rfl rfl (OS.assign (v := vI r_1.2.1) rfl rfl ?_)
  refine WR.nil ?_
  refine WC.seq (WC.region ?_)
  refine WR.k rfl rfl rfl (OS.move (v := p_) rfl rfl ?_)
  obtain ⟨r_2, hr_2, hp⟩ := bind_some hp
  refine WR.k rfl rfl rfl (OS.callF (vs := [p_, vS ([97] : List UInt8), vS ([109, 97, 105, 108] : List UInt8)]) rfl ⟨rfl, rfl, rfl, trivial⟩ Tryz.call15 ((W15 K w_3 (rcc [12000, 12001, 12002] c_2) (rcc_lt c_2 rfl) hr_2 (o9.tr (rc_tr (by decide))) hl4 (o10.tr (rc_tr (by decide))) (o11.tr (rc_tr (by decide)))).mono ?_))
  rintro _ w_4 ⟨b4, b5, d3, rfl, s6, o12, o13, o14, hl5⟩
  refine ⟨_, rfl, ?_⟩
  obtain ⟨c_3, s7, o12, o13, o14⟩ : ∃ c_3, St [12000, 12001, 12002] w_3 c_2 w_4 c_3 ∧ Bx 12000 w_4 c_3 p_ (fa 32 r_2.2.2.root ++ [vI r_2.2.2.sealed, (.map (some b4)), (.map (some b5))]) ∧ Mp kv9 (VR.flat vv4) 12001 w_4 c_3 (.map (some b4)) r_2.2.2.gone ∧ Mp kv71 (VR.flat vv3) 12002 w_4 c_3 (.map (some b5)) r_2.2.2.at_ := ⟨_, s6.mg2 (sh := 30000) rfl, (o12.tr (mg2_back s6 rfl)), (o13.tr (mg2_back s6 rfl)), (o14.tr (mg2_back s6 rfl))⟩
  refine WR.k rfl rfl rfl (OS.move (v := .tuple #[vI r_2.1, vI r_2.2.1]) rfl rfl ?_)
  refine WR.k rfl rfl rfl (OS.extract (v := vI r_2.1) rfl rfl rfl ?_)
  refine WR.k rfl rfl rfl (OS.extract (v := vI r_2.2.1) rfl rfl rfl ?_)
  refine WR.k rfl rfl rfl (OS.assign (v := vI r_2.1) rfl rfl ?_)
  refine WR.k rfl rfl rfl (OS.assign (v := vI r_2.2.1) rfl rfl ?_)
  refine WR.nil ?_
  refine WC.seq (WC.region ?_)
  refine WR.k rfl rfl rfl (OS.move (v := p_) rfl rfl ?_)
  refine WR.k rfl rfl rfl (OS.move (v := sl.val) rfl rfl ?_)
  have o15 := o8.keep s7 (by decide)
  have og2 := og.keep (s5.t s7) (nin hgi0 (by decide))
  have og3 := og1.keep (s5.t s7) (nin hgi7 (by decide))
  obtain ⟨r_3, hr_3, hp⟩ := bind_some hp
  refine WR.k rfl rfl rfl (OS.callF (vs := [p_, vS ([97] : List UInt8), vS ([109, 97, 105, 108] : List UInt8), sl.val]) rfl ⟨rfl, rfl, rfl, rfl, trivial⟩ Tryz.call23 ((W23 (i := 0) (gi0 := gi0) (gi7 := gi7) K w_4 (rcc [12000, 12001, 12002] c_3) (rcc_lt c_3 rfl) hr_3 (o12.tr (rc_tr (by decide))) hl5 (o13.tr (rc_tr (by decide))) (o14.tr (rc_tr (by decide))) (by decide) ((o15.vw).tr (rc_tr (by decide))) hgi0 (og2.tr (rc_tr (rc_low hgi0 rfl))) hgi7 (og3.tr (rc_tr (rc_low hgi7 rfl)))).mono ?_))
  rintro _ w_5 ⟨sl1, d4, rfl, s8, o16⟩
  refine ⟨_, rfl, ?_⟩
  obtain ⟨c_4, s9, o16⟩ : ∃ c_4, St [] w_4 c_3 w_5 c_4 ∧ Ow E5 42000 w_5 c_4 sl1.val r_3.1 := ⟨_, s8.mg2 (sh := 40000) rfl, (o16.tr (mg2_back s8 rfl))⟩
  refine WR.k rfl rfl rfl (OS.move (v := .tuple #[sl1.val, vI r_3.2.1, vI r_3.2.2]) rfl rfl ?_)
  refine WR.k rfl rfl rfl (OS.extract (v := sl1.val) rfl rfl rfl ?_)
  refine WR.k rfl rfl rfl (OS.extract (v := vI r_3.2.1) rfl rfl rfl ?_)
  refine WR.k rfl rfl rfl (OS.extract (v := vI r_3.2.2) rfl rfl rfl ?_)
  refine WR.k rfl rfl rfl (OS.assign (v := sl1.val) rfl rfl ?_)
  refine WR.k rfl rfl rfl (OS.assign (v := vI r_3.2.1) rfl rfl ?_)
  refine WR.k rfl rfl rfl (OS.assign (v := vI r_3.2.2) rfl rfl ?_)
  refine WR.nil ?_
  refine WC.seq (WC.region ?_)
  refine WR.k rfl rfl rfl (OS.move (v := vI r_1.2.1) rfl rfl ?_)
  refine WR.k rfl rfl rfl (OS.bin (a := vI r_1.2.1) (b := vI (0 : Int)) rfl rfl rfl bI_eql ?_)
  refine WR.k rfl rfl rfl (OS.move (v := vB (decide (r_1.2.1 = (0 : Int)))) rfl rfl ?_)
  refine WR.cut2 3 (fun f_ w_6 => f_ 4 = vI r_2.1 ∧ f_ 6 = sl1.val ∧ f_ 7 = vI r_3.2.1 ∧ f_ 8 = vI r_3.2.2 ∧ f_ 37 = vB ((decide (r_1.2.1 = (0 : Int))) && (decide (r_2.2.1 = (0 : Int)))) ∧ w_5 = w_6) ?_ ?_
  · rcases Bool.eq_false_or_eq_true (decide (r_1.2.1 = (0 : Int))) with hg | hg
    · refine WR.kT rfl rfl (vb_t rfl hg) rfl rfl (OS.move (v := vI r_2.2.1) rfl rfl ?_)
      refine WR.kT rfl rfl (vb_t rfl hg) rfl rfl (OS.bin (a := vI r_2.2.1) (b := vI (0 : Int)) rfl rfl rfl bI_eql ?_)
      refine WR.k rfl rfl rfl (OS.pickT rfl (vb_t rfl hg) rfl ?_)
      refine WR.nil ?_
      exact ⟨rfl, rfl, rfl, rfl, (and_t hg), rfl⟩
    · refine WR.gF rfl rfl (vb_f rfl hg) rfl rfl ?_
      refine WR.gF rfl rfl (vb_f rfl hg) rfl rfl ?_
      refine WR.k rfl rfl rfl (OS.pickF rfl (vb_f rfl hg) rfl ?_)
      refine WR.nil ?_
      exact ⟨rfl, rfl, rfl, rfl, (and_f hg), rfl⟩
  · rintro f_ _ ⟨h, h1, h2, h3, h4, rfl⟩
    refine WR.k rfl rfl rfl (OS.move (v := vB ((decide (r_1.2.1 = (0 : Int))) && (decide (r_2.2.1 = (0 : Int))))) rfl h4 ?_)
    refine WR.cut2 3 (fun f_1 w_7 => f_1 6 = sl1.val ∧ f_1 7 = vI r_3.2.1 ∧ f_1 8 = vI r_3.2.2 ∧ f_1 41 = vB (((decide (r_1.2.1 = (0 : Int))) && (decide (r_2.2.1 = (0 : Int)))) && (decide (r_2.1 = (2 : Int)))) ∧ w_5 = w_7) ?_ ?_
    · rcases Bool.eq_false_or_eq_true ((decide (r_1.2.1 = (0 : Int))) && (decide (r_2.2.1 = (0 : Int)))) with hg1 | hg1
      · refine WR.kT rfl rfl (vb_t rfl hg1) rfl rfl (OS.move (v := vI r_2.1) rfl h ?_)
        refine WR.kT rfl rfl (vb_t rfl hg1) rfl rfl (OS.bin (a := vI r_2.1) (b := vI (2 : Int)) rfl rfl rfl bI_eql ?_)
        refine WR.k rfl rfl rfl (OS.pickT rfl (vb_t rfl hg1) rfl ?_)
        refine WR.nil ?_
        exact ⟨h1, h2, h3, (and_t hg1), rfl⟩
      · refine WR.gF rfl rfl (vb_f rfl hg1) rfl rfl ?_
        refine WR.gF rfl rfl (vb_f rfl hg1) rfl rfl ?_
        refine WR.k rfl rfl rfl (OS.pickF rfl (vb_f rfl hg1) rfl ?_)
        refine WR.nil ?_
        exact ⟨h1, h2, h3, (and_f hg1), rfl⟩
    · rintro f_1 _ ⟨h5, h6, h7, h8, rfl⟩
      refine WR.k rfl rfl rfl (OS.move (v := vB (((decide (r_1.2.1 = (0 : Int))) && (decide (r_2.2.1 = (0 : Int)))) && (decide (r_2.1 = (2 : Int))))) rfl h8 ?_)
      refine WR.cut2 3 (fun f_2 w_8 => f_2 6 = sl1.val ∧ f_2 7 = vI r_3.2.1 ∧ f_2 45 = vB ((((decide (r_1.2.1 = (0 : Int))) && (decide (r_2.2.1 = (0 : Int)))) && (decide (r_2.1 = (2 : Int)))) && (decide (r_3.2.2 = (0 : Int)))) ∧ w_5 = w_8) ?_ ?_
      · rcases Bool.eq_false_or_eq_true (((decide (r_1.2.1 = (0 : Int))) && (decide (r_2.2.1 = (0 : Int)))) && (decide (r_2.1 = (2 : Int)))) with hg2 | hg2
        · refine WR.kT rfl rfl (vb_t rfl hg2) rfl rfl (OS.move (v := vI r_3.2.2) rfl h7 ?_)
          refine WR.kT rfl rfl (vb_t rfl hg2) rfl rfl (OS.bin (a := vI r_3.2.2) (b := vI (0 : Int)) rfl rfl rfl bI_eql ?_)
          refine WR.k rfl rfl rfl (OS.pickT rfl (vb_t rfl hg2) rfl ?_)
          refine WR.nil ?_
          exact ⟨h5, h6, (and_t hg2), rfl⟩
        · refine WR.gF rfl rfl (vb_f rfl hg2) rfl rfl ?_
          refine WR.gF rfl rfl (vb_f rfl hg2) rfl rfl ?_
          refine WR.k rfl rfl rfl (OS.pickF rfl (vb_f rfl hg2) rfl ?_)
          refine WR.nil ?_
          exact ⟨h5, h6, (and_f hg2), rfl⟩
      · rintro f_2 _ ⟨h9, h10, h11, rfl⟩
        refine WR.k rfl rfl rfl (OS.move (v := vB ((((decide (r_1.2.1 = (0 : Int))) && (decide (r_2.2.1 = (0 : Int)))) && (decide (r_2.1 = (2 : Int)))) && (decide (r_3.2.2 = (0 : Int))))) rfl h11 ?_)
        refine WR.cut2 3 (fun f_3 w_9 => f_3 6 = sl1.val ∧ f_3 49 = vB (((((decide (r_1.2.1 = (0 : Int))) && (decide (r_2.2.1 = (0 : Int)))) && (decide (r_2.1 = (2 : Int)))) && (decide (r_3.2.2 = (0 : Int)))) && (decide (r_3.2.1 = (1 : Int)))) ∧ w_5 = w_9) ?_ ?_
        · rcases Bool.eq_false_or_eq_true ((((decide (r_1.2.1 = (0 : Int))) && (decide (r_2.2.1 = (0 : Int)))) && (decide (r_2.1 = (2 : Int)))) && (decide (r_3.2.2 = (0 : Int)))) with hg3 | hg3
          · refine WR.kT rfl rfl (vb_t rfl hg3) rfl rfl (OS.move (v := vI r_3.2.1) rfl h10 ?_)
            refine WR.kT rfl rfl (vb_t rfl hg3) rfl rfl (OS.bin (a := vI r_3.2.1) (b := vI (1 : Int)) rfl rfl rfl bI_eql ?_)
            refine WR.k rfl rfl rfl (OS.pickT rfl (vb_t rfl hg3) rfl ?_)
            refine WR.nil ?_
            exact ⟨h9, (and_t hg3), rfl⟩
          · refine WR.gF rfl rfl (vb_f rfl hg3) rfl rfl ?_
            refine WR.gF rfl rfl (vb_f rfl hg3) rfl rfl ?_
            refine WR.k rfl rfl rfl (OS.pickF rfl (vb_f rfl hg3) rfl ?_)
            refine WR.nil ?_
            exact ⟨h9, (and_f hg3), rfl⟩
        · rintro f_3 _ ⟨h12, h13, rfl⟩
          refine WR.k rfl rfl rfl (OS.move (v := vB (((((decide (r_1.2.1 = (0 : Int))) && (decide (r_2.2.1 = (0 : Int)))) && (decide (r_2.1 = (2 : Int)))) && (decide (r_3.2.2 = (0 : Int)))) && (decide (r_3.2.1 = (1 : Int))))) rfl h13 ?_)
          refine WR.cut2 4 (fun f_4 w_10 => f_4 54 = vB ((((((decide (r_1.2.1 = (0 : Int))) && (decide (r_2.2.1 = (0 : Int)))) && (decide (r_2.1 = (2 : Int)))) && (decide (r_3.2.2 = (0 : Int)))) && (decide (r_3.2.1 = (1 : Int)))) && (decide (r_3.1 = ([120] : List UInt8)))) ∧ w_5 = w_10) ?_ ?_
          · rcases Bool.eq_false_or_eq_true (((((decide (r_1.2.1 = (0 : Int))) && (decide (r_2.2.1 = (0 : Int)))) && (decide (r_2.1 = (2 : Int)))) && (decide (r_3.2.2 = (0 : Int)))) && (decide (r_3.2.1 = (1 : Int)))) with hg4 | hg4
            · refine WR.kT rfl rfl (vb_t rfl hg4) rfl rfl (OS.move (v := sl1.val) rfl h12 ?_)
              refine WR.kT rfl rfl (vb_t rfl hg4) rfl rfl (OS.bytesToStr rfl Tryz.underlying25 Tryz.underlying5 Tryz.underlying9 rfl o16.vw ?_)
              refine WR.kT rfl rfl (vb_t rfl hg4) rfl rfl (OS.bin (a := vS r_3.1) (b := vS ([120] : List UInt8)) rfl rfl rfl bS_eql ?_)
              refine WR.k rfl rfl rfl (OS.pickT rfl (vb_t rfl hg4) rfl ?_)
              refine WR.nil ?_
              exact ⟨(and_t hg4), rfl⟩
            · refine WR.gF rfl rfl (vb_f rfl hg4) rfl rfl ?_
              refine WR.gF rfl rfl (vb_f rfl hg4) rfl rfl ?_
              refine WR.gF rfl rfl (vb_f rfl hg4) rfl rfl ?_
              refine WR.k rfl rfl rfl (OS.pickF rfl (vb_f rfl hg4) rfl ?_)
              refine WR.nil ?_
              exact ⟨(and_f hg4), rfl⟩
          · rintro f_4 _ ⟨h14, rfl⟩
            refine WR.k rfl rfl rfl (OS.assign (v := vB ((((((decide (r_1.2.1 = (0 : Int))) && (decide (r_2.2.1 = (0 : Int)))) && (decide (r_2.1 = (2 : Int)))) && (decide (r_3.2.2 = (0 : Int)))) && (decide (r_3.2.1 = (1 : Int)))) && (decide (r_3.1 = ([120] : List UInt8))))) rfl h14 ?_)
            refine WR.nil ?_
            refine WC.ret ?_
            repeat first | refine thenQ_ret ?_ | refine blkQ_ret ?_
            cases hp
            exact fnQ.l1 (fn := Tryz.f11) rfl (.inl ⟨_, rfl, rfl⟩) ⟨_, rfl, (((((s1.t s2).t s3).t s5).t s7).t s9).leave hcw (by decide)⟩

-- (*holdfast/keys.Tree).Destroy
set_option maxHeartbeats 4000000 in
theorem W16n0 (K : Nat) (w0 : World) (cw : Col) (hcw : ∀ b, cw b < 40) {tenant : List UInt8} {r : Int} (hp : keys_Tree_Destroy_nil0 K tenant = some r) :
    Calls Tryz.prog 16 [.pointer none, vS tenant].toArray w0 fun e w1 => ∃ (d : Col), e = .returned (vI r) ∧ St [] w0 cw w1 d := by
  refine calls_intro Tryz.func16 rfl Tryz.ntmps16 rfl ?_
  unfold keys_Tree_Destroy_nil0 at hp
  refine WC.seq (WC.region ?_)
  refine WR.k rfl rfl rfl (OS.assign (v := vI (0 : Int)) rfl rfl ?_)
  refine WR.nil ?_
  refine WC.seq ?_
  refine WC.block ?_
  refine WC.seq (WC.region ?_)
  refine WR.k rfl rfl rfl (OS.move (v := .pointer none) rfl rfl ?_)
  refine WR.k rfl rfl rfl (OS.eqPtr (a := none) rfl (.inl ⟨rfl, rfl⟩) Tryz.underlying28 rfl rfl ?_)
  refine WR.k rfl rfl rfl (OS.assign (v := vB true) rfl rfl ?_)
  refine WR.nil ?_
  refine WC.condT rfl ?_
  refine WC.seq (WC.region ?_)
  refine WR.k rfl rfl rfl (OS.assign (v := vI (1 : Int)) rfl rfl ?_)
  refine WR.nil ?_
  refine WC.ret ?_
  repeat first | refine thenQ_ret ?_ | refine blkQ_ret ?_
  cases hp
  exact fnQ.l1 (fn := Tryz.f16) rfl (.inl ⟨_, rfl, rfl⟩) ⟨_, rfl, (St.refl.mono (by decide))⟩

-- (*holdfast/keys.Tree).Rows
set_option maxHeartbeats 4000000 in
theorem W21n0 (K : Nat) (w0 : World) (cw : Col) (hcw : ∀ b, cw b < 40) {r : Unit} (hp : keys_Tree_Rows_nil0 K = some r) :
    Calls Tryz.prog 21 [.pointer none].toArray w0 fun e w1 => ∃ (d : Col), e = .returned ((.slice none 0 0)) ∧ St [] w0 cw w1 d := by
  refine calls_intro Tryz.func21 rfl Tryz.ntmps21 rfl ?_
  unfold keys_Tree_Rows_nil0 at hp
  refine WC.seq (WC.region ?_)
  refine WR.k rfl rfl rfl (OS.assign (v := (.slice none 0 0)) rfl rfl ?_)
  refine WR.nil ?_
  refine WC.seq ?_
  refine WC.seq (WC.region ?_)
  refine WR.k rfl rfl rfl (OS.move (v := .pointer none) rfl rfl ?_)
  refine WR.k rfl rfl rfl (OS.eqPtr (a := none) rfl (.inl ⟨rfl, rfl⟩) Tryz.underlying28 rfl rfl ?_)
  refine WR.nil ?_
  refine WC.condT rfl ?_
  refine WC.seq (WC.region ?_)
  refine WR.k rfl rfl rfl (OS.assign (v := (.slice none 0 0)) rfl rfl ?_)
  refine WR.nil ?_
  refine WC.ret ?_
  repeat first | refine thenQ_ret ?_ | refine blkQ_ret ?_
  cases hp
  exact fnQ.l1 (fn := Tryz.f21) rfl (.inl ⟨_, rfl, rfl⟩) ⟨_, rfl, (St.refl.mono (by decide))⟩

-- holdfast/holdfastlaw09.KeysNone
set_option maxHeartbeats 4000000 in
theorem W6 (K : Nat) (w0 : World) (cw : Col) (hcw : ∀ b, cw b < 40) {s : List UInt8} {b : List UInt8} {r : Bool} (hp : holdfastlaw09_KeysNone K s b = some r) {i : Nat} (hi : i ≤ 1) {v_ : Value} (o : Vw E5 i w0 cw v_ b) {gi0 : Nat} (hgi0 : gi0 ≤ 1) (og0 : Arr E76 gi0 w0 cw (.pointer (some ⟨0, 0, none⟩)) tab0) {gi7 : Nat} (hgi7 : gi7 ≤ 1) (og7 : Arr E5 gi7 w0 cw (.pointer (some ⟨7, 0, none⟩)) tab7) :
    Calls Tryz.prog 6 [vS s, v_].toArray w0 fun e w1 => ∃ (d : Col), e = .returned (vB r) ∧ St [] w0 cw w1 d := by
  refine calls_intro Tryz.func6 rfl Tryz.ntmps6 rfl ?_
  unfold holdfastlaw09_KeysNone at hp
  refine WC.seq (WC.region ?_)
  refine WR.k rfl rfl rfl (OS.assign (v := vB false) rfl rfl ?_)
  refine WR.nil ?_
  refine WC.seq (WC.region ?_)
  refine WR.k rfl rfl rfl (OS.assign (v := .pointer none) rfl rfl ?_)
  refine WR.nil ?_
  refine WC.seq (WC.region ?_)
  refine WR.k rfl rfl rfl (OS.move (v := .pointer none) rfl rfl ?_)
  refine WR.k rfl rfl rfl (OS.move (v := vS s) rfl rfl ?_)
  refine WR.k rfl rfl rfl (OS.move (v := vS s) rfl rfl ?_)
  obtain ⟨r_, hr_, hp⟩ := bind_some hp
  refine WR.k rfl rfl rfl (OS.callF (vs := [.pointer none, vS s, vS s]) rfl ⟨rfl, rfl, rfl, trivial⟩ Tryz.call13 ((W13n0 K w0 (rcc [] cw) (rcc_lt cw rfl) hr_).mono ?_))
  rintro _ w_ ⟨d1, rfl, s1⟩
  refine ⟨_, rfl, ?_⟩
  obtain ⟨c_, s2⟩ : ∃ c_, St [] w0 cw w_ c_ := ⟨_, s1.mg2 (sh := 10000) rfl⟩
  refine WR.k rfl rfl rfl (OS.move (v := .tuple #[vI r_.1, vI r_.2]) rfl rfl ?_)
  refine WR.k rfl rfl rfl (OS.extract (v := vI r_.1) rfl rfl rfl ?_)
  refine WR.k rfl rfl rfl (OS.extract (v := vI r_.2) rfl rfl rfl ?_)
  refine WR.k rfl rfl rfl (OS.assign (v := vI r_.1) rfl rfl ?_)
  refine WR.k rfl rfl rfl (OS.assign (v := vI r_.2) rfl rfl ?_)
  refine WR.nil ?_
  refine WC.seq (WC.region ?_)
  refine WR.k rfl rfl rfl (OS.move (v := .pointer none) rfl rfl ?_)
  refine WR.k rfl rfl rfl (OS.move (v := vS s) rfl rfl ?_)
  refine WR.k rfl rfl rfl (OS.move (v := vS s) rfl rfl ?_)
  obtain ⟨r_1, hr_1, hp⟩ := bind_some hp
  refine WR.k rfl rfl rfl (OS.callF (vs := [.pointer none, vS s, vS s]) rfl ⟨rfl, rfl, rfl, trivial⟩ Tryz.call15 ((W15n0 K w_ (rcc [] c_) (rcc_lt c_ rfl) hr_1).mono ?_))
  rintro _ w_1 ⟨d2, rfl, s3⟩
  refine ⟨_, rfl, ?_⟩
  obtain ⟨c_1, s4⟩ : ∃ c_1, St [] w_ c_ w_1 c_1 := ⟨_, s3.mg2 (sh := 20000) rfl⟩
  refine WR.k rfl rfl rfl (OS.move (v := .tuple #[vI r_1.1, vI r_1.2]) rfl rfl ?_)
  refine WR.k rfl rfl rfl (OS.extract (v := vI r_1.1) rfl rfl rfl ?_)
  refine WR.k rfl rfl rfl (OS.extract (v := vI r_1.2) rfl rfl rfl ?_)
  refine WR.k rfl rfl rfl (OS.assign (v := vI r_1.1) rfl rfl ?_)
  refine WR.k rfl rfl rfl (OS.assign (v := vI r_1.2) rfl rfl ?_)
  refine WR.nil ?_
  refine WC.seq (WC.region ?_)
  refine WR.k rfl rfl rfl (OS.move (v := .pointer none) rfl rfl ?_)
  refine WR.k rfl rfl rfl (OS.move (v := vS s) rfl rfl ?_)
  refine WR.k rfl rfl rfl (OS.move (v := vS s) rfl rfl ?_)
  have og := og0.keep (s2.t s4) (nin hgi0 (by decide))
  have og1 := og7.keep (s2.t s4) (nin hgi7 (by decide))
  obtain ⟨r_2, hr_2, hp⟩ := bind_some hp
  refine WR.k rfl rfl rfl (OS.callF (vs := [.pointer none, vS s, vS s, vI (1 : Int)]) rfl ⟨rfl, rfl, rfl, rfl, trivial⟩ Tryz.call14 ((W14n0 (gi0 := gi0) (gi7 := gi7) K w_1 (rcc [] c_1) (rcc_lt c_1 rfl) hr_2 hgi0 (og.tr (rc_tr (rc_low hgi0 rfl))) hgi7 (og1.tr (rc_tr (rc_low hgi7 rfl)))).mono ?_))
  rintro _ w_2 ⟨d3, rfl, s5, hl⟩
  refine ⟨_, rfl, ?_⟩
  obtain ⟨c_2, s6⟩ : ∃ c_2, St [] w_1 c_1 w_2 c_2 := ⟨_, s5.mg2 (sh := 30000) rfl⟩
  refine WR.k rfl rfl rfl (OS.move (v := .tuple #[.agg (fl E5 r_2.1).toArray, vI r_2.2]) rfl rfl ?_)
  refine WR.k rfl rfl rfl (OS.extract (v := .agg (fl E5 r_2.1).toArray) rfl rfl rfl ?_)
  refine WR.k rfl rfl rfl (OS.extract (v := vI r_2.2) rfl rfl rfl ?_)
  refine WR.k rfl rfl rfl (OS.allocArr (E := E5) (xs := (List.replicate 32 (0 : UInt8))) (c := c_2) 40 rfl Tryz.zeroValue23 (by kernel_rfl) ?_); intro p_ w_3 c_3 o1 s7
  refine WR.k0 rfl rfl (OS.stArrAll rfl Tryz.sizeOf23 rfl rfl o1 (by rw [fl_length, hl]; rfl) (Eq.trans (List.length_replicate (n := 32) (a := (0 : UInt8))) (Eq.symm hl)) ?_); intro w_4 o2 s8
  have hl1 : r_2.1.length = 32 := hl
  refine WR.k rfl rfl rfl (OS.assign (v := vI r_2.2) rfl rfl ?_)
  refine WR.nil ?_
  refine WC.seq (WC.region ?_)
  refine WR.k rfl rfl rfl (OS.move (v := .pointer none) rfl rfl ?_)
  refine WR.k rfl rfl rfl (OS.move (v := vS s) rfl rfl ?_)
  refine WR.k rfl rfl rfl (OS.move (v := vS s) rfl rfl ?_)
  refine WR.k rfl rfl rfl (OS.move (v := v_) rfl rfl ?_)
  have o3 := o.keep ((((s2.t s4).t s6).t s7).t s8) (nin hi (by decide))
  have og2 := og.keep ((s6.t s7).t s8) (nin hgi0 (by decide))
  have og3 := og1.keep ((s6.t s7).t s8) (nin hgi7 (by decide))
  obtain ⟨r_3, hr_3, hp⟩ := bind_some hp
  refine WR.k rfl rfl rfl (OS.callF (vs := [.pointer none, vS s, vS s, v_]) rfl ⟨rfl, rfl, rfl, rfl, trivial⟩ Tryz.call17 ((W17n0 (i := i) (gi0 := gi0) (gi7 := gi7) K w_4 (rcc [] c_3) (rcc_lt c_3 rfl) hr_3 hi ((o3).tr (rc_tr (rc_low hi rfl))) hgi0 (og2.tr (rc_tr (rc_low hgi0 rfl))) hgi7 (og3.tr (rc_tr (rc_low hgi7 rfl)))).mono ?_))
  rintro _ w_5 ⟨sl, d4, rfl, s9, o4⟩
  refine ⟨_, rfl, ?_⟩
  obtain ⟨c_4, s10, o4⟩ : ∃ c_4, St [] w_4 c_3 w_5 c_4 ∧ Ow E5 42000 w_5 c_4 sl.val r_3.1 := ⟨_, s9.mg2 (sh := 40000) rfl, (o4.tr (mg2_back s9 rfl))⟩
  refine WR.k rfl rfl rfl (OS.move (v := .tuple #[sl.val, vI r_3.2]) rfl rfl ?_)
  refine WR.k rfl rfl rfl (OS.extract (v := sl.val) rfl rfl rfl ?_)
  refine WR.k rfl rfl rfl (OS.extract (v := vI r_3.2) rfl rfl rfl ?_)
  refine WR.k rfl rfl rfl (OS.assign (v := sl.val) rfl rfl ?_)
  refine WR.k rfl rfl rfl (OS.assign (v := vI r_3.2) rfl rfl ?_)
  refine WR.nil ?_
  refine WC.seq (WC.region ?_)
  refine WR.k rfl rfl rfl (OS.move (v := .pointer none) rfl rfl ?_)
  refine WR.k rfl rfl rfl (OS.move (v := vS s) rfl rfl ?_)
  refine WR.k rfl rfl rfl (OS.move (v := vS s) rfl rfl ?_)
  refine WR.k rfl rfl rfl (OS.move (v := v_) rfl rfl ?_)
  have o5 := o3.keep s10 (nin hi (by decide))
  have og4 := og2.keep s10 (nin hgi0 (by decide))
  have og5 := og3.keep s10 (nin hgi7 (by decide))
  obtain ⟨r_4, hr_4, hp⟩ := bind_some hp
  refine WR.k rfl rfl rfl (OS.callF (vs := [.pointer none, vS s, vS s, v_]) rfl ⟨rfl, rfl, rfl, rfl, trivial⟩ Tryz.call23 ((W23n0 (i := i) (gi0 := gi0) (gi7 := gi7) K w_5 (rcc [] c_4) (rcc_lt c_4 rfl) hr_4 hi ((o5).tr (rc_tr (rc_low hi rfl))) hgi0 (og4.tr (rc_tr (rc_low hgi0 rfl))) hgi7 (og5.tr (rc_tr (rc_low hgi7 rfl)))).mono ?_))
  rintro _ w_6 ⟨sl1, d5, rfl, s11, o6⟩
  refine ⟨_, rfl, ?_⟩
  obtain ⟨c_5, s12, o6⟩ : ∃ c_5, St [] w_5 c_4 w_6 c_5 ∧ Ow E5 52000 w_6 c_5 sl1.val r_4.1 := ⟨_, s11.mg2 (sh := 50000) rfl, (o6.tr (mg2_back s11 rfl))⟩
  refine WR.k rfl rfl rfl (OS.move (v := .tuple #[sl1.val, vI r_4.2.1, vI r_4.2.2]) rfl rfl ?_)
  refine WR.k rfl rfl rfl (OS.extract (v := sl1.val) rfl rfl rfl ?_)
  refine WR.k rfl rfl rfl (OS.extract (v := vI r_4.2.1) rfl rfl rfl ?_)
  refine WR.k rfl rfl rfl (OS.extract (v := vI r_4.2.2) rfl rfl rfl ?_)
  refine WR.k rfl rfl rfl (OS.assign (v := sl1.val) rfl rfl ?_)
  refine WR.k rfl rfl rfl (OS.assign (v := vI r_4.2.1) rfl rfl ?_)
  refine WR.k rfl rfl rfl (OS.assign (v := vI r_4.2.2) rfl rfl ?_)
  refine WR.nil ?_
  refine WC.seq (WC.region ?_)
  refine WR.k rfl rfl rfl (OS.move (v := .pointer none) rfl rfl ?_)
  refine WR.k rfl rfl rfl (OS.move (v := vS s) rfl rfl ?_)
  refine WR.k rfl rfl rfl (OS.move (v := vS s) rfl rfl ?_)
  refine WR.k rfl rfl rfl (OS.move (v := v_) rfl rfl ?_)
  have o7 := o5.keep s12 (nin hi (by decide))
  have og6 := og4.keep s12 (nin hgi0 (by decide))
  have og7 := og5.keep s12 (nin hgi7 (by decide))
  obtain ⟨r_5, hr_5, hp⟩ := bind_some hp
  refine WR.k rfl rfl rfl (OS.callF (vs := [.pointer none, vS s, vS s, v_]) rfl ⟨rfl, rfl, rfl, rfl, trivial⟩ Tryz.call18 ((W18n0 (i := i) (gi0 := gi0) (gi7 := gi7) K w_6 (rcc [] c_5) (rcc_lt c_5 rfl) hr_5 hi ((o7).tr (rc_tr (rc_low hi rfl))) hgi0 (og6.tr (rc_tr (rc_low hgi0 rfl))) hgi7 (og7.tr (rc_tr (rc_low hgi7 rfl)))).mono ?_))
  rintro _ w_7 ⟨sl2, d6, rfl, s13, o8⟩
  refine ⟨_, rfl, ?_⟩
  obtain ⟨c_6, s14, o8⟩ : ∃ c_6, St [] w_6 c_5 w_7 c_6 ∧ Ow E5 62000 w_7 c_6 sl2.val r_5.1 := ⟨_, s13.mg2 (sh := 60000) rfl, (o8.tr (mg2_back s13 rfl))⟩
  refine WR.k rfl rfl rfl (OS.move (v := .tuple #[sl2.val, vB r_5.2.1, vI r_5.2.2]) rfl rfl ?_)
  refine WR.k rfl rfl rfl (OS.extract (v := sl2.val) rfl rfl rfl ?_)
  refine WR.k rfl rfl rfl (OS.extract (v := vB r_5.2.1) rfl rfl rfl ?_)
  refine WR.k rfl rfl rfl (OS.extract (v := vI r_5.2.2) rfl rfl rfl ?_)
  refine WR.k rfl rfl rfl (OS.assign (v := sl2.val) rfl rfl ?_)
  refine WR.k rfl rfl rfl (OS.assign (v := vB r_5.2.1) rfl rfl ?_)
  refine WR.k rfl rfl rfl (OS.assign (v := vI r_5.2.2) rfl rfl ?_)
  refine WR.nil ?_
  refine WC.seq (WC.region ?_)
  have og8 := og6.keep s14 (nin hgi0 (by decide))
  have og9 := og7.keep s14 (nin hgi7 (by decide))
  obtain ⟨r_6, hr_6, hp⟩ := bind_some hp
  refine WR.k rfl rfl rfl (OS.callF (vs := []) rfl trivial Tryz.call11 ((W11 (gi0 := gi0) (gi7 := gi7) K w_7 (rcc [] c_6) (rcc_lt c_6 rfl) hr_6 hgi0 (og8.tr (rc_tr (rc_low hgi0 rfl))) hgi7 (og9.tr (rc_tr (rc_low hgi7 rfl)))).mono ?_))
  rintro _ w_8 ⟨d7, rfl, s15⟩
  refine ⟨_, rfl, ?_⟩
  obtain ⟨c_7, s16⟩ : ∃ c_7, St [] w_7 c_6 w_8 c_7 := ⟨_, s15.mg2 (sh := 70000) rfl⟩
  refine WR.k rfl rfl rfl (OS.move (v := vB r_6) rfl rfl ?_)
  refine WR.cut2 3 (fun f_ w_9 => f_ 0 = vS s ∧ f_ 5 = .pointer none ∧ f_ 9 = vI r_1.2 ∧ f_ 11 = vI r_2.2 ∧ f_ 13 = vI r_3.2 ∧ f_ 16 = vI r_4.2.2 ∧ f_ 19 = vI r_5.2.2 ∧ f_ 71 = vB (r_6 && (decide (r_.2 = (1 : Int)))) ∧ w_8 = w_9) ?_ ?_
  · rcases Bool.eq_false_or_eq_true (r_6) with hg | hg
    · refine WR.kT rfl rfl (vb_t rfl hg) rfl rfl (OS.move (v := vI r_.2) rfl rfl ?_)
      refine WR.kT rfl rfl (vb_t rfl hg) rfl rfl (OS.bin (a := vI r_.2) (b := vI (1 : Int)) rfl rfl rfl bI_eql ?_)
      refine WR.k rfl rfl rfl (OS.pickT rfl (vb_t rfl hg) rfl ?_)
      refine WR.nil ?_
      exact ⟨rfl, rfl, rfl, rfl, rfl, rfl, rfl, (and_t hg), rfl⟩
    · refine WR.gF rfl rfl (vb_f rfl hg) rfl rfl ?_
      refine WR.gF rfl rfl (vb_f rfl hg) rfl rfl ?_
      refine WR.k rfl rfl rfl (OS.pickF rfl (vb_f rfl hg) rfl ?_)
      refine WR.nil ?_
      exact ⟨rfl, rfl, rfl, rfl, rfl, rfl, rfl, (and_f hg), rfl⟩
  · rintro f_ _ ⟨h, h1, h2, h3, h4, h5, h6, h7, rfl⟩
    refine WR.k rfl rfl rfl (OS.move (v := vB (r_6 && (decide (r_.2 = (1 : Int))))) rfl h7 ?_)
    refine WR.cut2 3 (fun f_1 w_10 => f_1 0 = vS s ∧ f_1 5 = .pointer none ∧ f_1 11 = vI r_2.2 ∧ f_1 13 = vI r_3.2 ∧ f_1 16 = vI r_4.2.2 ∧ f_1 19 = vI r_5.2.2 ∧ f_1 75 = vB ((r_6 && (decide (r_.2 = (1 : Int)))) && (decide (r_1.2 = (1 : Int)))) ∧ w_8 = w_10) ?_ ?_
    · rcases Bool.eq_false_or_eq_true (r_6 && (decide (r_.2 = (1 : Int)))) with hg1 | hg1
      · refine WR.kT rfl rfl (vb_t rfl hg1) rfl rfl (OS.move (v := vI r_1.2) rfl h2 ?_)
        refine WR.kT rfl rfl (vb_t rfl hg1) rfl rfl (OS.bin (a := vI r_1.2) (b := vI (1 : Int)) rfl rfl rfl bI_eql ?_)
        refine WR.k rfl rfl rfl (OS.pickT rfl (vb_t rfl hg1) rfl ?_)
        refine WR.nil ?_
        exact ⟨h, h1, h3, h4, h5, h6, (and_t hg1), rfl⟩
      · refine WR.gF rfl rfl (vb_f rfl hg1) rfl rfl ?_
        refine WR.gF rfl rfl (vb_f rfl hg1) rfl rfl ?_
        refine WR.k rfl rfl rfl (OS.pickF rfl (vb_f rfl hg1) rfl ?_)
        refine WR.nil ?_
        exact ⟨h, h1, h3, h4, h5, h6, (and_f hg1), rfl⟩
    · rintro f_1 _ ⟨h8, h9, h10, h11, h12, h13, h14, rfl⟩
      refine WR.k rfl rfl rfl (OS.move (v := vB ((r_6 && (decide (r_.2 = (1 : Int)))) && (decide (r_1.2 = (1 : Int))))) rfl h14 ?_)
      refine WR.cut2 3 (fun f_2 w_11 => f_2 0 = vS s ∧ f_2 5 = .pointer none ∧ f_2 13 = vI r_3.2 ∧ f_2 16 = vI r_4.2.2 ∧ f_2 19 = vI r_5.2.2 ∧ f_2 79 = vB (((r_6 && (decide (r_.2 = (1 : Int)))) && (decide (r_1.2 = (1 : Int)))) && (decide (r_2.2 = (1 : Int)))) ∧ w_8 = w_11) ?_ ?_
      · rcases Bool.eq_false_or_eq_true ((r_6 && (decide (r_.2 = (1 : Int)))) && (decide (r_1.2 = (1 : Int)))) with hg2 | hg2
        · refine WR.kT rfl rfl (vb_t rfl hg2) rfl rfl (OS.move (v := vI r_2.2) rfl h10 ?_)
          refine WR.kT rfl rfl (vb_t rfl hg2) rfl rfl (OS.bin (a := vI r_2.2) (b := vI (1 : Int)) rfl rfl rfl bI_eql ?_)
          refine WR.k rfl rfl rfl (OS.pickT rfl (vb_t rfl hg2) rfl ?_)
          refine WR.nil ?_
          exact ⟨h8, h9, h11, h12, h13, (and_t hg2), rfl⟩
        · refine WR.gF rfl rfl (vb_f rfl hg2) rfl rfl ?_
          refine WR.gF rfl rfl (vb_f rfl hg2) rfl rfl ?_
          refine WR.k rfl rfl rfl (OS.pickF rfl (vb_f rfl hg2) rfl ?_)
          refine WR.nil ?_
          exact ⟨h8, h9, h11, h12, h13, (and_f hg2), rfl⟩
      · rintro f_2 _ ⟨h15, h16, h17, h18, h19, h20, rfl⟩
        refine WR.k rfl rfl rfl (OS.move (v := vB (((r_6 && (decide (r_.2 = (1 : Int)))) && (decide (r_1.2 = (1 : Int)))) && (decide (r_2.2 = (1 : Int))))) rfl h20 ?_)
        refine WR.cut2 3 (fun f_3 w_12 => f_3 0 = vS s ∧ f_3 5 = .pointer none ∧ f_3 16 = vI r_4.2.2 ∧ f_3 19 = vI r_5.2.2 ∧ f_3 83 = vB ((((r_6 && (decide (r_.2 = (1 : Int)))) && (decide (r_1.2 = (1 : Int)))) && (decide (r_2.2 = (1 : Int)))) && (decide (r_3.2 = (1 : Int)))) ∧ w_8 = w_12) ?_ ?_
        · rcases Bool.eq_false_or_eq_true (((r_6 && (decide (r_.2 = (1 : Int)))) && (decide (r_1.2 = (1 : Int)))) && (decide (r_2.2 = (1 : Int)))) with hg3 | hg3
          · refine WR.kT rfl rfl (vb_t rfl hg3) rfl rfl (OS.move (v := vI r_3.2) rfl h17 ?_)
            refine WR.kT rfl rfl (vb_t rfl hg3) rfl rfl (OS.bin (a := vI r_3.2) (b := vI (1 : Int)) rfl rfl rfl bI_eql ?_)
            refine WR.k rfl rfl rfl (OS.pickT rfl (vb_t rfl hg3) rfl ?_)
            refine WR.nil ?_
            exact ⟨h15, h16, h18, h19, (and_t hg3), rfl⟩
          · refine WR.gF rfl rfl (vb_f rfl hg3) rfl rfl ?_
            refine WR.gF rfl rfl (vb_f rfl hg3) rfl rfl ?_
            refine WR.k rfl rfl rfl (OS.pickF rfl (vb_f rfl hg3) rfl ?_)
            refine WR.nil ?_
            exact ⟨h15, h16, h18, h19, (and_f hg3), rfl⟩
        · rintro f_3 _ ⟨h21, h22, h23, h24, h25, rfl⟩
          refine WR.k rfl rfl rfl (OS.move (v := vB ((((r_6 && (decide (r_.2 = (1 : Int)))) && (decide (r_1.2 = (1 : Int)))) && (decide (r_2.2 = (1 : Int)))) && (decide (r_3.2 = (1 : Int))))) rfl h25 ?_)
          refine WR.cut2 3 (fun f_4 w_13 => f_4 0 = vS s ∧ f_4 5 = .pointer none ∧ f_4 19 = vI r_5.2.2 ∧ f_4 87 = vB (((((r_6 && (decide (r_.2 = (1 : Int)))) && (decide (r_1.2 = (1 : Int)))) && (decide (r_2.2 = (1 : Int)))) && (decide (r_3.2 = (1 : Int)))) && (decide (r_4.2.2 = (1 : Int)))) ∧ w_8 = w_13) ?_ ?_
          · rcases Bool.eq_false_or_eq_true ((((r_6 && (decide (r_.2 = (1 : Int)))) && (decide (r_1.2 = (1 : Int)))) && (decide (r_2.2 = (1 : Int)))) && (decide (r_3.2 = (1 : Int)))) with hg4 | hg4
            · refine WR.kT rfl rfl (vb_t rfl hg4) rfl rfl (OS.move (v := vI r_4.2.2) rfl h23 ?_)
              refine WR.kT rfl rfl (vb_t rfl hg4) rfl rfl (OS.bin (a := vI r_4.2.2) (b := vI (1 : Int)) rfl rfl rfl bI_eql ?_)
              refine WR.k rfl rfl rfl (OS.pickT rfl (vb_t rfl hg4) rfl ?_)
              refine WR.nil ?_
              exact ⟨h21, h22, h24, (and_t hg4), rfl⟩
            · refine WR.gF rfl rfl (vb_f rfl hg4) rfl rfl ?_
              refine WR.gF rfl rfl (vb_f rfl hg4) rfl rfl ?_
              refine WR.k rfl rfl rfl (OS.pickF rfl (vb_f rfl hg4) rfl ?_)
              refine WR.nil ?_
              exact ⟨h21, h22, h24, (and_f hg4), rfl⟩
          · rintro f_4 _ ⟨h26, h27, h28, h29, rfl⟩
            refine WR.k rfl rfl rfl (OS.move (v := vB (((((r_6 && (decide (r_.2 = (1 : Int)))) && (decide (r_1.2 = (1 : Int)))) && (decide (r_2.2 = (1 : Int)))) && (decide (r_3.2 = (1 : Int)))) && (decide (r_4.2.2 = (1 : Int))))) rfl h29 ?_)
            refine WR.cut2 3 (fun f_5 w_14 => f_5 0 = vS s ∧ f_5 5 = .pointer none ∧ f_5 91 = vB ((((((r_6 && (decide (r_.2 = (1 : Int)))) && (decide (r_1.2 = (1 : Int)))) && (decide (r_2.2 = (1 : Int)))) && (decide (r_3.2 = (1 : Int)))) && (decide (r_4.2.2 = (1 : Int)))) && (decide (r_5.2.2 = (1 : Int)))) ∧ w_8 = w_14) ?_ ?_
            · rcases Bool.eq_false_or_eq_true (((((r_6 && (decide (r_.2 = (1 : Int)))) && (decide (r_1.2 = (1 : Int)))) && (decide (r_2.2 = (1 : Int)))) && (decide (r_3.2 = (1 : Int)))) && (decide (r_4.2.2 = (1 : Int)))) with hg5 | hg5
              · refine WR.kT rfl rfl (vb_t rfl hg5) rfl rfl (OS.move (v := vI r_5.2.2) rfl h28 ?_)
                refine WR.kT rfl rfl (vb_t rfl hg5) rfl rfl (OS.bin (a := vI r_5.2.2) (b := vI (1 : Int)) rfl rfl rfl bI_eql ?_)
                refine WR.k rfl rfl rfl (OS.pickT rfl (vb_t rfl hg5) rfl ?_)
                refine WR.nil ?_
                exact ⟨h26, h27, (and_t hg5), rfl⟩
              · refine WR.gF rfl rfl (vb_f rfl hg5) rfl rfl ?_
                refine WR.gF rfl rfl (vb_f rfl hg5) rfl rfl ?_
                refine WR.k rfl rfl rfl (OS.pickF rfl (vb_f rfl hg5) rfl ?_)
                refine WR.nil ?_
                exact ⟨h26, h27, (and_f hg5), rfl⟩
            · rintro f_5 _ ⟨h30, h31, h32, rfl⟩
              refine WR.k rfl rfl rfl (OS.move (v := vB ((((((r_6 && (decide (r_.2 = (1 : Int)))) && (decide (r_1.2 = (1 : Int)))) && (decide (r_2.2 = (1 : Int)))) && (decide (r_3.2 = (1 : Int)))) && (decide (r_4.2.2 = (1 : Int)))) && (decide (r_5.2.2 = (1 : Int))))) rfl h32 ?_)
              obtain ⟨b1, ht, hp⟩ := bind_some hp
              refine WR.cut2 5 (fun f_6 w_15 => ∃ (c_14 : Col), f_6 5 = .pointer none ∧ f_6 97 = vB b1 ∧ St [] w_8 c_7 w_15 c_14) ?_ ?_
              · rcases Bool.eq_false_or_eq_true ((((((r_6 && (decide (r_.2 = (1 : Int)))) && (decide (r_1.2 = (1 : Int)))) && (decide (r_2.2 = (1 : Int)))) && (decide (r_3.2 = (1 : Int)))) && (decide (r_4.2.2 = (1 : Int)))) && (decide (r_5.2.2 = (1 : Int)))) with hg6 | hg6
                · rw [if_pos hg6] at ht
                  refine WR.kT rfl rfl (vb_t rfl hg6) rfl rfl (OS.move (v := .pointer none) rfl h31 ?_)
                  refine WR.kT rfl rfl (vb_t rfl hg6) rfl rfl (OS.move (v := vS s) rfl h30 ?_)
                  obtain ⟨r_7, hr_7, ht⟩ := bind_some ht
                  refine WR.kT rfl rfl (vb_t rfl hg6) rfl rfl (OS.callF (vs := [.pointer none, vS s]) rfl ⟨rfl, rfl, trivial⟩ Tryz.call16 ((W16n0 K w_8 (rcc [] c_7) (rcc_lt c_7 rfl) hr_7).mono ?_))
                  rintro _ w_16 ⟨d8, rfl, s17⟩
                  refine ⟨_, rfl, ?_⟩
                  obtain ⟨c_15, s18⟩ : ∃ c_15, St [] w_8 c_7 w_16 c_15 := ⟨_, s17.mg2 (sh := 90000) rfl⟩
                  refine WR.kT rfl rfl (vb_t rfl hg6) rfl rfl (OS.bin (a := vI r_7) (b := vI (1 : Int)) rfl rfl rfl bI_eql ?_)
                  refine WR.k rfl rfl rfl (OS.pickT rfl (vb_t rfl hg6) rfl ?_)
                  cases ht
                  refine WR.nil ?_
                  exact ⟨_, h31, rfl, s18.mono (by decide)⟩
                · rw [if_neg (nt hg6)] at ht
                  refine WR.gF rfl rfl (vb_f rfl hg6) rfl rfl ?_
                  refine WR.gF rfl rfl (vb_f rfl hg6) rfl rfl ?_
                  refine WR.gF rfl rfl (vb_f rfl hg6) rfl rfl ?_
                  refine WR.gF rfl rfl (vb_f rfl hg6) rfl rfl ?_
                  refine WR.k rfl rfl rfl (OS.pickF rfl (vb_f rfl hg6) rfl ?_)
                  cases ht
                  refine WR.nil ?_
                  exact ⟨_, h31, rfl, St.refl.mono (by decide)⟩
              · rintro f_6 w_15 ⟨c_14, h33, h34, s19⟩
                refine WR.k rfl rfl rfl (OS.move (v := vB b1) rfl h34 ?_)
                obtain ⟨b2, ht1, hp⟩ := bind_some hp
                refine WR.cut2 5 (fun f_7 w_17 => ∃ (c_16 : Col), f_7 103 = vB b2 ∧ St [] w_15 c_14 w_17 c_16) ?_ ?_
                · rcases Bool.eq_false_or_eq_true (b1) with hg7 | hg7
                  · rw [if_pos hg7] at ht1
                    refine WR.kT rfl rfl (vb_t rfl hg7) rfl rfl (OS.move (v := .pointer none) rfl h33 ?_)
                    obtain ⟨r_8, hr_8, ht1⟩ := bind_some ht1
                    refine WR.kT rfl rfl (vb_t rfl hg7) rfl rfl (OS.callF (vs := [.pointer none]) rfl ⟨rfl, trivial⟩ Tryz.call21 ((W21n0 K w_15 (rcc [] c_14) (rcc_lt c_14 rfl) hr_8).mono ?_))
                    rintro _ w_18 ⟨d9, rfl, s20⟩
                    refine ⟨_, rfl, ?_⟩
                    obtain ⟨c_17, s21⟩ : ∃ c_17, St [] w_15 c_14 w_18 c_17 := ⟨_, s20.mg2 (sh := 110000) rfl⟩
                    refine WR.kT rfl rfl (vb_t rfl hg7) rfl rfl (OS.lenSl rfl Tryz.runUnderlying48 rfl (.inl ⟨rfl, rfl⟩) ?_)
                    refine WR.kT rfl rfl (vb_t rfl hg7) rfl rfl (OS.bin (a := vI (0 : Int)) (b := vI (0 : Int)) rfl rfl rfl bI_eql ?_)
                    refine WR.k rfl rfl rfl (OS.pickT rfl (vb_t rfl hg7) rfl ?_)
                    cases ht1
                    refine WR.nil ?_
                    exact ⟨_, rfl, s21.mono (by decide)⟩
                  · rw [if_neg (nt hg7)] at ht1
                    refine WR.gF rfl rfl (vb_f rfl hg7) rfl rfl ?_
                    refine WR.gF rfl rfl (vb_f rfl hg7) rfl rfl ?_
                    refine WR.gF rfl rfl (vb_f rfl hg7) rfl rfl ?_
                    refine WR.gF rfl rfl (vb_f rfl hg7) rfl rfl ?_
                    refine WR.k rfl rfl rfl (OS.pickF rfl (vb_f rfl hg7) rfl ?_)
                    cases ht1
                    refine WR.nil ?_
                    exact ⟨_, rfl, St.refl.mono (by decide)⟩
                · rintro f_7 w_17 ⟨c_16, h35, s22⟩
                  refine WR.k rfl rfl rfl (OS.assign (v := vB b2) rfl h35 ?_)
                  refine WR.nil ?_
                  refine WC.ret ?_
                  repeat first | refine thenQ_ret ?_ | refine blkQ_ret ?_
                  cases hp
                  exact fnQ.l1 (fn := Tryz.f6) rfl (.inl ⟨_, rfl, rfl⟩) ⟨_, rfl, ((((((((((s2.t s4).t s6).t s7).t s8).t s10).t s12).t s14).t s16).t s19).t s22).leave hcw (by decide)⟩
end Go.Proofs.YtjgbakieogadfabGreatDoor
