import Derived.Test.YtbbenllkjpomdaaTypes
import Derived.Test.YtbbenllkjpomdaaPure
namespace Go.Proofs.Ytbbenllkjpomdaa
open Go Go.Proofs L

-- holdfast/seal.eight
set_option maxHeartbeats 4000000 in
theorem W21 (K : Nat) (w0 : World) {n1 : UInt64} {r : (List UInt8)} (hp : seal_eight K n1 = some r) :
    Calls Try.prog 21 [vU64 n1].toArray w0 fun e w1 => ∃ (v0 : Value) (d : Col), e = .returned (v0) ∧ St [] w0 c0 w1 d ∧ Ow E5 2 w1 d v0 r := by
  refine calls_intro Try.func21 rfl Try.ntmps21 rfl ?_
  unfold seal_eight at hp
  refine WC.seq (WC.region ?_)
  refine WR.k rfl rfl rfl (OS.assign (v := (.slice none 0 0)) rfl rfl ?_)
  refine WR.nil ?_
  refine WC.seq (WC.region ?_)
  obtain ⟨out, hout, hp⟩ := bind_some hp
  replace hout := (Option.some.inj hout).symm
  refine WR.k rfl rfl rfl (OS.make (E := E5) (c := c0) (z0 := (0 : UInt8)) 12 rfl Try.underlying25 I5 rfl rfl rfl rfl rfl (by decide) (by decide) (by decide) (by decide) ?_); intro v_ w_ c_ o s
  replace o : Ow E5 12 w_ c_ v_ out := by rw [hout]; exact o
  refine WR.k rfl rfl rfl (OS.assign (v := v_) rfl rfl ?_)
  refine WR.nil ?_
  refine WC.seq ?_
  refine WC.seq (WC.region ?_)
  refine WR.k rfl rfl rfl (OS.move (v := v_) rfl rfl ?_)
  refine WR.k rfl rfl rfl (OS.lenSl rfl Try.runUnderlying25 rfl o.isSl ?_)
  refine WR.k rfl rfl rfl (OS.move (v := vI (0 : Int)) rfl rfl ?_)
  refine WR.nil ?_
  obtain ⟨q, hl, hp⟩ := bind_some hp
  obtain ⟨out2, hx⟩ : ∃ z, z = q := ⟨_, rfl⟩; subst hx
  refine WC.blockJ2 (fun f_ w_1 => ∃ (c_1 : Col), f_ 3 = v_ ∧ Ow E5 12 w_1 c_1 v_ out2 ∧ St [12] w_ c_ w_1 c_1) ?_ ?_
  · refine WC.loop (fun n => fun f_1 w_2 => ∃ (out1 : List UInt8) (x8 : Int) (c_2 : Col), seal_eight.l1 n out n1 out1 x8 = some out2 ∧ f_1 0 = vU64 n1 ∧ f_1 3 = v_ ∧ Ow E5 12 w_2 c_2 v_ out1 ∧ f_1 7 = vI (out.length : Int) ∧ f_1 8 = vI x8 ∧ St [12] w_ c_ w_2 c_2) K ⟨_, _, _, hl, rfl, rfl, o, rfl, rfl, St.refl.mono (by decide)⟩ ?_
    rintro n f_1 w_2 ⟨out1, x8, c_2, hl, h, h1, o1, h2, h3, s1⟩
    cases n with
    | zero => exact absurd hl (by simp [seal_eight.l1])
    | succ k =>
    rw [seal_eight.l1] at hl
    refine WC.seq (WC.region ?_)
    refine WR.k rfl rfl rfl (OS.bin (a := vI x8) (b := vI (out.length : Int)) rfl h3 h2 bI_lss ?_)
    refine WR.nil ?_
    refine WC.seq ?_
    refine WC.cond (decide (x8 < (out.length : Int))) rfl (fun hb => ?_) (fun hb => ?_)
    · rw [if_pos hb] at hl
      refine WC.skip ?_
      refine WC.seq ?_
      refine WC.block ?_
      refine WC.seq (WC.region ?_)
      refine WR.k rfl rfl rfl (OS.move (v := vI x8) rfl h3 ?_)
      refine WR.k rfl rfl rfl (OS.assign (v := vI x8) rfl rfl ?_)
      refine WR.nil ?_
      refine WC.region ?_
      refine WR.k rfl rfl rfl (OS.move (v := v_) rfl h1 ?_)
      refine WR.k rfl rfl rfl (OS.move (v := vI x8) rfl rfl ?_)
      refine WR.k rfl rfl rfl (OS.move (v := vU64 n1) rfl h ?_)
      refine WR.k rfl rfl rfl (OS.move (v := vI x8) rfl rfl ?_)
      refine WR.k rfl rfl rfl (OS.bin (a := vI (8 : Int)) (b := vI x8) rfl rfl rfl bI_mul ?_)
      refine WR.k rfl rfl rfl (OS.bin (a := vI (56 : Int)) (b := vI (W ((8 : Int) * x8))) rfl rfl rfl bI_sub ?_)
      obtain ⟨k1, hk1, hl⟩ := bind_some hl
      obtain ⟨ha, hk1⟩ := shc_some hk1
      refine WR.k rfl rfl rfl (OS.bin (a := vU64 n1) (b := vI (W ((56 : Int) - (W ((8 : Int) * x8))))) rfl rfl rfl (b64_shr ha) ?_)
      refine WR.k rfl rfl rfl (OS.conv rfl Try.runUnderlying24 Try.runUnderlying5 rfl (cv_64_8 _) ?_)
      obtain ⟨u, hu, hl⟩ := bind_some hl
      obtain ⟨ha1, hb1⟩ := req_some hu
      refine WR.k rfl rfl rfl (OS.idx rfl Try.runUnderlying25 Try.sizeOf5 rfl o1.isSl rfl ha1 hb1 ?_); intro p_ a1
      obtain ⟨out3, hout3, hl⟩ := bind_some hl
      replace hout3 := (Option.some.inj hout3).symm
      refine WR.k0 rfl rfl (OS.stOwn (q := (shr64 n1 (W ((56 : Int) - (W ((8 : Int) * x8)))).toNat).toUInt8) (u := vU8 ((shr64 n1 (W ((56 : Int) - (W ((8 : Int) * x8)))).toNat).toUInt8)) rfl Try.sizeOf5 rfl rfl o1 rfl a1 (by omega) rfl ?_); intro w_3 o3 s2
      replace o3 : Ow E5 12 w_3 c_2 v_ out3 := by rw [hout3]; exact o3
      refine WR.nil ?_
      refine WC.region ?_
      refine WR.k rfl rfl rfl (OS.bin (a := vI x8) (b := vI (1 : Int)) rfl h3 rfl bI_add ?_)
      refine WR.k rfl rfl rfl (OS.move (v := vI (W (x8 + (1 : Int)))) rfl rfl ?_)
      refine WR.nil ?_
      exact ⟨k, by omega, _, _, _, hl, h, h1, o3, h2, rfl, (s1.t s2).mono (by decide)⟩
    · rw [if_neg (nt hb)] at hl
      refine WC.exit ?_
      cases hl
      exact ⟨_, h1, o1, s1.mono (by decide)⟩
  · rintro f_ w_1 ⟨c_1, h4, o2, s3⟩
    refine WC.seq (WC.region ?_)
    refine WR.k rfl rfl rfl (OS.move (v := v_) rfl h4 ?_)
    refine WR.k rfl rfl rfl (OS.assign (v := v_) rfl rfl ?_)
    refine WR.nil ?_
    refine WC.ret ?_
    repeat first | refine thenQ_ret ?_ | refine blkQ_ret ?_
    cases hp
    obtain ⟨c_3, s4, o4⟩ := o2.recol 2
    exact fnQ.l1 (fn := Try.f21) rfl (.inl ⟨_, rfl, rfl⟩) ⟨_, _, rfl, ((s.t s3).t s4).entry (by decide), o4⟩

-- slices.Grow[[]byte,byte]
set_option maxHeartbeats 4000000 in
theorem W34 (K : Nat) (w0 : World) {n1 : Int} {r : (List UInt8)} (hp : slices_Grow_byte_byte K n1 = some r) :
    Calls Try.prog 34 [(.slice none 0 0), vI n1].toArray w0 fun e w1 => ∃ (v0 : Value) (d : Col), e = .returned (v0) ∧ St [] w0 c0 w1 d ∧ Ow E5 2 w1 d v0 r := by
  refine calls_intro Try.func34 rfl Try.ntmps34 rfl ?_
  unfold slices_Grow_byte_byte at hp
  refine WC.seq (WC.region ?_)
  refine WR.k rfl rfl rfl (OS.assign (v := (.slice none 0 0)) rfl rfl ?_)
  refine WR.nil ?_
  refine WC.seq ?_
  refine WC.seq (WC.region ?_)
  refine WR.k rfl rfl rfl (OS.move (v := vI n1) rfl rfl ?_)
  refine WR.k rfl rfl rfl (OS.bin (a := vI n1) (b := vI (0 : Int)) rfl rfl rfl bI_lss ?_)
  refine WR.nil ?_
  refine WC.endJ (fun f_ w_ => slices_Grow_byte_byte.j1 K n1 = some r ∧ f_ 0 = (.slice none 0 0) ∧ f_ 1 = vI n1 ∧ w0 = w_) ?_ ?_
  · refine WC.cond (decide (n1 < (0 : Int))) rfl (fun hb => ?_) (fun hb => ?_)
    · rw [if_pos hb] at hp
      refine WC.region ?_
      cases hp
    · rw [if_neg (nt hb)] at hp
      refine WC.skip ?_
      exact ⟨hp, rfl, rfl, rfl⟩
  · rintro f_ _ ⟨hp, h, h1, rfl⟩
    unfold slices_Grow_byte_byte.j1 at hp
    refine WC.seq ?_
    refine WC.seq (WC.region ?_)
    refine WR.k rfl rfl rfl (OS.move (v := vI n1) rfl h1 ?_)
    refine WR.k rfl rfl rfl (OS.move (v := (.slice none 0 0)) rfl h ?_)
    refine WR.k rfl rfl rfl (OS.capNil rfl Try.runUnderlying25 rfl ?_)
    refine WR.k rfl rfl rfl (OS.move (v := (.slice none 0 0)) rfl h ?_)
    refine WR.k rfl rfl rfl (OS.lenSl rfl Try.runUnderlying25 rfl (.inl ⟨rfl, rfl⟩) ?_)
    refine WR.k rfl rfl rfl (OS.bin (a := vI (0 : Int)) (b := vI (0 : Int)) rfl rfl rfl bI_sub ?_)
    refine WR.k rfl rfl rfl (OS.bin (a := vI n1) (b := vI (W ((0 : Int) - (0 : Int)))) rfl rfl rfl bI_sub ?_)
    refine WR.k rfl rfl rfl (OS.assign (v := vI (W (n1 - (W ((0 : Int) - (0 : Int)))))) rfl rfl ?_)
    refine WR.nil ?_
    refine WC.seq (WC.region ?_)
    refine WR.k rfl rfl rfl (OS.move (v := vI (W (n1 - (W ((0 : Int) - (0 : Int)))))) rfl rfl ?_)
    refine WR.k rfl rfl rfl (OS.bin (a := vI (W (n1 - (W ((0 : Int) - (0 : Int)))))) (b := vI (0 : Int)) rfl rfl rfl bI_gtr ?_)
    refine WR.nil ?_
    refine WC.endJ (fun f_1 w_1 => ∃ (s1 : List UInt8) (v_ : Value) (c_1 : Col), slices_Grow_byte_byte.j2 K s1 = some r ∧ f_1 0 = v_ ∧ Ow E5 12 w_1 c_1 v_ s1 ∧ St [12, 13] w0 c0 w_1 c_1) ?_ ?_
    · refine WC.cond (decide ((0 : Int) < W (n1 - (W ((0 : Int) - (0 : Int)))))) rfl (fun hb1 => ?_) (fun hb1 => ?_)
      · rw [if_pos hb1] at hp
        refine WC.region ?_
        refine WR.k rfl rfl rfl (OS.move (v := (.slice none 0 0)) rfl h ?_)
        refine WR.k rfl rfl rfl (OS.move (v := (.slice none 0 0)) rfl h ?_)
        refine WR.k rfl rfl rfl (OS.capNil rfl Try.runUnderlying25 rfl ?_)
        obtain ⟨ys, hys, hp⟩ := bind_some hp
        obtain ⟨ha, hb2, hc, hys⟩ := sub_some hys
        refine WR.k rfl rfl rfl (OS.sliceOwn rfl Try.underlying25 Try.sizeOf5 rfl (Ow.nil (E := E5) (i := 13) (w := w0) (c := c0)) (Bd.some rfl (by omega)) (by omega) ?_); intro v_1 y
        replace y : Ow E5 13 w0 c0 v_1 ys := by rw [hys]; exact y
        refine WR.k rfl rfl rfl (OS.move (v := vI (W (n1 - (W ((0 : Int) - (0 : Int)))))) rfl rfl ?_)
        obtain ⟨xs, hxs, hp⟩ := bind_some hp
        obtain ⟨zs, hq, hxs⟩ := bind_some hxs
        obtain ⟨ha1, hb3, hc1⟩ := mks_some hq
        obtain ⟨hd, hxs⟩ := app_some hxs
        refine WR.k rfl rfl rfl (OS.appendZ (E := E5) (c := c0) (i := 13) (z0 := (0 : UInt8)) rfl Try.underlying25 Try.underlying3 I5 rfl rfl rfl rfl rfl y ha1 hc1 (lim_bytes (by decide) hd) (lim_max (b := 1) (by decide) hd) ?_); intro v_2 w_2 c_2 o1 s2
        replace o1 : Ow E5 13 w_2 c_2 v_2 xs := by rw [hxs]; exact o1
        refine WR.k rfl rfl rfl (OS.move (v := (.slice none 0 0)) rfl h ?_)
        refine WR.k rfl rfl rfl (OS.lenSl rfl Try.runUnderlying25 rfl (.inl ⟨rfl, rfl⟩) ?_)
        obtain ⟨ys1, hys1, hp⟩ := bind_some hp
        obtain ⟨ha2, hb4, hc2, hys1⟩ := sub_some hys1
        refine WR.k rfl rfl rfl (OS.sliceOwn rfl Try.underlying25 Try.sizeOf5 rfl o1 (Bd.some rfl (by omega)) (by omega) ?_); intro v_3 y1
        replace y1 : Ow E5 13 w_2 c_2 v_3 ys1 := by rw [hys1]; exact y1
        refine WR.k rfl rfl rfl (OS.assign (v := v_3) rfl rfl ?_)
        refine WR.nil ?_
        obtain ⟨c_3, s3, o2⟩ := y1.recol 12
        exact ⟨_, _, _, hp, rfl, o2, (s2.t s3).mono (by decide)⟩
      · rw [if_neg (nt hb1)] at hp
        refine WC.skip ?_
        exact ⟨_, _, _, hp, h, Ow.nil, St.refl.mono (by decide)⟩
    · rintro f_1 w_1 ⟨s1, v_, c_1, hp, h2, o, s4⟩
      unfold slices_Grow_byte_byte.j2 at hp
      refine WC.seq (WC.region ?_)
      refine WR.k rfl rfl rfl (OS.move (v := v_) rfl h2 ?_)
      refine WR.k rfl rfl rfl (OS.assign (v := v_) rfl rfl ?_)
      refine WR.nil ?_
      refine WC.ret ?_
      repeat first | refine thenQ_ret ?_ | refine blkQ_ret ?_
      cases hp
      obtain ⟨c_4, s5, o3⟩ := o.recol 2
      exact fnQ.l1 (fn := Try.f34) rfl (.inl ⟨_, rfl, rfl⟩) ⟨_, _, rfl, (s4.t s5).entry (by decide), o3⟩

-- slices.Concat[[]byte,byte]
set_option maxHeartbeats 4000000 in
theorem W30 (K : Nat) (w0 : World) {slices : List (List UInt8)} {r : (List UInt8)} (hp : slices_Concat_byte_byte K slices = some r) {v_ : Value} (o : Dv E25 E5 0 0 w0 c0 v_ slices) :
    Calls Try.prog 30 [v_].toArray w0 fun e w1 => ∃ (v0 : Value) (d : Col), e = .returned (v0) ∧ St [] w0 c0 w1 d ∧ Ow E5 2 w1 d v0 r := by
  refine calls_intro Try.func30 rfl Try.ntmps30 rfl ?_
  unfold slices_Concat_byte_byte at hp
  refine WC.seq (WC.region ?_)
  refine WR.k rfl rfl rfl (OS.assign (v := (.slice none 0 0)) rfl rfl ?_)
  refine WR.nil ?_
  refine WC.seq (WC.region ?_)
  refine WR.k rfl rfl rfl (OS.assign (v := vI (0 : Int)) rfl rfl ?_)
  refine WR.nil ?_
  refine WC.seq ?_
  refine WC.seq (WC.region ?_)
  refine WR.k rfl rfl rfl (OS.move (v := v_) rfl rfl ?_)
  refine WR.k rfl rfl rfl (OS.lenSl rfl Try.runUnderlying61 rfl o.isSl ?_)
  refine WR.k rfl rfl rfl (OS.move (v := vI (0 : Int)) rfl rfl ?_)
  refine WR.nil ?_
  obtain ⟨q, hl, hp⟩ := bind_some hp
  obtain ⟨size1, hx⟩ : ∃ z, z = q := ⟨_, rfl⟩; subst hx
  refine WC.blockJ2 (fun f_ w_ => f_ 0 = v_ ∧ f_ 3 = vI size1 ∧ w0 = w_) ?_ ?_
  · refine WC.loop (fun n => fun f_1 w_1 => ∃ (size : Int) (x11 : Int), slices_Concat_byte_byte.l1 n slices size x11 = some size1 ∧ f_1 0 = v_ ∧ f_1 3 = vI size ∧ f_1 9 = v_ ∧ f_1 10 = vI (slices.length : Int) ∧ f_1 11 = vI x11 ∧ w0 = w_1) K ⟨_, _, hl, rfl, rfl, rfl, rfl, rfl, rfl⟩ ?_
    rintro n f_1 _ ⟨size, x11, hl, h, h1, h2, h3, h4, rfl⟩
    cases n with
    | zero => exact absurd hl (by simp [slices_Concat_byte_byte.l1])
    | succ k =>
    rw [slices_Concat_byte_byte.l1] at hl
    refine WC.seq (WC.region ?_)
    refine WR.k rfl rfl rfl (OS.bin (a := vI x11) (b := vI (slices.length : Int)) rfl h4 h3 bI_lss ?_)
    refine WR.nil ?_
    refine WC.seq ?_
    refine WC.cond (decide (x11 < (slices.length : Int))) rfl (fun hb => ?_) (fun hb => ?_)
    · rw [if_pos hb] at hl
      refine WC.skip ?_
      refine WC.seq ?_
      refine WC.block ?_
      refine WC.seq (WC.region ?_)
      obtain ⟨e, he, hl⟩ := bind_some hl
      obtain ⟨ha, hb1, hc⟩ := gt_some he
      refine WR.k rfl rfl rfl (OS.idx rfl Try.runUnderlying61 Try.sizeOf25 h2 o.isSl h4 ha hb1 ?_); intro p_ a1
      obtain ⟨e1, hl1, o1⟩ := o.ldD (fun _ => rfl) a1 hc
      refine WR.k rfl rfl rfl (OS.ld1 (u := e1.val) rfl Try.isAgg25 rfl hl1 ?_)
      refine WR.k rfl rfl rfl (OS.assign (v := e1.val) rfl rfl ?_)
      refine WR.nil ?_
      refine WC.seq (WC.region ?_)
      refine WR.k rfl rfl rfl (OS.move (v := vI size) rfl h1 ?_)
      refine WR.k rfl rfl rfl (OS.move (v := e1.val) rfl rfl ?_)
      refine WR.k rfl rfl rfl (OS.lenSl rfl Try.runUnderlying25 rfl o1.isSl ?_)
      refine WR.k rfl rfl rfl (OS.bin (a := vI size) (b := vI (e.length : Int)) rfl rfl rfl bI_add ?_)
      refine WR.k rfl rfl rfl (OS.assign (v := vI (W (size + (e.length : Int)))) rfl rfl ?_)
      refine WR.nil ?_
      refine WC.seq (WC.region ?_)
      refine WR.k rfl rfl rfl (OS.move (v := vI (W (size + (e.length : Int)))) rfl rfl ?_)
      refine WR.k rfl rfl rfl (OS.bin (a := vI (W (size + (e.length : Int)))) (b := vI (0 : Int)) rfl rfl rfl bI_lss ?_)
      refine WR.nil ?_
      refine WC.cond (decide (W (size + (e.length : Int)) < (0 : Int))) rfl (fun hb2 => ?_) (fun hb2 => ?_)
      · rw [if_pos hb2] at hl
        refine WC.region ?_
        cases hl
      · rw [if_neg (nt hb2)] at hl
        refine WC.skip ?_
        refine WC.region ?_
        refine WR.k rfl rfl rfl (OS.bin (a := vI x11) (b := vI (1 : Int)) rfl h4 rfl bI_add ?_)
        refine WR.k rfl rfl rfl (OS.move (v := vI (W (x11 + (1 : Int)))) rfl rfl ?_)
        refine WR.nil ?_
        exact ⟨k, by omega, _, _, hl, h, rfl, h2, h3, rfl, rfl⟩
    · rw [if_neg (nt hb)] at hl
      refine WC.exit ?_
      cases hl
      exact ⟨h, h1, rfl⟩
  · rintro f_ _ ⟨h5, h6, rfl⟩
    refine WC.seq (WC.region ?_)
    refine WR.k rfl rfl rfl (OS.move (v := vI size1) rfl h6 ?_)
    obtain ⟨r_, hr_, hp⟩ := bind_some hp
    refine WR.k rfl rfl rfl (OS.callF (vs := [(.slice none 0 0), vI size1]) rfl ⟨rfl, rfl, trivial⟩ Try.call34 ((W34 K w0 hr_).mono ?_))
    rintro _ w_2 ⟨v_1, d, rfl, s, o2⟩
    refine ⟨_, rfl, ?_⟩
    obtain ⟨c_2, s1, o2⟩ : ∃ c_2, St [] w0 c0 w_2 c_2 ∧ Ow E5 16 w_2 c_2 v_1 r_ := ⟨_, s.merge (fun x => x + 14), o2.merge (fun x => x + 14) s (by decide)⟩
    refine WR.k rfl rfl rfl (OS.assign (v := v_1) rfl rfl ?_)
    refine WR.nil ?_
    refine WC.seq ?_
    refine WC.seq (WC.region ?_)
    refine WR.k rfl rfl rfl (OS.move (v := v_) rfl h5 ?_)
    have o3 := o.keep s1 (by decide)
    refine WR.k rfl rfl rfl (OS.lenSl rfl Try.runUnderlying61 rfl o3.isSl ?_)
    refine WR.k rfl rfl rfl (OS.move (v := vI (0 : Int)) rfl rfl ?_)
    refine WR.nil ?_
    obtain ⟨q1, hl2, hp⟩ := bind_some hp
    obtain ⟨newslice1, hx⟩ : ∃ z, z = q1 := ⟨_, rfl⟩; subst hx
    refine WC.blockJ2 (fun f_2 w_3 => ∃ (v_3 : Value) (c_3 : Col), f_2 6 = v_3 ∧ Ow E5 16 w_3 c_3 v_3 newslice1 ∧ St [16] w_2 c_2 w_3 c_3) ?_ ?_
    · refine WC.loop (fun n => fun f_3 w_4 => ∃ (newslice : List UInt8) (x27 : Int) (v_2 : Value) (c_4 : Col), slices_Concat_byte_byte.l2 n slices newslice x27 = some newslice1 ∧ f_3 6 = v_2 ∧ Ow E5 16 w_4 c_4 v_2 newslice ∧ f_3 25 = v_ ∧ f_3 26 = vI (slices.length : Int) ∧ f_3 27 = vI x27 ∧ St [16] w_2 c_2 w_4 c_4) K ⟨_, _, _, _, hl2, rfl, o2, rfl, rfl, rfl, St.refl.mono (by decide)⟩ ?_
      rintro n f_3 w_4 ⟨newslice, x27, v_2, c_4, hl2, h7, o4, h8, h9, h10, s2⟩
      cases n with
      | zero => exact absurd hl2 (by simp [slices_Concat_byte_byte.l2])
      | succ k =>
      rw [slices_Concat_byte_byte.l2] at hl2
      refine WC.seq (WC.region ?_)
      refine WR.k rfl rfl rfl (OS.bin (a := vI x27) (b := vI (slices.length : Int)) rfl h10 h9 bI_lss ?_)
      refine WR.nil ?_
      refine WC.seq ?_
      refine WC.cond (decide (x27 < (slices.length : Int))) rfl (fun hb3 => ?_) (fun hb3 => ?_)
      · rw [if_pos hb3] at hl2
        refine WC.skip ?_
        refine WC.seq ?_
        refine WC.block ?_
        refine WC.seq (WC.region ?_)
        have o6 := o3.keep s2 (by decide)
        obtain ⟨e2, he2, hl2⟩ := bind_some hl2
        obtain ⟨ha1, hb4, hc1⟩ := gt_some he2
        refine WR.k rfl rfl rfl (OS.idx rfl Try.runUnderlying61 Try.sizeOf25 h8 o6.isSl h10 ha1 hb4 ?_); intro p_1 a2
        obtain ⟨e3, hl3, o7⟩ := o6.ldD (fun _ => rfl) a2 hc1
        refine WR.k rfl rfl rfl (OS.ld1 (u := e3.val) rfl Try.isAgg25 rfl hl3 ?_)
        refine WR.k rfl rfl rfl (OS.assign (v := e3.val) rfl rfl ?_)
        refine WR.nil ?_
        refine WC.region ?_
        refine WR.k rfl rfl rfl (OS.move (v := v_2) rfl h7 ?_)
        refine WR.k rfl rfl rfl (OS.move (v := e3.val) rfl rfl ?_)
        obtain ⟨newslice2, hnewslice2, hl2⟩ := bind_some hl2
        obtain ⟨ha2, hnewslice2⟩ := app_some hnewslice2
        refine WR.k rfl rfl rfl (OS.append (E := E5) (c := c_4) (i := 16) (xs := newslice) (ys := e2) rfl Try.underlying25 Try.underlying25 (.inl rfl) I5 rfl rfl rfl rfl rfl o4 o7.src (lim_bytes (by decide) ha2) (lim_max (b := 1) (by decide) ha2) ?_); intro v_4 w_5 c_5 o8 s3
        replace o8 : Ow E5 16 w_5 c_5 v_4 newslice2 := by rw [hnewslice2]; exact o8
        refine WR.k rfl rfl rfl (OS.assign (v := v_4) rfl rfl ?_)
        refine WR.nil ?_
        refine WC.region ?_
        refine WR.k rfl rfl rfl (OS.bin (a := vI x27) (b := vI (1 : Int)) rfl h10 rfl bI_add ?_)
        refine WR.k rfl rfl rfl (OS.move (v := vI (W (x27 + (1 : Int)))) rfl rfl ?_)
        refine WR.nil ?_
        exact ⟨k, by omega, _, _, _, _, hl2, rfl, o8, h8, h9, rfl, (s2.t s3).mono (by decide)⟩
      · rw [if_neg (nt hb3)] at hl2
        refine WC.exit ?_
        cases hl2
        exact ⟨_, _, h7, o4, s2.mono (by decide)⟩
    · rintro f_2 w_3 ⟨v_3, c_3, h11, o5, s4⟩
      refine WC.seq (WC.region ?_)
      refine WR.k rfl rfl rfl (OS.move (v := v_3) rfl h11 ?_)
      refine WR.k rfl rfl rfl (OS.assign (v := v_3) rfl rfl ?_)
      refine WR.nil ?_
      refine WC.ret ?_
      repeat first | refine thenQ_ret ?_ | refine blkQ_ret ?_
      cases hp
      obtain ⟨c_6, s5, o9⟩ := o5.recol 2
      exact fnQ.l1 (fn := Try.f30) rfl (.inl ⟨_, rfl, rfl⟩) ⟨_, _, rfl, ((s1.t s4).t s5).entry (by decide), o9⟩

-- holdfast/hash.rounds
set_option maxHeartbeats 4000000 in
theorem W37 (K : Nat) (w0 : World) {r : (List UInt32)} (hp : hash_rounds K = some r) :
    Calls Try.prog 37 [].toArray w0 fun e w1 => ∃ (v0 : Value) (d : Col), e = .returned (v0) ∧ St [] w0 c0 w1 d ∧ Arr E63 2 w1 d v0 r ∧ r.length = 64 := by
  refine calls_intro Try.func37 rfl Try.ntmps37 rfl ?_
  unfold hash_rounds at hp
  refine WC.seq (WC.region ?_)
  refine WR.k rfl rfl rfl (OS.assign (v := .pointer none) rfl rfl ?_)
  refine WR.nil ?_
  refine WC.seq (WC.region ?_)
  obtain ⟨l1, hl1, hp⟩ := bind_some hp
  replace hl1 := (Option.some.inj hl1).symm
  have hl : l1.length = 64 := by rw [hl1]; rfl
  refine WR.k rfl rfl rfl (OS.build (v := .agg (fl E63 l1).toArray) [(0, vU32 (1116352408 : UInt32)), (1, vU32 (1899447441 : UInt32)), (2, vU32 (3049323471 : UInt32)), (3, vU32 (3921009573 : UInt32)), (4, vU32 (961987163 : UInt32)), (5, vU32 (1508970993 : UInt32)), (6, vU32 (2453635748 : UInt32)), (7, vU32 (2870763221 : UInt32)), (8, vU32 (3624381080 : UInt32)), (9, vU32 (310598401 : UInt32)), (10, vU32 (607225278 : UInt32)), (11, vU32 (1426881987 : UInt32)), (12, vU32 (1925078388 : UInt32)), (13, vU32 (2162078206 : UInt32)), (14, vU32 (2614888103 : UInt32)), (15, vU32 (3248222580 : UInt32)), (16, vU32 (3835390401 : UInt32)), (17, vU32 (4022224774 : UInt32)), (18, vU32 (264347078 : UInt32)), (19, vU32 (604807628 : UInt32)), (20, vU32 (770255983 : UInt32)), (21, vU32 (1249150122 : UInt32)), (22, vU32 (1555081692 : UInt32)), (23, vU32 (1996064986 : UInt32)), (24, vU32 (2554220882 : UInt32)), (25, vU32 (2821834349 : UInt32)), (26, vU32 (2952996808 : UInt32)), (27, vU32 (3210313671 : UInt32)), (28, vU32 (3336571891 : UInt32)), (29, vU32 (3584528711 : UInt32)), (30, vU32 (113926993 : UInt32)), (31, vU32 (338241895 : UInt32)), (32, vU32 (666307205 : UInt32)), (33, vU32 (773529912 : UInt32)), (34, vU32 (1294757372 : UInt32)), (35, vU32 (1396182291 : UInt32)), (36, vU32 (1695183700 : UInt32)), (37, vU32 (1986661051 : UInt32)), (38, vU32 (2177026350 : UInt32)), (39, vU32 (2456956037 : UInt32)), (40, vU32 (2730485921 : UInt32)), (41, vU32 (2820302411 : UInt32)), (42, vU32 (3259730800 : UInt32)), (43, vU32 (3345764771 : UInt32)), (44, vU32 (3516065817 : UInt32)), (45, vU32 (3600352804 : UInt32)), (46, vU32 (4094571909 : UInt32)), (47, vU32 (275423344 : UInt32)), (48, vU32 (430227734 : UInt32)), (49, vU32 (506948616 : UInt32)), (50, vU32 (659060556 : UInt32)), (51, vU32 (883997877 : UInt32)), (52, vU32 (958139571 : UInt32)), (53, vU32 (1322822218 : UInt32)), (54, vU32 (1537002063 : UInt32)), (55, vU32 (1747873779 : UInt32)), (56, vU32 (1955562222 : UInt32)), (57, vU32 (2024104815 : UInt32)), (58, vU32 (2227730452 : UInt32)), (59, vU32 (2361852424 : UInt32)), (60, vU32 (2428436474 : UInt32)), (61, vU32 (2756734187 : UInt32)), (62, vU32 (3204031479 : UInt32)), (63, vU32 (3329325298 : UInt32))] rfl ⟨rfl, (by kernel_rfl), rfl, (by kernel_rfl), rfl, (by kernel_rfl), rfl, (by kernel_rfl), rfl, (by kernel_rfl), rfl, (by kernel_rfl), rfl, (by kernel_rfl), rfl, (by kernel_rfl), rfl, (by kernel_rfl), rfl, (by kernel_rfl), rfl, (by kernel_rfl), rfl, (by kernel_rfl), rfl, (by kernel_rfl), rfl, (by kernel_rfl), rfl, (by kernel_rfl), rfl, (by kernel_rfl), rfl, (by kernel_rfl), rfl, (by kernel_rfl), rfl, (by kernel_rfl), rfl, (by kernel_rfl), rfl, (by kernel_rfl), rfl, (by kernel_rfl), rfl, (by kernel_rfl), rfl, (by kernel_rfl), rfl, (by kernel_rfl), rfl, (by kernel_rfl), rfl, (by kernel_rfl), rfl, (by kernel_rfl), rfl, (by kernel_rfl), rfl, (by kernel_rfl), rfl, (by kernel_rfl), rfl, (by kernel_rfl), rfl, (by kernel_rfl), rfl, (by kernel_rfl), rfl, (by kernel_rfl), rfl, (by kernel_rfl), rfl, (by kernel_rfl), rfl, (by kernel_rfl), rfl, (by kernel_rfl), rfl, (by kernel_rfl), rfl, (by kernel_rfl), rfl, (by kernel_rfl), rfl, (by kernel_rfl), rfl, (by kernel_rfl), rfl, (by kernel_rfl), rfl, (by kernel_rfl), rfl, (by kernel_rfl), rfl, (by kernel_rfl), rfl, (by kernel_rfl), rfl, (by kernel_rfl), rfl, (by kernel_rfl), rfl, (by kernel_rfl), rfl, (by kernel_rfl), rfl, (by kernel_rfl), rfl, (by kernel_rfl), rfl, (by kernel_rfl), rfl, (by kernel_rfl), rfl, (by kernel_rfl), rfl, (by kernel_rfl), rfl, (by kernel_rfl), rfl, (by kernel_rfl), rfl, (by kernel_rfl), rfl, (by kernel_rfl), rfl, (by kernel_rfl), trivial⟩ (fun _ => by rw [hl1]; kernel_rfl) ?_)
  refine WR.k rfl rfl rfl (OS.boxArr (E := E63) (c := c0) 12 rfl rfl ?_); intro p_ w_ c_ o s
  refine WR.k rfl rfl rfl (OS.assign (v := p_) rfl rfl ?_)
  refine WR.nil ?_
  refine WC.ret ?_
  repeat first | refine thenQ_ret ?_ | refine blkQ_ret ?_
  cases hp
  obtain ⟨c_1, s1, o1⟩ := o.recol 2
  exact fnQ.l1 (fn := Try.f37) rfl (.inl ⟨_, rfl, rfl⟩) ⟨_, _, rfl, (s.t s1).entry (by decide), o1, hl⟩

-- math/bits.RotateLeft32
set_option maxHeartbeats 4000000 in
theorem W40 (K : Nat) (w0 : World) {x : UInt32} {k1 : Int} {r : UInt32} (hp : bits_RotateLeft32 K x k1 = some r) :
    Calls Try.prog 40 [vU32 x, vI k1].toArray w0 fun e w1 => ∃ (d : Col), e = .returned (vU32 r) ∧ St [] w0 c0 w1 d := by
  refine calls_intro Try.func40 rfl Try.ntmps40 rfl ?_
  unfold bits_RotateLeft32 at hp
  refine WC.seq (WC.region ?_)
  refine WR.k rfl rfl rfl (OS.assign (v := vU32 (0 : UInt32)) rfl (by kernel_rfl) ?_)
  refine WR.nil ?_
  refine WC.seq (WC.region ?_)
  refine WR.k rfl rfl rfl (OS.move (v := vI k1) rfl rfl ?_)
  refine WR.k rfl rfl rfl (OS.conv rfl Try.runUnderlying3 Try.runUnderlying46 rfl (cv_i64 _) ?_)
  refine WR.k rfl rfl rfl (OS.bin (a := vU64 (iU64 k1)) (b := vU64 (31 : UInt64)) rfl rfl (by kernel_rfl) b64_and ?_)
  refine WR.k rfl rfl rfl (OS.assign (v := vU64 ((iU64 k1) &&& (31 : UInt64))) rfl rfl ?_)
  refine WR.nil ?_
  refine WC.seq (WC.region ?_)
  refine WR.k rfl rfl rfl (OS.move (v := vU32 x) rfl rfl ?_)
  refine WR.k rfl rfl rfl (OS.move (v := vU64 ((iU64 k1) &&& (31 : UInt64))) rfl rfl ?_)
  refine WR.k rfl rfl rfl (OS.bin (a := vU32 x) (b := vU64 ((iU64 k1) &&& (31 : UInt64))) rfl rfl rfl (b32_shl (Int.natCast_nonneg _)) ?_)
  refine WR.k rfl rfl rfl (OS.move (v := vU32 x) rfl rfl ?_)
  refine WR.k rfl rfl rfl (OS.move (v := vU64 ((iU64 k1) &&& (31 : UInt64))) rfl rfl ?_)
  refine WR.k rfl rfl rfl (OS.bin (a := vU64 (32 : UInt64)) (b := vU64 ((iU64 k1) &&& (31 : UInt64))) rfl (by kernel_rfl) rfl b64_sub ?_)
  refine WR.k rfl rfl rfl (OS.bin (a := vU32 x) (b := vU64 ((32 : UInt64) - ((iU64 k1) &&& (31 : UInt64)))) rfl rfl rfl (b32_shr (Int.natCast_nonneg _)) ?_)
  refine WR.k rfl rfl rfl (OS.bin (a := vU32 (shl32 x ((iU64 k1) &&& (31 : UInt64)).toNat)) (b := vU32 (shr32 x ((32 : UInt64) - ((iU64 k1) &&& (31 : UInt64))).toNat)) rfl rfl rfl b32_or ?_)
  refine WR.k rfl rfl rfl (OS.assign (v := vU32 ((shl32 x ((iU64 k1) &&& (31 : UInt64)).toNat) ||| (shr32 x ((32 : UInt64) - ((iU64 k1) &&& (31 : UInt64))).toNat))) rfl rfl ?_)
  refine WR.nil ?_
  refine WC.ret ?_
  repeat first | refine thenQ_ret ?_ | refine blkQ_ret ?_
  cases hp
  exact fnQ.l1 (fn := Try.f40) rfl (.inl ⟨_, rfl, rfl⟩) ⟨_, rfl, St.refl⟩

-- (holdfast/hash.words).mix
set_option maxHeartbeats 4000000 in
theorem W38 (K : Nat) (w0 : World) {h : List UInt32} {k1 : List UInt32} {b : List UInt8} {r : (List UInt32)} (hp : hash_words_mix K h k1 b = some r) (hl : h.length = 8) {p_ : Value} (o : Arr E63 0 w0 c0 p_ k1) (hl1 : k1.length = 64) {v_ : Value} (o1 : Vw E5 0 w0 c0 v_ b) :
    Calls Try.prog 38 [.agg (fl E63 h).toArray, p_, v_].toArray w0 fun e w1 => ∃ (d : Col), e = .returned (.agg (fl E63 r).toArray) ∧ St [] w0 c0 w1 d ∧ r.length = 8 := by
  refine calls_intro Try.func38 rfl Try.ntmps38 rfl ?_
  unfold hash_words_mix at hp
  refine WC.seq (WC.region ?_)
  refine WR.k rfl rfl rfl (OS.boxArr (E := E63) (c := c0) 12 rfl rfl ?_); intro p_1 w_ c_ o2 s
  refine WR.k rfl rfl rfl (OS.allocArr (E := E63) (xs := (List.replicate 8 (0 : UInt32))) (c := c_) 13 rfl Try.zeroValue68 (by kernel_rfl) ?_); intro p_2 w_1 c_1 o3 s1
  refine WR.nil ?_
  refine WC.seq (WC.region ?_)
  refine WR.k rfl rfl rfl (OS.allocArr (E := E63) (xs := (List.replicate 64 (0 : UInt32))) (c := c_1) 14 rfl Try.zeroValue72 (by kernel_rfl) ?_); intro p_3 w_2 c_2 o4 s2
  refine WR.nil ?_
  refine WC.seq ?_
  refine WC.seq (WC.region ?_)
  refine WR.k rfl rfl rfl (OS.move (v := vI (0 : Int)) rfl rfl ?_)
  refine WR.nil ?_
  obtain ⟨q, hl4, hp⟩ := bind_some hp
  obtain ⟨xs1, hx⟩ : ∃ z, z = q := ⟨_, rfl⟩; subst hx
  refine WC.blockJ2 (fun f_ w_3 => ∃ (c_3 : Col), f_ 1 = p_ ∧ f_ 3 = p_1 ∧ f_ 6 = p_2 ∧ f_ 7 = p_3 ∧ Arr E63 14 w_3 c_3 p_3 xs1 ∧ xs1.length = 64 ∧ St [14] w_2 c_2 w_3 c_3) ?_ ?_
  · refine WC.loop (fun n => fun f_1 w_4 => ∃ (xs : List UInt32) (x18 : Int) (c_4 : Col), hash_words_mix.l1 K n b xs x18 = some xs1 ∧ f_1 1 = p_ ∧ f_1 2 = v_ ∧ f_1 3 = p_1 ∧ f_1 6 = p_2 ∧ f_1 7 = p_3 ∧ Arr E63 14 w_4 c_4 p_3 xs ∧ xs.length = 64 ∧ f_1 18 = vI x18 ∧ St [14] w_2 c_2 w_4 c_4) K ⟨_, _, _, hl4, rfl, rfl, rfl, rfl, rfl, o4, (List.length_replicate (n := 64) (a := (0 : UInt32))), rfl, St.refl.mono (by decide)⟩ ?_
    rintro n f_1 w_4 ⟨xs, x18, c_4, hl4, h1, h2, h3, h4, h5, o5, hl2, h6, s3⟩
    cases n with
    | zero => exact absurd hl4 (by simp [hash_words_mix.l1])
    | succ k =>
    rw [hash_words_mix.l1] at hl4
    refine WC.seq (WC.region ?_)
    refine WR.k rfl rfl rfl (OS.bin (a := vI x18) (b := vI (64 : Int)) rfl h6 rfl bI_lss ?_)
    refine WR.nil ?_
    refine WC.seq ?_
    refine WC.cond (decide (x18 < (64 : Int))) rfl (fun hb => ?_) (fun hb => ?_)
    · rw [if_pos hb] at hl4
      refine WC.skip ?_
      refine WC.seq ?_
      refine WC.block ?_
      refine WC.seq (WC.region ?_)
      refine WR.k rfl rfl rfl (OS.move (v := vI x18) rfl h6 ?_)
      refine WR.k rfl rfl rfl (OS.assign (v := vI x18) rfl rfl ?_)
      refine WR.nil ?_
      refine WC.seq ?_
      refine WC.seq (WC.region ?_)
      refine WR.k rfl rfl rfl (OS.move (v := vI x18) rfl rfl ?_)
      refine WR.k rfl rfl rfl (OS.bin (a := vI x18) (b := vI (16 : Int)) rfl rfl rfl bI_lss ?_)
      refine WR.nil ?_
      refine WC.cond (decide (x18 < (16 : Int))) rfl (fun hb1 => ?_) (fun hb1 => ?_)
      · rw [if_pos hb1] at hl4
        have o7 := o1.keep (((s.t s1).t s2).t s3) (by decide)
        obtain ⟨e, he, hl4⟩ := bind_some hl4
        obtain ⟨ha, hb2, hc⟩ := gt_some he
        obtain ⟨e1, he1, hl4⟩ := bind_some hl4
        obtain ⟨ha1, hb3, hc1⟩ := gt_some he1
        obtain ⟨e2, he2, hl4⟩ := bind_some hl4
        obtain ⟨ha2, hb4, hc2⟩ := gt_some he2
        obtain ⟨e3, he3, hl4⟩ := bind_some hl4
        obtain ⟨ha3, hb5, hc3⟩ := gt_some he3
        refine WC.seq (WC.draw (c := c_4) ⟨34, [[1], [1], [1], [1], [1], [1], [1], [1], [1], [1], [1], [1], [1], [1], [1], [1], [1], [1], [1], [1], [1], [1], [1], [1], [1], [1], [1], [1], [1], [1], [1], [1], [1], [1]], [[], [], [], [], [], [], [], [], [], [], [], [], [], [], [], [], [], [], [], [], [], [], [], [], [], [], [], [], [], [], [], [], [], []], [], [[], [], [], [2], [1, 3], [4], [5], [6], [], [], [9], [10], [8, 11], [12], [13], [14], [7, 15], [], [], [18], [19], [17, 20], [21], [22], [23], [16, 24], [], [], [27], [28], [26, 29], [30], [31], [25, 32]], [0, 33]⟩ [fun v w c => v = vI x18, fun v w c => v = v_, fun v w c => v = vI x18, fun v w c => v = vI (W ((4 : Int) * x18)), fun v w c => Adr v_ (W ((4 : Int) * x18)).toNat 1 v, fun v w c => v = vU8 e, fun v w c => v = vU32 e.toUInt32, fun v w c => v = vU32 (shl32 e.toUInt32 24), fun v w c => v = v_, fun v w c => v = vI x18, fun v w c => v = vI (W ((4 : Int) * x18)), fun v w c => v = vI (W ((W ((4 : Int) * x18)) + (1 : Int))), fun v w c => Adr v_ (W ((W ((4 : Int) * x18)) + (1 : Int))).toNat 1 v, fun v w c => v = vU8 e1, fun v w c => v = vU32 e1.toUInt32, fun v w c => v = vU32 (shl32 e1.toUInt32 16), fun v w c => v = vU32 ((shl32 e.toUInt32 24) ||| (shl32 e1.toUInt32 16)), fun v w c => v = v_, fun v w c => v = vI x18, fun v w c => v = vI (W ((4 : Int) * x18)), fun v w c => v = vI (W ((W ((4 : Int) * x18)) + (2 : Int))), fun v w c => Adr v_ (W ((W ((4 : Int) * x18)) + (2 : Int))).toNat 1 v, fun v w c => v = vU8 e2, fun v w c => v = vU32 e2.toUInt32, fun v w c => v = vU32 (shl32 e2.toUInt32 8), fun v w c => v = vU32 (((shl32 e.toUInt32 24) ||| (shl32 e1.toUInt32 16)) ||| (shl32 e2.toUInt32 8)), fun v w c => v = v_, fun v w c => v = vI x18, fun v w c => v = vI (W ((4 : Int) * x18)), fun v w c => v = vI (W ((W ((4 : Int) * x18)) + (3 : Int))), fun v w c => Adr v_ (W ((W ((4 : Int) * x18)) + (3 : Int))).toNat 1 v, fun v w c => v = vU8 e3, fun v w c => v = vU32 e3.toUInt32, fun v w c => v = vU32 ((((shl32 e.toUInt32 24) ||| (shl32 e1.toUInt32 16)) ||| (shl32 e2.toUInt32 8)) ||| e3.toUInt32)] hmix (by kernel_rfl) (by kernel_rfl) ⟨?_, ?_, ?_, ?_, ?_, ?_, ?_, ?_, ?_, ?_, ?_, ?_, ?_, ?_, ?_, ?_, ?_, ?_, ?_, ?_, ?_, ?_, ?_, ?_, ?_, ?_, ?_, ?_, ?_, ?_, ?_, ?_, ?_, ?_, trivial⟩ ⟨fun _ _ _ _ _ _ h _ _ => h, fun _ _ _ _ _ _ h _ _ => h, fun _ _ _ _ _ _ h _ _ => h, fun _ _ _ _ _ _ h _ _ => h, fun _ _ _ _ _ _ h _ _ => h, fun _ _ _ _ _ _ h _ _ => h, fun _ _ _ _ _ _ h _ _ => h, fun _ _ _ _ _ _ h _ _ => h, fun _ _ _ _ _ _ h _ _ => h, fun _ _ _ _ _ _ h _ _ => h, fun _ _ _ _ _ _ h _ _ => h, fun _ _ _ _ _ _ h _ _ => h, fun _ _ _ _ _ _ h _ _ => h, fun _ _ _ _ _ _ h _ _ => h, fun _ _ _ _ _ _ h _ _ => h, fun _ _ _ _ _ _ h _ _ => h, fun _ _ _ _ _ _ h _ _ => h, fun _ _ _ _ _ _ h _ _ => h, fun _ _ _ _ _ _ h _ _ => h, fun _ _ _ _ _ _ h _ _ => h, fun _ _ _ _ _ _ h _ _ => h, fun _ _ _ _ _ _ h _ _ => h, fun _ _ _ _ _ _ h _ _ => h, fun _ _ _ _ _ _ h _ _ => h, fun _ _ _ _ _ _ h _ _ => h, fun _ _ _ _ _ _ h _ _ => h, fun _ _ _ _ _ _ h _ _ => h, fun _ _ _ _ _ _ h _ _ => h, fun _ _ _ _ _ _ h _ _ => h, fun _ _ _ _ _ _ h _ _ => h, fun _ _ _ _ _ _ h _ _ => h, fun _ _ _ _ _ _ h _ _ => h, fun _ _ _ _ _ _ h _ _ => h, fun _ _ _ _ _ _ h _ _ => h, trivial⟩ ?_)
        · rintro f_2 w_5 c_5 hB hs1 ⟨-⟩ o ho; obtain rfl : _ = o := Option.some.inj ho
          exact OS.move (v := vI x18) rfl ((hB 8 (by kernel_rfl)).trans rfl) ⟨_, St.refl, rfl⟩
        · rintro f_3 w_6 c_6 hB1 hs2 ⟨-⟩ o ho; obtain rfl : _ = o := Option.some.inj ho
          exact OS.move (v := v_) rfl ((hB1 2 (by kernel_rfl)).trans h2) ⟨_, St.refl, rfl⟩
        · rintro f_4 w_7 c_7 hB2 hs3 ⟨-⟩ o ho; obtain rfl : _ = o := Option.some.inj ho
          exact OS.move (v := vI x18) rfl ((hB2 8 (by kernel_rfl)).trans rfl) ⟨_, St.refl, rfl⟩
        · rintro f_5 w_8 c_8 hB3 hs4 ⟨g, -⟩ o ho; obtain rfl : _ = o := Option.some.inj ho
          replace g : (f_5 25) = vI x18 := g
          exact OS.bin (a := vI (4 : Int)) (b := vI x18) rfl rfl g bI_mul ⟨_, St.refl, rfl⟩
        · rintro f_6 w_9 c_9 hB4 hs5 ⟨g1, g2, -⟩ o ho; obtain rfl : _ = o := Option.some.inj ho
          replace g1 : (f_6 24) = v_ := g1
          replace g2 : (f_6 26) = vI (W ((4 : Int) * x18)) := g2
          have o8 := o1.keep ((((s.t s1).t s2).t s3).t hs5) (by decide)
          exact OS.idx rfl Try.runUnderlying25 Try.sizeOf5 g1 o8.isSl g2 ha hb2 (fun _ h => ⟨_, St.refl, h⟩)
        · rintro f_7 w_10 c_10 hB5 hs6 ⟨g3, -⟩ o ho; obtain rfl : _ = o := Option.some.inj ho
          replace g3 : Adr v_ (W ((4 : Int) * x18)).toNat 1 (f_7 27) := g3
          have o9 := o1.keep ((((s.t s1).t s2).t s3).t hs6) (by decide)
          exact OS.ld1 (u := vU8 e) rfl Try.isAgg5 rfl (o9.ld g3 hc) ⟨_, St.refl, rfl⟩
        · rintro f_8 w_11 c_11 hB6 hs7 ⟨g4, -⟩ o ho; obtain rfl : _ = o := Option.some.inj ho
          replace g4 : (f_8 28) = vU8 e := g4
          exact OS.conv rfl Try.runUnderlying5 Try.runUnderlying63 g4 (cv_8_32 _) ⟨_, St.refl, rfl⟩
        · rintro f_9 w_12 c_12 hB7 hs8 ⟨g5, -⟩ o ho; obtain rfl : _ = o := Option.some.inj ho
          replace g5 : (f_9 29) = vU32 e.toUInt32 := g5
          exact OS.bin (a := vU32 e.toUInt32) (b := vU64 (24 : UInt64)) rfl g5 (by kernel_rfl) (b32_shl (by decide)) ⟨_, St.refl, rfl⟩
        · rintro f_10 w_13 c_13 hB8 hs9 ⟨-⟩ o ho; obtain rfl : _ = o := Option.some.inj ho
          exact OS.move (v := v_) rfl ((hB8 2 (by kernel_rfl)).trans h2) ⟨_, St.refl, rfl⟩
        · rintro f_11 w_14 c_14 hB9 hs10 ⟨-⟩ o ho; obtain rfl : _ = o := Option.some.inj ho
          exact OS.move (v := vI x18) rfl ((hB9 8 (by kernel_rfl)).trans rfl) ⟨_, St.refl, rfl⟩
        · rintro f_12 w_15 c_15 hB10 hs11 ⟨g6, -⟩ o ho; obtain rfl : _ = o := Option.some.inj ho
          replace g6 : (f_12 32) = vI x18 := g6
          exact OS.bin (a := vI (4 : Int)) (b := vI x18) rfl rfl g6 bI_mul ⟨_, St.refl, rfl⟩
        · rintro f_13 w_16 c_16 hB11 hs12 ⟨g7, -⟩ o ho; obtain rfl : _ = o := Option.some.inj ho
          replace g7 : (f_13 33) = vI (W ((4 : Int) * x18)) := g7
          exact OS.bin (a := vI (W ((4 : Int) * x18))) (b := vI (1 : Int)) rfl g7 rfl bI_add ⟨_, St.refl, rfl⟩
        · rintro f_14 w_17 c_17 hB12 hs13 ⟨g8, g9, -⟩ o ho; obtain rfl : _ = o := Option.some.inj ho
          replace g8 : (f_14 31) = v_ := g8
          replace g9 : (f_14 34) = vI (W ((W ((4 : Int) * x18)) + (1 : Int))) := g9
          have o10 := o1.keep ((((s.t s1).t s2).t s3).t hs13) (by decide)
          exact OS.idx rfl Try.runUnderlying25 Try.sizeOf5 g8 o10.isSl g9 ha1 hb3 (fun _ h => ⟨_, St.refl, h⟩)
        · rintro f_15 w_18 c_18 hB13 hs14 ⟨g10, -⟩ o ho; obtain rfl : _ = o := Option.some.inj ho
          replace g10 : Adr v_ (W ((W ((4 : Int) * x18)) + (1 : Int))).toNat 1 (f_15 35) := g10
          have o11 := o1.keep ((((s.t s1).t s2).t s3).t hs14) (by decide)
          exact OS.ld1 (u := vU8 e1) rfl Try.isAgg5 rfl (o11.ld g10 hc1) ⟨_, St.refl, rfl⟩
        · rintro f_16 w_19 c_19 hB14 hs15 ⟨g11, -⟩ o ho; obtain rfl : _ = o := Option.some.inj ho
          replace g11 : (f_16 36) = vU8 e1 := g11
          exact OS.conv rfl Try.runUnderlying5 Try.runUnderlying63 g11 (cv_8_32 _) ⟨_, St.refl, rfl⟩
        · rintro f_17 w_20 c_20 hB15 hs16 ⟨g12, -⟩ o ho; obtain rfl : _ = o := Option.some.inj ho
          replace g12 : (f_17 37) = vU32 e1.toUInt32 := g12
          exact OS.bin (a := vU32 e1.toUInt32) (b := vU64 (16 : UInt64)) rfl g12 (by kernel_rfl) (b32_shl (by decide)) ⟨_, St.refl, rfl⟩
        · rintro f_18 w_21 c_21 hB16 hs17 ⟨g13, g14, -⟩ o ho; obtain rfl : _ = o := Option.some.inj ho
          replace g13 : (f_18 30) = vU32 (shl32 e.toUInt32 24) := g13
          replace g14 : (f_18 38) = vU32 (shl32 e1.toUInt32 16) := g14
          exact OS.bin (a := vU32 (shl32 e.toUInt32 24)) (b := vU32 (shl32 e1.toUInt32 16)) rfl g13 g14 b32_or ⟨_, St.refl, rfl⟩
        · rintro f_19 w_22 c_22 hB17 hs18 ⟨-⟩ o ho; obtain rfl : _ = o := Option.some.inj ho
          exact OS.move (v := v_) rfl ((hB17 2 (by kernel_rfl)).trans h2) ⟨_, St.refl, rfl⟩
        · rintro f_20 w_23 c_23 hB18 hs19 ⟨-⟩ o ho; obtain rfl : _ = o := Option.some.inj ho
          exact OS.move (v := vI x18) rfl ((hB18 8 (by kernel_rfl)).trans rfl) ⟨_, St.refl, rfl⟩
        · rintro f_21 w_24 c_24 hB19 hs20 ⟨g15, -⟩ o ho; obtain rfl : _ = o := Option.some.inj ho
          replace g15 : (f_21 41) = vI x18 := g15
          exact OS.bin (a := vI (4 : Int)) (b := vI x18) rfl rfl g15 bI_mul ⟨_, St.refl, rfl⟩
        · rintro f_22 w_25 c_25 hB20 hs21 ⟨g16, -⟩ o ho; obtain rfl : _ = o := Option.some.inj ho
          replace g16 : (f_22 42) = vI (W ((4 : Int) * x18)) := g16
          exact OS.bin (a := vI (W ((4 : Int) * x18))) (b := vI (2 : Int)) rfl g16 rfl bI_add ⟨_, St.refl, rfl⟩
        · rintro f_23 w_26 c_26 hB21 hs22 ⟨g17, g18, -⟩ o ho; obtain rfl : _ = o := Option.some.inj ho
          replace g17 : (f_23 40) = v_ := g17
          replace g18 : (f_23 43) = vI (W ((W ((4 : Int) * x18)) + (2 : Int))) := g18
          have o12 := o1.keep ((((s.t s1).t s2).t s3).t hs22) (by decide)
          exact OS.idx rfl Try.runUnderlying25 Try.sizeOf5 g17 o12.isSl g18 ha2 hb4 (fun _ h => ⟨_, St.refl, h⟩)
        · rintro f_24 w_27 c_27 hB22 hs23 ⟨g19, -⟩ o ho; obtain rfl : _ = o := Option.some.inj ho
          replace g19 : Adr v_ (W ((W ((4 : Int) * x18)) + (2 : Int))).toNat 1 (f_24 44) := g19
          have o13 := o1.keep ((((s.t s1).t s2).t s3).t hs23) (by decide)
          exact OS.ld1 (u := vU8 e2) rfl Try.isAgg5 rfl (o13.ld g19 hc2) ⟨_, St.refl, rfl⟩
        · rintro f_25 w_28 c_28 hB23 hs24 ⟨g20, -⟩ o ho; obtain rfl : _ = o := Option.some.inj ho
          replace g20 : (f_25 45) = vU8 e2 := g20
          exact OS.conv rfl Try.runUnderlying5 Try.runUnderlying63 g20 (cv_8_32 _) ⟨_, St.refl, rfl⟩
        · rintro f_26 w_29 c_29 hB24 hs25 ⟨g21, -⟩ o ho; obtain rfl : _ = o := Option.some.inj ho
          replace g21 : (f_26 46) = vU32 e2.toUInt32 := g21
          exact OS.bin (a := vU32 e2.toUInt32) (b := vU64 (8 : UInt64)) rfl g21 (by kernel_rfl) (b32_shl (by decide)) ⟨_, St.refl, rfl⟩
        · rintro f_27 w_30 c_30 hB25 hs26 ⟨g22, g23, -⟩ o ho; obtain rfl : _ = o := Option.some.inj ho
          replace g22 : (f_27 39) = vU32 ((shl32 e.toUInt32 24) ||| (shl32 e1.toUInt32 16)) := g22
          replace g23 : (f_27 47) = vU32 (shl32 e2.toUInt32 8) := g23
          exact OS.bin (a := vU32 ((shl32 e.toUInt32 24) ||| (shl32 e1.toUInt32 16))) (b := vU32 (shl32 e2.toUInt32 8)) rfl g22 g23 b32_or ⟨_, St.refl, rfl⟩
        · rintro f_28 w_31 c_31 hB26 hs27 ⟨-⟩ o ho; obtain rfl : _ = o := Option.some.inj ho
          exact OS.move (v := v_) rfl ((hB26 2 (by kernel_rfl)).trans h2) ⟨_, St.refl, rfl⟩
        · rintro f_29 w_32 c_32 hB27 hs28 ⟨-⟩ o ho; obtain rfl : _ = o := Option.some.inj ho
          exact OS.move (v := vI x18) rfl ((hB27 8 (by kernel_rfl)).trans rfl) ⟨_, St.refl, rfl⟩
        · rintro f_30 w_33 c_33 hB28 hs29 ⟨g24, -⟩ o ho; obtain rfl : _ = o := Option.some.inj ho
          replace g24 : (f_30 50) = vI x18 := g24
          exact OS.bin (a := vI (4 : Int)) (b := vI x18) rfl rfl g24 bI_mul ⟨_, St.refl, rfl⟩
        · rintro f_31 w_34 c_34 hB29 hs30 ⟨g25, -⟩ o ho; obtain rfl : _ = o := Option.some.inj ho
          replace g25 : (f_31 51) = vI (W ((4 : Int) * x18)) := g25
          exact OS.bin (a := vI (W ((4 : Int) * x18))) (b := vI (3 : Int)) rfl g25 rfl bI_add ⟨_, St.refl, rfl⟩
        · rintro f_32 w_35 c_35 hB30 hs31 ⟨g26, g27, -⟩ o ho; obtain rfl : _ = o := Option.some.inj ho
          replace g26 : (f_32 49) = v_ := g26
          replace g27 : (f_32 52) = vI (W ((W ((4 : Int) * x18)) + (3 : Int))) := g27
          have o14 := o1.keep ((((s.t s1).t s2).t s3).t hs31) (by decide)
          exact OS.idx rfl Try.runUnderlying25 Try.sizeOf5 g26 o14.isSl g27 ha3 hb5 (fun _ h => ⟨_, St.refl, h⟩)
        · rintro f_33 w_36 c_36 hB31 hs32 ⟨g28, -⟩ o ho; obtain rfl : _ = o := Option.some.inj ho
          replace g28 : Adr v_ (W ((W ((4 : Int) * x18)) + (3 : Int))).toNat 1 (f_33 53) := g28
          have o15 := o1.keep ((((s.t s1).t s2).t s3).t hs32) (by decide)
          exact OS.ld1 (u := vU8 e3) rfl Try.isAgg5 rfl (o15.ld g28 hc3) ⟨_, St.refl, rfl⟩
        · rintro f_34 w_37 c_37 hB32 hs33 ⟨g29, -⟩ o ho; obtain rfl : _ = o := Option.some.inj ho
          replace g29 : (f_34 54) = vU8 e3 := g29
          exact OS.conv rfl Try.runUnderlying5 Try.runUnderlying63 g29 (cv_8_32 _) ⟨_, St.refl, rfl⟩
        · rintro f_35 w_38 c_38 hB33 hs34 ⟨g30, g31, -⟩ o ho; obtain rfl : _ = o := Option.some.inj ho
          replace g30 : (f_35 48) = vU32 (((shl32 e.toUInt32 24) ||| (shl32 e1.toUInt32 16)) ||| (shl32 e2.toUInt32 8)) := g30
          replace g31 : (f_35 55) = vU32 e3.toUInt32 := g31
          exact OS.bin (a := vU32 (((shl32 e.toUInt32 24) ||| (shl32 e1.toUInt32 16)) ||| (shl32 e2.toUInt32 8))) (b := vU32 e3.toUInt32) rfl g30 g31 b32_or ⟨_, St.refl, rfl⟩
        · rintro f_36 w_39 c_39 hB34 hs35 ⟨g32, g33, -⟩
          have h7 := (hB34 1 (by kernel_rfl)).trans h1
          have h8 := (hB34 2 (by kernel_rfl)).trans h2
          have h9 := (hB34 3 (by kernel_rfl)).trans h3
          have h10 := (hB34 6 (by kernel_rfl)).trans h4
          have h11 := (hB34 7 (by kernel_rfl)).trans h5
          have h12 := (hB34 18 (by kernel_rfl)).trans h6
          replace g32 : (f_36 23) = vI x18 := g32
          replace g33 : (f_36 56) = vU32 ((((shl32 e.toUInt32 24) ||| (shl32 e1.toUInt32 16)) ||| (shl32 e2.toUInt32 8)) ||| e3.toUInt32) := g33
          have o16 := o5.keep hs35 (by decide)
          obtain ⟨u, hu, hl4⟩ := bind_some hl4
          obtain ⟨ha4, hb6⟩ := req_some hu
          refine WR.k rfl rfl rfl (OS.idxArr rfl Try.runUnderlying72 Try.sizeOf63 h11 o16 g32 ha4 (by have := hb6; rw [hl2] at this; exact this) ?_); intro p_4 a5
          obtain ⟨xs2, hxs2, hl4⟩ := bind_some hl4
          replace hxs2 := (Option.some.inj hxs2).symm
          refine WR.k0 rfl rfl (OS.stArr (q := (((shl32 e.toUInt32 24) ||| (shl32 e1.toUInt32 16)) ||| (shl32 e2.toUInt32 8)) ||| e3.toUInt32) (u := vU32 ((((shl32 e.toUInt32 24) ||| (shl32 e1.toUInt32 16)) ||| (shl32 e2.toUInt32 8)) ||| e3.toUInt32)) rfl Try.sizeOf63 rfl g33 o16 rfl a5 (by have h1 := (by have := hb6; rw [hl2] at this; exact this); rw [hl2]; omega) rfl ?_); intro w_40 o17 s4
          replace o17 : Arr E63 14 w_40 c_39 p_3 xs2 := by rw [hxs2]; exact o17
          have hl5 : xs2.length = 64 := (by rw [hxs2, List.length_set]; exact hl2)
          refine WR.nil ?_
          refine WC.exit ?_
          refine WC.region ?_
          refine WR.k rfl rfl rfl (OS.bin (a := vI x18) (b := vI (1 : Int)) rfl h12 rfl bI_add ?_)
          refine WR.k rfl rfl rfl (OS.move (v := vI (W (x18 + (1 : Int)))) rfl rfl ?_)
          refine WR.nil ?_
          exact ⟨k, by omega, _, _, _, hl4, h7, h8, h9, h10, h11, o17, hl5, rfl, ((s3.t hs35).t s4).mono (by decide)⟩
      · rw [if_neg (nt hb1)] at hl4
        refine WC.skip ?_
        obtain ⟨e4, he4, hl4⟩ := bind_some hl4
        obtain ⟨ha5, hb7, hc4⟩ := gt_some he4
        obtain ⟨r_, hr_, hl4⟩ := bind_some hl4
        obtain ⟨e5, he5, hl4⟩ := bind_some hl4
        obtain ⟨ha6, hb8, hc5⟩ := gt_some he5
        obtain ⟨r_1, hr_1, hl4⟩ := bind_some hl4
        obtain ⟨e6, he6, hl4⟩ := bind_some hl4
        obtain ⟨ha7, hb9, hc6⟩ := gt_some he6
        refine WC.seq (WC.draw (c := c_4) ⟨16, [[1], [1], [1], [1], [1], [1], [1], [1], [1], [1], [1], [1], [1], [1], [1], [1]], [[], [], [], [], [], [], [], [], [], [], [], [], [], [], [], []], [], [[], [0], [1], [2], [3], [], [5], [6], [7], [8], [4, 9], [], [11], [12], [13], [14]], [10, 15]⟩ [fun v w c => v = vI x18, fun v w c => v = vI (W (x18 - (15 : Int))), fun v w c => AdrP p_3 (W (x18 - (15 : Int))).toNat 1 v, fun v w c => v = vU32 e4, fun v w c => v = vU32 r_, fun v w c => v = vI x18, fun v w c => v = vI (W (x18 - (15 : Int))), fun v w c => AdrP p_3 (W (x18 - (15 : Int))).toNat 1 v, fun v w c => v = vU32 e5, fun v w c => v = vU32 r_1, fun v w c => v = vU32 (r_ ^^^ r_1), fun v w c => v = vI x18, fun v w c => v = vI (W (x18 - (15 : Int))), fun v w c => AdrP p_3 (W (x18 - (15 : Int))).toNat 1 v, fun v w c => v = vU32 e6, fun v w c => v = vU32 (shr32 e6 3)] hmix (by kernel_rfl) (by kernel_rfl) ⟨?_, ?_, ?_, ?_, ?_, ?_, ?_, ?_, ?_, ?_, ?_, ?_, ?_, ?_, ?_, ?_, trivial⟩ ⟨fun _ _ _ _ _ _ h _ _ => h, fun _ _ _ _ _ _ h _ _ => h, fun _ _ _ _ _ _ h _ _ => h, fun _ _ _ _ _ _ h _ _ => h, fun _ _ _ _ _ _ h _ _ => h, fun _ _ _ _ _ _ h _ _ => h, fun _ _ _ _ _ _ h _ _ => h, fun _ _ _ _ _ _ h _ _ => h, fun _ _ _ _ _ _ h _ _ => h, fun _ _ _ _ _ _ h _ _ => h, fun _ _ _ _ _ _ h _ _ => h, fun _ _ _ _ _ _ h _ _ => h, fun _ _ _ _ _ _ h _ _ => h, fun _ _ _ _ _ _ h _ _ => h, fun _ _ _ _ _ _ h _ _ => h, fun _ _ _ _ _ _ h _ _ => h, trivial⟩ ?_)
        · rintro f_37 w_41 c_40 hB35 hs36 ⟨-⟩ o ho; obtain rfl : _ = o := Option.some.inj ho
          exact OS.move (v := vI x18) rfl ((hB35 8 (by kernel_rfl)).trans rfl) ⟨_, St.refl, rfl⟩
        · rintro f_38 w_42 c_41 hB36 hs37 ⟨g34, -⟩ o ho; obtain rfl : _ = o := Option.some.inj ho
          replace g34 : (f_38 58) = vI x18 := g34
          exact OS.bin (a := vI x18) (b := vI (15 : Int)) rfl g34 rfl bI_sub ⟨_, St.refl, rfl⟩
        · rintro f_39 w_43 c_42 hB37 hs38 ⟨g35, -⟩ o ho; obtain rfl : _ = o := Option.some.inj ho
          replace g35 : (f_39 59) = vI (W (x18 - (15 : Int))) := g35
          have o18 := o5.keep hs38 (by decide)
          exact OS.idxArr rfl Try.runUnderlying72 Try.sizeOf63 ((hB37 7 (by kernel_rfl)).trans h5) o18 g35 ha5 (by have := hb7; rw [hl2] at this; exact this) (fun _ h => ⟨_, St.refl, h⟩)
        · rintro f_40 w_44 c_43 hB38 hs39 ⟨g36, -⟩ o ho; obtain rfl : _ = o := Option.some.inj ho
          replace g36 : AdrP p_3 (W (x18 - (15 : Int))).toNat 1 (f_40 60) := g36
          have o19 := o5.keep hs39 (by decide)
          exact OS.ld1 (u := vU32 e4) rfl Try.isAgg63 rfl (o19.ld g36 hc4) ⟨_, St.refl, rfl⟩
        · rintro f_41 w_45 c_44 hB39 hs40 ⟨g37, -⟩ o ho; obtain rfl : _ = o := Option.some.inj ho
          replace g37 : (f_41 61) = vU32 e4 := g37
          refine OS.callF (vs := [vU32 e4, vI (-7 : Int)]) rfl ⟨g37, rfl, trivial⟩ Try.call40 ((W40 K w_45 hr_).mono ?_)
          rintro _ w ⟨d, rfl, s⟩
          exact ⟨_, rfl, _, s.merge id, rfl⟩
        · rintro f_42 w_46 c_45 hB40 hs41 ⟨-⟩ o ho; obtain rfl : _ = o := Option.some.inj ho
          exact OS.move (v := vI x18) rfl ((hB40 8 (by kernel_rfl)).trans rfl) ⟨_, St.refl, rfl⟩
        · rintro f_43 w_47 c_46 hB41 hs42 ⟨g38, -⟩ o ho; obtain rfl : _ = o := Option.some.inj ho
          replace g38 : (f_43 63) = vI x18 := g38
          exact OS.bin (a := vI x18) (b := vI (15 : Int)) rfl g38 rfl bI_sub ⟨_, St.refl, rfl⟩
        · rintro f_44 w_48 c_47 hB42 hs43 ⟨g39, -⟩ o ho; obtain rfl : _ = o := Option.some.inj ho
          replace g39 : (f_44 64) = vI (W (x18 - (15 : Int))) := g39
          have o20 := o5.keep hs43 (by decide)
          exact OS.idxArr rfl Try.runUnderlying72 Try.sizeOf63 ((hB42 7 (by kernel_rfl)).trans h5) o20 g39 ha6 (by have := hb8; rw [hl2] at this; exact this) (fun _ h => ⟨_, St.refl, h⟩)
        · rintro f_45 w_49 c_48 hB43 hs44 ⟨g40, -⟩ o ho; obtain rfl : _ = o := Option.some.inj ho
          replace g40 : AdrP p_3 (W (x18 - (15 : Int))).toNat 1 (f_45 65) := g40
          have o21 := o5.keep hs44 (by decide)
          exact OS.ld1 (u := vU32 e5) rfl Try.isAgg63 rfl (o21.ld g40 hc5) ⟨_, St.refl, rfl⟩
        · rintro f_46 w_50 c_49 hB44 hs45 ⟨g41, -⟩ o ho; obtain rfl : _ = o := Option.some.inj ho
          replace g41 : (f_46 66) = vU32 e5 := g41
          refine OS.callF (vs := [vU32 e5, vI (-18 : Int)]) rfl ⟨g41, rfl, trivial⟩ Try.call40 ((W40 K w_50 hr_1).mono ?_)
          rintro _ w ⟨d, rfl, s⟩
          exact ⟨_, rfl, _, s.merge id, rfl⟩
        · rintro f_47 w_51 c_50 hB45 hs46 ⟨g42, g43, -⟩ o ho; obtain rfl : _ = o := Option.some.inj ho
          replace g42 : (f_47 62) = vU32 r_ := g42
          replace g43 : (f_47 67) = vU32 r_1 := g43
          exact OS.bin (a := vU32 r_) (b := vU32 r_1) rfl g42 g43 b32_xor ⟨_, St.refl, rfl⟩
        · rintro f_48 w_52 c_51 hB46 hs47 ⟨-⟩ o ho; obtain rfl : _ = o := Option.some.inj ho
          exact OS.move (v := vI x18) rfl ((hB46 8 (by kernel_rfl)).trans rfl) ⟨_, St.refl, rfl⟩
        · rintro f_49 w_53 c_52 hB47 hs48 ⟨g44, -⟩ o ho; obtain rfl : _ = o := Option.some.inj ho
          replace g44 : (f_49 69) = vI x18 := g44
          exact OS.bin (a := vI x18) (b := vI (15 : Int)) rfl g44 rfl bI_sub ⟨_, St.refl, rfl⟩
        · rintro f_50 w_54 c_53 hB48 hs49 ⟨g45, -⟩ o ho; obtain rfl : _ = o := Option.some.inj ho
          replace g45 : (f_50 70) = vI (W (x18 - (15 : Int))) := g45
          have o22 := o5.keep hs49 (by decide)
          exact OS.idxArr rfl Try.runUnderlying72 Try.sizeOf63 ((hB48 7 (by kernel_rfl)).trans h5) o22 g45 ha7 (by have := hb9; rw [hl2] at this; exact this) (fun _ h => ⟨_, St.refl, h⟩)
        · rintro f_51 w_55 c_54 hB49 hs50 ⟨g46, -⟩ o ho; obtain rfl : _ = o := Option.some.inj ho
          replace g46 : AdrP p_3 (W (x18 - (15 : Int))).toNat 1 (f_51 71) := g46
          have o23 := o5.keep hs50 (by decide)
          exact OS.ld1 (u := vU32 e6) rfl Try.isAgg63 rfl (o23.ld g46 hc6) ⟨_, St.refl, rfl⟩
        · rintro f_52 w_56 c_55 hB50 hs51 ⟨g47, -⟩ o ho; obtain rfl : _ = o := Option.some.inj ho
          replace g47 : (f_52 72) = vU32 e6 := g47
          exact OS.bin (a := vU32 e6) (b := vU64 (3 : UInt64)) rfl g47 (by kernel_rfl) (b32_shr (by decide)) ⟨_, St.refl, rfl⟩
        · rintro f_53 w_57 c_56 hB51 hs52 ⟨g48, g49, -⟩
          have h13 := (hB51 1 (by kernel_rfl)).trans h1
          have h14 := (hB51 2 (by kernel_rfl)).trans h2
          have h15 := (hB51 3 (by kernel_rfl)).trans h3
          have h16 := (hB51 6 (by kernel_rfl)).trans h4
          have h17 := (hB51 7 (by kernel_rfl)).trans h5
          have h18 := (hB51 18 (by kernel_rfl)).trans h6
          have h19 := (hB51 8 (by kernel_rfl)).trans (show _ = vI x18 from rfl)
          replace g48 : (f_53 68) = vU32 (r_ ^^^ r_1) := g48
          replace g49 : (f_53 73) = vU32 (shr32 e6 3) := g49
          refine WR.k rfl rfl rfl (OS.bin (a := vU32 (r_ ^^^ r_1)) (b := vU32 (shr32 e6 3)) rfl g48 g49 b32_xor ?_)
          refine WR.k rfl rfl rfl (OS.assign (v := vU32 ((r_ ^^^ r_1) ^^^ (shr32 e6 3))) rfl rfl ?_)
          refine WR.nil ?_
          have o24 := o5.keep hs52 (by decide)
          obtain ⟨e7, he7, hl4⟩ := bind_some hl4
          obtain ⟨ha8, hb10, hc7⟩ := gt_some he7
          obtain ⟨r_2, hr_2, hl4⟩ := bind_some hl4
          obtain ⟨e8, he8, hl4⟩ := bind_some hl4
          obtain ⟨ha9, hb11, hc8⟩ := gt_some he8
          obtain ⟨r_3, hr_3, hl4⟩ := bind_some hl4
          obtain ⟨e9, he9, hl4⟩ := bind_some hl4
          obtain ⟨ha10, hb12, hc9⟩ := gt_some he9
          refine WC.seq (WC.draw (c := c_56) ⟨16, [[1], [1], [1], [1], [1], [1], [1], [1], [1], [1], [1], [1], [1], [1], [1], [1]], [[], [], [], [], [], [], [], [], [], [], [], [], [], [], [], []], [], [[], [0], [1], [2], [3], [], [5], [6], [7], [8], [4, 9], [], [11], [12], [13], [14]], [10, 15]⟩ [fun v w c => v = vI x18, fun v w c => v = vI (W (x18 - (2 : Int))), fun v w c => AdrP p_3 (W (x18 - (2 : Int))).toNat 1 v, fun v w c => v = vU32 e7, fun v w c => v = vU32 r_2, fun v w c => v = vI x18, fun v w c => v = vI (W (x18 - (2 : Int))), fun v w c => AdrP p_3 (W (x18 - (2 : Int))).toNat 1 v, fun v w c => v = vU32 e8, fun v w c => v = vU32 r_3, fun v w c => v = vU32 (r_2 ^^^ r_3), fun v w c => v = vI x18, fun v w c => v = vI (W (x18 - (2 : Int))), fun v w c => AdrP p_3 (W (x18 - (2 : Int))).toNat 1 v, fun v w c => v = vU32 e9, fun v w c => v = vU32 (shr32 e9 10)] hmix (by kernel_rfl) (by kernel_rfl) ⟨?_, ?_, ?_, ?_, ?_, ?_, ?_, ?_, ?_, ?_, ?_, ?_, ?_, ?_, ?_, ?_, trivial⟩ ⟨fun _ _ _ _ _ _ h _ _ => h, fun _ _ _ _ _ _ h _ _ => h, fun _ _ _ _ _ _ h _ _ => h, fun _ _ _ _ _ _ h _ _ => h, fun _ _ _ _ _ _ h _ _ => h, fun _ _ _ _ _ _ h _ _ => h, fun _ _ _ _ _ _ h _ _ => h, fun _ _ _ _ _ _ h _ _ => h, fun _ _ _ _ _ _ h _ _ => h, fun _ _ _ _ _ _ h _ _ => h, fun _ _ _ _ _ _ h _ _ => h, fun _ _ _ _ _ _ h _ _ => h, fun _ _ _ _ _ _ h _ _ => h, fun _ _ _ _ _ _ h _ _ => h, fun _ _ _ _ _ _ h _ _ => h, fun _ _ _ _ _ _ h _ _ => h, trivial⟩ ?_)
          · rintro f_54 w_58 c_57 hB52 hs53 ⟨-⟩ o ho; obtain rfl : _ = o := Option.some.inj ho
            exact OS.move (v := vI x18) rfl ((hB52 8 (by kernel_rfl)).trans h19) ⟨_, St.refl, rfl⟩
          · rintro f_55 w_59 c_58 hB53 hs54 ⟨g50, -⟩ o ho; obtain rfl : _ = o := Option.some.inj ho
            replace g50 : (f_55 75) = vI x18 := g50
            exact OS.bin (a := vI x18) (b := vI (2 : Int)) rfl g50 rfl bI_sub ⟨_, St.refl, rfl⟩
          · rintro f_56 w_60 c_59 hB54 hs55 ⟨g51, -⟩ o ho; obtain rfl : _ = o := Option.some.inj ho
            replace g51 : (f_56 76) = vI (W (x18 - (2 : Int))) := g51
            have o25 := o5.keep (hs52.t hs55) (by decide)
            exact OS.idxArr rfl Try.runUnderlying72 Try.sizeOf63 ((hB54 7 (by kernel_rfl)).trans h17) o25 g51 ha8 (by have := hb10; rw [hl2] at this; exact this) (fun _ h => ⟨_, St.refl, h⟩)
          · rintro f_57 w_61 c_60 hB55 hs56 ⟨g52, -⟩ o ho; obtain rfl : _ = o := Option.some.inj ho
            replace g52 : AdrP p_3 (W (x18 - (2 : Int))).toNat 1 (f_57 77) := g52
            have o26 := o5.keep (hs52.t hs56) (by decide)
            exact OS.ld1 (u := vU32 e7) rfl Try.isAgg63 rfl (o26.ld g52 hc7) ⟨_, St.refl, rfl⟩
          · rintro f_58 w_62 c_61 hB56 hs57 ⟨g53, -⟩ o ho; obtain rfl : _ = o := Option.some.inj ho
            replace g53 : (f_58 78) = vU32 e7 := g53
            refine OS.callF (vs := [vU32 e7, vI (-17 : Int)]) rfl ⟨g53, rfl, trivial⟩ Try.call40 ((W40 K w_62 hr_2).mono ?_)
            rintro _ w ⟨d, rfl, s⟩
            exact ⟨_, rfl, _, s.merge id, rfl⟩
          · rintro f_59 w_63 c_62 hB57 hs58 ⟨-⟩ o ho; obtain rfl : _ = o := Option.some.inj ho
            exact OS.move (v := vI x18) rfl ((hB57 8 (by kernel_rfl)).trans h19) ⟨_, St.refl, rfl⟩
          · rintro f_60 w_64 c_63 hB58 hs59 ⟨g54, -⟩ o ho; obtain rfl : _ = o := Option.some.inj ho
            replace g54 : (f_60 80) = vI x18 := g54
            exact OS.bin (a := vI x18) (b := vI (2 : Int)) rfl g54 rfl bI_sub ⟨_, St.refl, rfl⟩
          · rintro f_61 w_65 c_64 hB59 hs60 ⟨g55, -⟩ o ho; obtain rfl : _ = o := Option.some.inj ho
            replace g55 : (f_61 81) = vI (W (x18 - (2 : Int))) := g55
            have o27 := o5.keep (hs52.t hs60) (by decide)
            exact OS.idxArr rfl Try.runUnderlying72 Try.sizeOf63 ((hB59 7 (by kernel_rfl)).trans h17) o27 g55 ha9 (by have := hb11; rw [hl2] at this; exact this) (fun _ h => ⟨_, St.refl, h⟩)
          · rintro f_62 w_66 c_65 hB60 hs61 ⟨g56, -⟩ o ho; obtain rfl : _ = o := Option.some.inj ho
            replace g56 : AdrP p_3 (W (x18 - (2 : Int))).toNat 1 (f_62 82) := g56
            have o28 := o5.keep (hs52.t hs61) (by decide)
            exact OS.ld1 (u := vU32 e8) rfl Try.isAgg63 rfl (o28.ld g56 hc8) ⟨_, St.refl, rfl⟩
          · rintro f_63 w_67 c_66 hB61 hs62 ⟨g57, -⟩ o ho; obtain rfl : _ = o := Option.some.inj ho
            replace g57 : (f_63 83) = vU32 e8 := g57
            refine OS.callF (vs := [vU32 e8, vI (-19 : Int)]) rfl ⟨g57, rfl, trivial⟩ Try.call40 ((W40 K w_67 hr_3).mono ?_)
            rintro _ w ⟨d, rfl, s⟩
            exact ⟨_, rfl, _, s.merge id, rfl⟩
          · rintro f_64 w_68 c_67 hB62 hs63 ⟨g58, g59, -⟩ o ho; obtain rfl : _ = o := Option.some.inj ho
            replace g58 : (f_64 79) = vU32 r_2 := g58
            replace g59 : (f_64 84) = vU32 r_3 := g59
            exact OS.bin (a := vU32 r_2) (b := vU32 r_3) rfl g58 g59 b32_xor ⟨_, St.refl, rfl⟩
          · rintro f_65 w_69 c_68 hB63 hs64 ⟨-⟩ o ho; obtain rfl : _ = o := Option.some.inj ho
            exact OS.move (v := vI x18) rfl ((hB63 8 (by kernel_rfl)).trans h19) ⟨_, St.refl, rfl⟩
          · rintro f_66 w_70 c_69 hB64 hs65 ⟨g60, -⟩ o ho; obtain rfl : _ = o := Option.some.inj ho
            replace g60 : (f_66 86) = vI x18 := g60
            exact OS.bin (a := vI x18) (b := vI (2 : Int)) rfl g60 rfl bI_sub ⟨_, St.refl, rfl⟩
          · rintro f_67 w_71 c_70 hB65 hs66 ⟨g61, -⟩ o ho; obtain rfl : _ = o := Option.some.inj ho
            replace g61 : (f_67 87) = vI (W (x18 - (2 : Int))) := g61
            have o29 := o5.keep (hs52.t hs66) (by decide)
            exact OS.idxArr rfl Try.runUnderlying72 Try.sizeOf63 ((hB65 7 (by kernel_rfl)).trans h17) o29 g61 ha10 (by have := hb12; rw [hl2] at this; exact this) (fun _ h => ⟨_, St.refl, h⟩)
          · rintro f_68 w_72 c_71 hB66 hs67 ⟨g62, -⟩ o ho; obtain rfl : _ = o := Option.some.inj ho
            replace g62 : AdrP p_3 (W (x18 - (2 : Int))).toNat 1 (f_68 88) := g62
            have o30 := o5.keep (hs52.t hs67) (by decide)
            exact OS.ld1 (u := vU32 e9) rfl Try.isAgg63 rfl (o30.ld g62 hc9) ⟨_, St.refl, rfl⟩
          · rintro f_69 w_73 c_72 hB67 hs68 ⟨g63, -⟩ o ho; obtain rfl : _ = o := Option.some.inj ho
            replace g63 : (f_69 89) = vU32 e9 := g63
            exact OS.bin (a := vU32 e9) (b := vU64 (10 : UInt64)) rfl g63 (by kernel_rfl) (b32_shr (by decide)) ⟨_, St.refl, rfl⟩
          · rintro f_70 w_74 c_73 hB68 hs69 ⟨g64, g65, -⟩
            have h20 := (hB68 1 (by kernel_rfl)).trans h13
            have h21 := (hB68 2 (by kernel_rfl)).trans h14
            have h22 := (hB68 3 (by kernel_rfl)).trans h15
            have h23 := (hB68 6 (by kernel_rfl)).trans h16
            have h24 := (hB68 7 (by kernel_rfl)).trans h17
            have h25 := (hB68 18 (by kernel_rfl)).trans h18
            have h26 := (hB68 8 (by kernel_rfl)).trans h19
            have h27 := (hB68 9 (by kernel_rfl)).trans (show _ = vU32 ((r_ ^^^ r_1) ^^^ (shr32 e6 3)) from rfl)
            replace g64 : (f_70 85) = vU32 (r_2 ^^^ r_3) := g64
            replace g65 : (f_70 90) = vU32 (shr32 e9 10) := g65
            refine WR.k rfl rfl rfl (OS.bin (a := vU32 (r_2 ^^^ r_3)) (b := vU32 (shr32 e9 10)) rfl g64 g65 b32_xor ?_)
            refine WR.k rfl rfl rfl (OS.assign (v := vU32 ((r_2 ^^^ r_3) ^^^ (shr32 e9 10))) rfl rfl ?_)
            refine WR.nil ?_
            have o31 := o5.keep (hs52.t hs69) (by decide)
            obtain ⟨e10, he10, hl4⟩ := bind_some hl4
            obtain ⟨ha11, hb13, hc10⟩ := gt_some he10
            obtain ⟨e11, he11, hl4⟩ := bind_some hl4
            obtain ⟨ha12, hb14, hc11⟩ := gt_some he11
            refine WC.draw (c := c_73) ⟨14, [[1], [1], [1], [1], [1], [1], [1], [1], [1], [1], [1], [1], [1], [1]], [[], [], [], [], [], [], [], [], [], [], [], [], [], []], [], [[], [], [1], [2], [3], [], [4, 5], [], [7], [8], [9], [6, 10], [], [11, 12]], [0, 13]⟩ [fun v w c => v = vI x18, fun v w c => v = vI x18, fun v w c => v = vI (W (x18 - (16 : Int))), fun v w c => AdrP p_3 (W (x18 - (16 : Int))).toNat 1 v, fun v w c => v = vU32 e10, fun v w c => v = vU32 ((r_ ^^^ r_1) ^^^ (shr32 e6 3)), fun v w c => v = vU32 (e10 + ((r_ ^^^ r_1) ^^^ (shr32 e6 3))), fun v w c => v = vI x18, fun v w c => v = vI (W (x18 - (7 : Int))), fun v w c => AdrP p_3 (W (x18 - (7 : Int))).toNat 1 v, fun v w c => v = vU32 e11, fun v w c => v = vU32 ((e10 + ((r_ ^^^ r_1) ^^^ (shr32 e6 3))) + e11), fun v w c => v = vU32 ((r_2 ^^^ r_3) ^^^ (shr32 e9 10)), fun v w c => v = vU32 (((e10 + ((r_ ^^^ r_1) ^^^ (shr32 e6 3))) + e11) + ((r_2 ^^^ r_3) ^^^ (shr32 e9 10)))] hmix (by kernel_rfl) (by kernel_rfl) ⟨?_, ?_, ?_, ?_, ?_, ?_, ?_, ?_, ?_, ?_, ?_, ?_, ?_, ?_, trivial⟩ ⟨fun _ _ _ _ _ _ h _ _ => h, fun _ _ _ _ _ _ h _ _ => h, fun _ _ _ _ _ _ h _ _ => h, fun _ _ _ _ _ _ h _ _ => h, fun _ _ _ _ _ _ h _ _ => h, fun _ _ _ _ _ _ h _ _ => h, fun _ _ _ _ _ _ h _ _ => h, fun _ _ _ _ _ _ h _ _ => h, fun _ _ _ _ _ _ h _ _ => h, fun _ _ _ _ _ _ h _ _ => h, fun _ _ _ _ _ _ h _ _ => h, fun _ _ _ _ _ _ h _ _ => h, fun _ _ _ _ _ _ h _ _ => h, fun _ _ _ _ _ _ h _ _ => h, trivial⟩ ?_
            · rintro f_71 w_75 c_74 hB69 hs70 ⟨-⟩ o ho; obtain rfl : _ = o := Option.some.inj ho
              exact OS.move (v := vI x18) rfl ((hB69 8 (by kernel_rfl)).trans h26) ⟨_, St.refl, rfl⟩
            · rintro f_72 w_76 c_75 hB70 hs71 ⟨-⟩ o ho; obtain rfl : _ = o := Option.some.inj ho
              exact OS.move (v := vI x18) rfl ((hB70 8 (by kernel_rfl)).trans h26) ⟨_, St.refl, rfl⟩
            · rintro f_73 w_77 c_76 hB71 hs72 ⟨g66, -⟩ o ho; obtain rfl : _ = o := Option.some.inj ho
              replace g66 : (f_73 93) = vI x18 := g66
              exact OS.bin (a := vI x18) (b := vI (16 : Int)) rfl g66 rfl bI_sub ⟨_, St.refl, rfl⟩
            · rintro f_74 w_78 c_77 hB72 hs73 ⟨g67, -⟩ o ho; obtain rfl : _ = o := Option.some.inj ho
              replace g67 : (f_74 94) = vI (W (x18 - (16 : Int))) := g67
              have o32 := o5.keep ((hs52.t hs69).t hs73) (by decide)
              exact OS.idxArr rfl Try.runUnderlying72 Try.sizeOf63 ((hB72 7 (by kernel_rfl)).trans h24) o32 g67 ha11 (by have := hb13; rw [hl2] at this; exact this) (fun _ h => ⟨_, St.refl, h⟩)
            · rintro f_75 w_79 c_78 hB73 hs74 ⟨g68, -⟩ o ho; obtain rfl : _ = o := Option.some.inj ho
              replace g68 : AdrP p_3 (W (x18 - (16 : Int))).toNat 1 (f_75 95) := g68
              have o33 := o5.keep ((hs52.t hs69).t hs74) (by decide)
              exact OS.ld1 (u := vU32 e10) rfl Try.isAgg63 rfl (o33.ld g68 hc10) ⟨_, St.refl, rfl⟩
            · rintro f_76 w_80 c_79 hB74 hs75 ⟨-⟩ o ho; obtain rfl : _ = o := Option.some.inj ho
              exact OS.move (v := vU32 ((r_ ^^^ r_1) ^^^ (shr32 e6 3))) rfl ((hB74 9 (by kernel_rfl)).trans h27) ⟨_, St.refl, rfl⟩
            · rintro f_77 w_81 c_80 hB75 hs76 ⟨g69, g70, -⟩ o ho; obtain rfl : _ = o := Option.some.inj ho
              replace g69 : (f_77 96) = vU32 e10 := g69
              replace g70 : (f_77 97) = vU32 ((r_ ^^^ r_1) ^^^ (shr32 e6 3)) := g70
              exact OS.bin (a := vU32 e10) (b := vU32 ((r_ ^^^ r_1) ^^^ (shr32 e6 3))) rfl g69 g70 b32_add ⟨_, St.refl, rfl⟩
            · rintro f_78 w_82 c_81 hB76 hs77 ⟨-⟩ o ho; obtain rfl : _ = o := Option.some.inj ho
              exact OS.move (v := vI x18) rfl ((hB76 8 (by kernel_rfl)).trans h26) ⟨_, St.refl, rfl⟩
            · rintro f_79 w_83 c_82 hB77 hs78 ⟨g71, -⟩ o ho; obtain rfl : _ = o := Option.some.inj ho
              replace g71 : (f_79 99) = vI x18 := g71
              exact OS.bin (a := vI x18) (b := vI (7 : Int)) rfl g71 rfl bI_sub ⟨_, St.refl, rfl⟩
            · rintro f_80 w_84 c_83 hB78 hs79 ⟨g72, -⟩ o ho; obtain rfl : _ = o := Option.some.inj ho
              replace g72 : (f_80 100) = vI (W (x18 - (7 : Int))) := g72
              have o34 := o5.keep ((hs52.t hs69).t hs79) (by decide)
              exact OS.idxArr rfl Try.runUnderlying72 Try.sizeOf63 ((hB78 7 (by kernel_rfl)).trans h24) o34 g72 ha12 (by have := hb14; rw [hl2] at this; exact this) (fun _ h => ⟨_, St.refl, h⟩)
            · rintro f_81 w_85 c_84 hB79 hs80 ⟨g73, -⟩ o ho; obtain rfl : _ = o := Option.some.inj ho
              replace g73 : AdrP p_3 (W (x18 - (7 : Int))).toNat 1 (f_81 101) := g73
              have o35 := o5.keep ((hs52.t hs69).t hs80) (by decide)
              exact OS.ld1 (u := vU32 e11) rfl Try.isAgg63 rfl (o35.ld g73 hc11) ⟨_, St.refl, rfl⟩
            · rintro f_82 w_86 c_85 hB80 hs81 ⟨g74, g75, -⟩ o ho; obtain rfl : _ = o := Option.some.inj ho
              replace g74 : (f_82 98) = vU32 (e10 + ((r_ ^^^ r_1) ^^^ (shr32 e6 3))) := g74
              replace g75 : (f_82 102) = vU32 e11 := g75
              exact OS.bin (a := vU32 (e10 + ((r_ ^^^ r_1) ^^^ (shr32 e6 3)))) (b := vU32 e11) rfl g74 g75 b32_add ⟨_, St.refl, rfl⟩
            · rintro f_83 w_87 c_86 hB81 hs82 ⟨-⟩ o ho; obtain rfl : _ = o := Option.some.inj ho
              exact OS.move (v := vU32 ((r_2 ^^^ r_3) ^^^ (shr32 e9 10))) rfl ((hB81 10 (by kernel_rfl)).trans rfl) ⟨_, St.refl, rfl⟩
            · rintro f_84 w_88 c_87 hB82 hs83 ⟨g76, g77, -⟩ o ho; obtain rfl : _ = o := Option.some.inj ho
              replace g76 : (f_84 103) = vU32 ((e10 + ((r_ ^^^ r_1) ^^^ (shr32 e6 3))) + e11) := g76
              replace g77 : (f_84 104) = vU32 ((r_2 ^^^ r_3) ^^^ (shr32 e9 10)) := g77
              exact OS.bin (a := vU32 ((e10 + ((r_ ^^^ r_1) ^^^ (shr32 e6 3))) + e11)) (b := vU32 ((r_2 ^^^ r_3) ^^^ (shr32 e9 10))) rfl g76 g77 b32_add ⟨_, St.refl, rfl⟩
            · rintro f_85 w_89 c_88 hB83 hs84 ⟨g78, g79, -⟩
              have h28 := (hB83 1 (by kernel_rfl)).trans h20
              have h29 := (hB83 2 (by kernel_rfl)).trans h21
              have h30 := (hB83 3 (by kernel_rfl)).trans h22
              have h31 := (hB83 6 (by kernel_rfl)).trans h23
              have h32 := (hB83 7 (by kernel_rfl)).trans h24
              have h33 := (hB83 18 (by kernel_rfl)).trans h25
              replace g78 : (f_85 92) = vI x18 := g78
              replace g79 : (f_85 105) = vU32 (((e10 + ((r_ ^^^ r_1) ^^^ (shr32 e6 3))) + e11) + ((r_2 ^^^ r_3) ^^^ (shr32 e9 10))) := g79
              have o36 := o5.keep ((hs52.t hs69).t hs84) (by decide)
              obtain ⟨u1, hu1, hl4⟩ := bind_some hl4
              obtain ⟨ha13, hb15⟩ := req_some hu1
              refine WR.k rfl rfl rfl (OS.idxArr rfl Try.runUnderlying72 Try.sizeOf63 h32 o36 g78 ha13 (by have := hb15; rw [hl2] at this; exact this) ?_); intro p_5 a14
              obtain ⟨xs3, hxs3, hl4⟩ := bind_some hl4
              replace hxs3 := (Option.some.inj hxs3).symm
              refine WR.k0 rfl rfl (OS.stArr (q := ((e10 + ((r_ ^^^ r_1) ^^^ (shr32 e6 3))) + e11) + ((r_2 ^^^ r_3) ^^^ (shr32 e9 10))) (u := vU32 (((e10 + ((r_ ^^^ r_1) ^^^ (shr32 e6 3))) + e11) + ((r_2 ^^^ r_3) ^^^ (shr32 e9 10)))) rfl Try.sizeOf63 rfl g79 o36 rfl a14 (by have h1 := (by have := hb15; rw [hl2] at this; exact this); rw [hl2]; omega) rfl ?_); intro w_90 o37 s5
              replace o37 : Arr E63 14 w_90 c_88 p_3 xs3 := by rw [hxs3]; exact o37
              have hl6 : xs3.length = 64 := (by rw [hxs3, List.length_set]; exact hl2)
              refine WR.nil ?_
              refine WC.region ?_
              refine WR.k rfl rfl rfl (OS.bin (a := vI x18) (b := vI (1 : Int)) rfl h33 rfl bI_add ?_)
              refine WR.k rfl rfl rfl (OS.move (v := vI (W (x18 + (1 : Int)))) rfl rfl ?_)
              refine WR.nil ?_
              exact ⟨k, by omega, _, _, _, hl4, h28, h29, h30, h31, h32, o37, hl6, rfl, ((((s3.t hs52).t hs69).t hs84).t s5).mono (by decide)⟩
    · rw [if_neg (nt hb)] at hl4
      refine WC.exit ?_
      cases hl4
      exact ⟨_, h1, h3, h4, h5, o5, hl2, s3.mono (by decide)⟩
  · rintro f_ w_3 ⟨c_3, h34, h35, h36, h37, o6, hl3, s6⟩
    refine WC.seq (WC.region ?_)
    have o38 := o2.keep ((s1.t s2).t s6) (by decide)
    refine WR.k rfl rfl rfl (OS.ldN rfl Try.isAgg68 Try.sizeOf68 h35 o38.ldAll (by rw [fl_length, hl]; rfl) ?_)
    refine WR.k rfl rfl rfl (OS.allocArr (E := E63) (xs := (List.replicate 8 (0 : UInt32))) (c := c_3) 18 rfl Try.zeroValue68 (by kernel_rfl) ?_); intro p_6 w_91 c_89 o39 s7
    refine WR.k0 rfl rfl (OS.stArrAll rfl Try.sizeOf68 rfl rfl o39 (by rw [fl_length, hl]; rfl) (Eq.trans (List.length_replicate (n := 8) (a := (0 : UInt32))) (Eq.symm hl)) ?_); intro w_92 o40 s8
    have hl7 : h.length = 8 := hl
    refine WR.nil ?_
    refine WC.seq ?_
    refine WC.seq (WC.region ?_)
    refine WR.k rfl rfl rfl (OS.move (v := vI (0 : Int)) rfl rfl ?_)
    refine WR.nil ?_
    obtain ⟨q1, hl10, hp⟩ := bind_some hp
    obtain ⟨h39, hx⟩ : ∃ z, z = q1 := ⟨_, rfl⟩; subst hx
    refine WC.blockJ2 (fun f_86 w_93 => ∃ (c_90 : Col), f_86 3 = p_1 ∧ f_86 6 = p_2 ∧ f_86 11 = p_6 ∧ Arr E63 18 w_93 c_90 p_6 h39 ∧ h39.length = 8 ∧ St [18] w_92 c_89 w_93 c_90) ?_ ?_
    · refine WC.loop (fun n => fun f_87 w_94 => ∃ (h38 : List UInt32) (x109 : Int) (c_91 : Col), hash_words_mix.l2 K n k1 xs1 h38 x109 = some h39 ∧ f_87 1 = p_ ∧ f_87 3 = p_1 ∧ f_87 6 = p_2 ∧ f_87 7 = p_3 ∧ f_87 11 = p_6 ∧ Arr E63 18 w_94 c_91 p_6 h38 ∧ h38.length = 8 ∧ f_87 109 = vI x109 ∧ St [18] w_92 c_89 w_94 c_91) K ⟨_, _, _, hl10, h34, h35, h36, h37, rfl, o40, hl7, rfl, St.refl.mono (by decide)⟩ ?_
      rintro n f_87 w_94 ⟨h38, x109, c_91, hl10, h40, h41, h42, h43, h44, o41, hl8, h45, s9⟩
      cases n with
      | zero => exact absurd hl10 (by simp [hash_words_mix.l2])
      | succ k =>
      rw [hash_words_mix.l2] at hl10
      refine WC.seq (WC.region ?_)
      refine WR.k rfl rfl rfl (OS.bin (a := vI x109) (b := vI (64 : Int)) rfl h45 rfl bI_lss ?_)
      refine WR.nil ?_
      refine WC.seq ?_
      refine WC.cond (decide (x109 < (64 : Int))) rfl (fun hb16 => ?_) (fun hb16 => ?_)
      · rw [if_pos hb16] at hl10
        refine WC.skip ?_
        refine WC.seq ?_
        refine WC.block ?_
        refine WC.seq (WC.region ?_)
        refine WR.k rfl rfl rfl (OS.move (v := vI x109) rfl h45 ?_)
        refine WR.k rfl rfl rfl (OS.assign (v := vI x109) rfl rfl ?_)
        refine WR.nil ?_
        obtain ⟨r_4, hr_4, hl10⟩ := bind_some hl10
        obtain ⟨r_5, hr_5, hl10⟩ := bind_some hl10
        obtain ⟨r_6, hr_6, hl10⟩ := bind_some hl10
        refine WC.seq (WC.draw (c := c_91) ⟨10, [[1], [1], [1], [1], [1], [1], [1], [1], [1], [1]], [[], [], [], [], [], [], [], [], [], []], [], [[], [0], [1], [], [3], [4], [2, 5], [], [7], [8]], [6, 9]⟩ [fun v w c => AdrP p_6 ((4 : Int)).toNat 1 v, fun v w c => v = vU32 (h38.getD 4 0), fun v w c => v = vU32 r_4, fun v w c => AdrP p_6 ((4 : Int)).toNat 1 v, fun v w c => v = vU32 (h38.getD 4 0), fun v w c => v = vU32 r_5, fun v w c => v = vU32 (r_4 ^^^ r_5), fun v w c => AdrP p_6 ((4 : Int)).toNat 1 v, fun v w c => v = vU32 (h38.getD 4 0), fun v w c => v = vU32 r_6] hmix (by kernel_rfl) (by kernel_rfl) ⟨?_, ?_, ?_, ?_, ?_, ?_, ?_, ?_, ?_, ?_, trivial⟩ ⟨fun _ _ _ _ _ _ h _ _ => h, fun _ _ _ _ _ _ h _ _ => h, fun _ _ _ _ _ _ h _ _ => h, fun _ _ _ _ _ _ h _ _ => h, fun _ _ _ _ _ _ h _ _ => h, fun _ _ _ _ _ _ h _ _ => h, fun _ _ _ _ _ _ h _ _ => h, fun _ _ _ _ _ _ h _ _ => h, fun _ _ _ _ _ _ h _ _ => h, fun _ _ _ _ _ _ h _ _ => h, trivial⟩ ?_)
        · rintro f_88 w_95 c_92 hB84 hs85 ⟨-⟩ o ho; obtain rfl : _ = o := Option.some.inj ho
          have o43 := o41.keep hs85 (by decide)
          exact OS.idxArr rfl Try.runUnderlying68 Try.sizeOf63 ((hB84 11 (by kernel_rfl)).trans h44) o43 rfl (by decide) (by decide) (fun _ h => ⟨_, St.refl, h⟩)
        · rintro f_89 w_96 c_93 hB85 hs86 ⟨g80, -⟩ o ho; obtain rfl : _ = o := Option.some.inj ho
          replace g80 : AdrP p_6 ((4 : Int)).toNat 1 (f_89 112) := g80
          have o44 := o41.keep hs86 (by decide)
          exact OS.ld1 (u := vU32 (h38.getD 4 0)) rfl Try.isAgg63 rfl (o44.ld g80 (getD_some (by rw [hl8]; decide))) ⟨_, St.refl, rfl⟩
        · rintro f_90 w_97 c_94 hB86 hs87 ⟨g81, -⟩ o ho; obtain rfl : _ = o := Option.some.inj ho
          replace g81 : (f_90 113) = vU32 (h38.getD 4 0) := g81
          refine OS.callF (vs := [vU32 (h38.getD 4 0), vI (-6 : Int)]) rfl ⟨g81, rfl, trivial⟩ Try.call40 ((W40 K w_97 hr_4).mono ?_)
          rintro _ w ⟨d, rfl, s⟩
          exact ⟨_, rfl, _, s.merge id, rfl⟩
        · rintro f_91 w_98 c_95 hB87 hs88 ⟨-⟩ o ho; obtain rfl : _ = o := Option.some.inj ho
          have o45 := o41.keep hs88 (by decide)
          exact OS.idxArr rfl Try.runUnderlying68 Try.sizeOf63 ((hB87 11 (by kernel_rfl)).trans h44) o45 rfl (by decide) (by decide) (fun _ h => ⟨_, St.refl, h⟩)
        · rintro f_92 w_99 c_96 hB88 hs89 ⟨g82, -⟩ o ho; obtain rfl : _ = o := Option.some.inj ho
          replace g82 : AdrP p_6 ((4 : Int)).toNat 1 (f_92 115) := g82
          have o46 := o41.keep hs89 (by decide)
          exact OS.ld1 (u := vU32 (h38.getD 4 0)) rfl Try.isAgg63 rfl (o46.ld g82 (getD_some (by rw [hl8]; decide))) ⟨_, St.refl, rfl⟩
        · rintro f_93 w_100 c_97 hB89 hs90 ⟨g83, -⟩ o ho; obtain rfl : _ = o := Option.some.inj ho
          replace g83 : (f_93 116) = vU32 (h38.getD 4 0) := g83
          refine OS.callF (vs := [vU32 (h38.getD 4 0), vI (-11 : Int)]) rfl ⟨g83, rfl, trivial⟩ Try.call40 ((W40 K w_100 hr_5).mono ?_)
          rintro _ w ⟨d, rfl, s⟩
          exact ⟨_, rfl, _, s.merge id, rfl⟩
        · rintro f_94 w_101 c_98 hB90 hs91 ⟨g84, g85, -⟩ o ho; obtain rfl : _ = o := Option.some.inj ho
          replace g84 : (f_94 114) = vU32 r_4 := g84
          replace g85 : (f_94 117) = vU32 r_5 := g85
          exact OS.bin (a := vU32 r_4) (b := vU32 r_5) rfl g84 g85 b32_xor ⟨_, St.refl, rfl⟩
        · rintro f_95 w_102 c_99 hB91 hs92 ⟨-⟩ o ho; obtain rfl : _ = o := Option.some.inj ho
          have o47 := o41.keep hs92 (by decide)
          exact OS.idxArr rfl Try.runUnderlying68 Try.sizeOf63 ((hB91 11 (by kernel_rfl)).trans h44) o47 rfl (by decide) (by decide) (fun _ h => ⟨_, St.refl, h⟩)
        · rintro f_96 w_103 c_100 hB92 hs93 ⟨g86, -⟩ o ho; obtain rfl : _ = o := Option.some.inj ho
          replace g86 : AdrP p_6 ((4 : Int)).toNat 1 (f_96 119) := g86
          have o48 := o41.keep hs93 (by decide)
          exact OS.ld1 (u := vU32 (h38.getD 4 0)) rfl Try.isAgg63 rfl (o48.ld g86 (getD_some (by rw [hl8]; decide))) ⟨_, St.refl, rfl⟩
        · rintro f_97 w_104 c_101 hB93 hs94 ⟨g87, -⟩ o ho; obtain rfl : _ = o := Option.some.inj ho
          replace g87 : (f_97 120) = vU32 (h38.getD 4 0) := g87
          refine OS.callF (vs := [vU32 (h38.getD 4 0), vI (-25 : Int)]) rfl ⟨g87, rfl, trivial⟩ Try.call40 ((W40 K w_104 hr_6).mono ?_)
          rintro _ w ⟨d, rfl, s⟩
          exact ⟨_, rfl, _, s.merge id, rfl⟩
        · rintro f_98 w_105 c_102 hB94 hs95 ⟨g88, g89, -⟩
          have h46 := (hB94 1 (by kernel_rfl)).trans h40
          have h47 := (hB94 3 (by kernel_rfl)).trans h41
          have h48 := (hB94 6 (by kernel_rfl)).trans h42
          have h49 := (hB94 7 (by kernel_rfl)).trans h43
          have h50 := (hB94 11 (by kernel_rfl)).trans h44
          have h51 := (hB94 109 (by kernel_rfl)).trans h45
          have h52 := (hB94 12 (by kernel_rfl)).trans (show _ = vI x109 from rfl)
          replace g88 : (f_98 118) = vU32 (r_4 ^^^ r_5) := g88
          replace g89 : (f_98 121) = vU32 r_6 := g89
          refine WR.k rfl rfl rfl (OS.bin (a := vU32 (r_4 ^^^ r_5)) (b := vU32 r_6) rfl g88 g89 b32_xor ?_)
          refine WR.k rfl rfl rfl (OS.assign (v := vU32 ((r_4 ^^^ r_5) ^^^ r_6)) rfl rfl ?_)
          refine WR.nil ?_
          have o49 := o41.keep hs95 (by decide)
          have o50 := o.keep (((((((s.t s1).t s2).t s6).t s7).t s8).t s9).t hs95) (by decide)
          obtain ⟨e12, he12, hl10⟩ := bind_some hl10
          obtain ⟨ha14, hb17, hc12⟩ := gt_some he12
          have o51 := o6.keep (((s7.t s8).t s9).t hs95) (by decide)
          obtain ⟨e13, he13, hl10⟩ := bind_some hl10
          obtain ⟨ha15, hb18, hc13⟩ := gt_some he13
          refine WC.seq (WC.draw (c := c_102) ⟨25, [[1], [1], [1], [1], [1], [1], [1], [1], [1], [1], [1], [1], [1], [1], [1], [1], [1], [1], [1], [1], [1], [1], [1], [1], [1]], [[], [], [], [], [], [], [], [], [], [], [], [], [], [], [], [], [], [], [], [], [], [], [], [], []], [], [[], [0], [], [1, 2], [], [4], [], [6], [], [8], [], [10], [9, 11], [7, 12], [5, 13], [3, 14], [], [], [16], [17, 18], [19], [15, 20], [], [22], [23]], [21, 24]⟩ [fun v w c => AdrP p_6 ((7 : Int)).toNat 1 v, fun v w c => v = vU32 (h38.getD 7 0), fun v w c => v = vU32 ((r_4 ^^^ r_5) ^^^ r_6), fun v w c => v = vU32 ((h38.getD 7 0) + ((r_4 ^^^ r_5) ^^^ r_6)), fun v w c => AdrP p_6 ((6 : Int)).toNat 1 v, fun v w c => v = vU32 (h38.getD 6 0), fun v w c => AdrP p_6 ((4 : Int)).toNat 1 v, fun v w c => v = vU32 (h38.getD 4 0), fun v w c => AdrP p_6 ((5 : Int)).toNat 1 v, fun v w c => v = vU32 (h38.getD 5 0), fun v w c => AdrP p_6 ((6 : Int)).toNat 1 v, fun v w c => v = vU32 (h38.getD 6 0), fun v w c => v = vU32 ((h38.getD 5 0) ^^^ (h38.getD 6 0)), fun v w c => v = vU32 ((h38.getD 4 0) &&& ((h38.getD 5 0) ^^^ (h38.getD 6 0))), fun v w c => v = vU32 ((h38.getD 6 0) ^^^ ((h38.getD 4 0) &&& ((h38.getD 5 0) ^^^ (h38.getD 6 0)))), fun v w c => v = vU32 (((h38.getD 7 0) + ((r_4 ^^^ r_5) ^^^ r_6)) + ((h38.getD 6 0) ^^^ ((h38.getD 4 0) &&& ((h38.getD 5 0) ^^^ (h38.getD 6 0))))), fun v w c => v = p_, fun v w c => v = vI x109, fun v w c => v = p_, fun v w c => AdrP p_ (x109).toNat 1 v, fun v w c => v = vU32 e12, fun v w c => v = vU32 ((((h38.getD 7 0) + ((r_4 ^^^ r_5) ^^^ r_6)) + ((h38.getD 6 0) ^^^ ((h38.getD 4 0) &&& ((h38.getD 5 0) ^^^ (h38.getD 6 0))))) + e12), fun v w c => v = vI x109, fun v w c => AdrP p_3 (x109).toNat 1 v, fun v w c => v = vU32 e13] hmix (by kernel_rfl) (by kernel_rfl) ⟨?_, ?_, ?_, ?_, ?_, ?_, ?_, ?_, ?_, ?_, ?_, ?_, ?_, ?_, ?_, ?_, ?_, ?_, ?_, ?_, ?_, ?_, ?_, ?_, ?_, trivial⟩ ⟨fun _ _ _ _ _ _ h _ _ => h, fun _ _ _ _ _ _ h _ _ => h, fun _ _ _ _ _ _ h _ _ => h, fun _ _ _ _ _ _ h _ _ => h, fun _ _ _ _ _ _ h _ _ => h, fun _ _ _ _ _ _ h _ _ => h, fun _ _ _ _ _ _ h _ _ => h, fun _ _ _ _ _ _ h _ _ => h, fun _ _ _ _ _ _ h _ _ => h, fun _ _ _ _ _ _ h _ _ => h, fun _ _ _ _ _ _ h _ _ => h, fun _ _ _ _ _ _ h _ _ => h, fun _ _ _ _ _ _ h _ _ => h, fun _ _ _ _ _ _ h _ _ => h, fun _ _ _ _ _ _ h _ _ => h, fun _ _ _ _ _ _ h _ _ => h, fun _ _ _ _ _ _ h _ _ => h, fun _ _ _ _ _ _ h _ _ => h, fun _ _ _ _ _ _ h _ _ => h, fun _ _ _ _ _ _ h _ _ => h, fun _ _ _ _ _ _ h _ _ => h, fun _ _ _ _ _ _ h _ _ => h, fun _ _ _ _ _ _ h _ _ => h, fun _ _ _ _ _ _ h _ _ => h, fun _ _ _ _ _ _ h _ _ => h, trivial⟩ ?_)
          · rintro f_99 w_106 c_103 hB95 hs96 ⟨-⟩ o ho; obtain rfl : _ = o := Option.some.inj ho
            have o52 := o41.keep (hs95.t hs96) (by decide)
            exact OS.idxArr rfl Try.runUnderlying68 Try.sizeOf63 ((hB95 11 (by kernel_rfl)).trans h50) o52 rfl (by decide) (by decide) (fun _ h => ⟨_, St.refl, h⟩)
          · rintro f_100 w_107 c_104 hB96 hs97 ⟨g90, -⟩ o ho; obtain rfl : _ = o := Option.some.inj ho
            replace g90 : AdrP p_6 ((7 : Int)).toNat 1 (f_100 123) := g90
            have o53 := o41.keep (hs95.t hs97) (by decide)
            exact OS.ld1 (u := vU32 (h38.getD 7 0)) rfl Try.isAgg63 rfl (o53.ld g90 (getD_some (by rw [hl8]; decide))) ⟨_, St.refl, rfl⟩
          · rintro f_101 w_108 c_105 hB97 hs98 ⟨-⟩ o ho; obtain rfl : _ = o := Option.some.inj ho
            exact OS.move (v := vU32 ((r_4 ^^^ r_5) ^^^ r_6)) rfl ((hB97 13 (by kernel_rfl)).trans rfl) ⟨_, St.refl, rfl⟩
          · rintro f_102 w_109 c_106 hB98 hs99 ⟨g91, g92, -⟩ o ho; obtain rfl : _ = o := Option.some.inj ho
            replace g91 : (f_102 124) = vU32 (h38.getD 7 0) := g91
            replace g92 : (f_102 125) = vU32 ((r_4 ^^^ r_5) ^^^ r_6) := g92
            exact OS.bin (a := vU32 (h38.getD 7 0)) (b := vU32 ((r_4 ^^^ r_5) ^^^ r_6)) rfl g91 g92 b32_add ⟨_, St.refl, rfl⟩
          · rintro f_103 w_110 c_107 hB99 hs100 ⟨-⟩ o ho; obtain rfl : _ = o := Option.some.inj ho
            have o54 := o41.keep (hs95.t hs100) (by decide)
            exact OS.idxArr rfl Try.runUnderlying68 Try.sizeOf63 ((hB99 11 (by kernel_rfl)).trans h50) o54 rfl (by decide) (by decide) (fun _ h => ⟨_, St.refl, h⟩)
          · rintro f_104 w_111 c_108 hB100 hs101 ⟨g93, -⟩ o ho; obtain rfl : _ = o := Option.some.inj ho
            replace g93 : AdrP p_6 ((6 : Int)).toNat 1 (f_104 127) := g93
            have o55 := o41.keep (hs95.t hs101) (by decide)
            exact OS.ld1 (u := vU32 (h38.getD 6 0)) rfl Try.isAgg63 rfl (o55.ld g93 (getD_some (by rw [hl8]; decide))) ⟨_, St.refl, rfl⟩
          · rintro f_105 w_112 c_109 hB101 hs102 ⟨-⟩ o ho; obtain rfl : _ = o := Option.some.inj ho
            have o56 := o41.keep (hs95.t hs102) (by decide)
            exact OS.idxArr rfl Try.runUnderlying68 Try.sizeOf63 ((hB101 11 (by kernel_rfl)).trans h50) o56 rfl (by decide) (by decide) (fun _ h => ⟨_, St.refl, h⟩)
          · rintro f_106 w_113 c_110 hB102 hs103 ⟨g94, -⟩ o ho; obtain rfl : _ = o := Option.some.inj ho
            replace g94 : AdrP p_6 ((4 : Int)).toNat 1 (f_106 129) := g94
            have o57 := o41.keep (hs95.t hs103) (by decide)
            exact OS.ld1 (u := vU32 (h38.getD 4 0)) rfl Try.isAgg63 rfl (o57.ld g94 (getD_some (by rw [hl8]; decide))) ⟨_, St.refl, rfl⟩
          · rintro f_107 w_114 c_111 hB103 hs104 ⟨-⟩ o ho; obtain rfl : _ = o := Option.some.inj ho
            have o58 := o41.keep (hs95.t hs104) (by decide)
            exact OS.idxArr rfl Try.runUnderlying68 Try.sizeOf63 ((hB103 11 (by kernel_rfl)).trans h50) o58 rfl (by decide) (by decide) (fun _ h => ⟨_, St.refl, h⟩)
          · rintro f_108 w_115 c_112 hB104 hs105 ⟨g95, -⟩ o ho; obtain rfl : _ = o := Option.some.inj ho
            replace g95 : AdrP p_6 ((5 : Int)).toNat 1 (f_108 131) := g95
            have o59 := o41.keep (hs95.t hs105) (by decide)
            exact OS.ld1 (u := vU32 (h38.getD 5 0)) rfl Try.isAgg63 rfl (o59.ld g95 (getD_some (by rw [hl8]; decide))) ⟨_, St.refl, rfl⟩
          · rintro f_109 w_116 c_113 hB105 hs106 ⟨-⟩ o ho; obtain rfl : _ = o := Option.some.inj ho
            have o60 := o41.keep (hs95.t hs106) (by decide)
            exact OS.idxArr rfl Try.runUnderlying68 Try.sizeOf63 ((hB105 11 (by kernel_rfl)).trans h50) o60 rfl (by decide) (by decide) (fun _ h => ⟨_, St.refl, h⟩)
          · rintro f_110 w_117 c_114 hB106 hs107 ⟨g96, -⟩ o ho; obtain rfl : _ = o := Option.some.inj ho
            replace g96 : AdrP p_6 ((6 : Int)).toNat 1 (f_110 133) := g96
            have o61 := o41.keep (hs95.t hs107) (by decide)
            exact OS.ld1 (u := vU32 (h38.getD 6 0)) rfl Try.isAgg63 rfl (o61.ld g96 (getD_some (by rw [hl8]; decide))) ⟨_, St.refl, rfl⟩
          · rintro f_111 w_118 c_115 hB107 hs108 ⟨g97, g98, -⟩ o ho; obtain rfl : _ = o := Option.some.inj ho
            replace g97 : (f_111 132) = vU32 (h38.getD 5 0) := g97
            replace g98 : (f_111 134) = vU32 (h38.getD 6 0) := g98
            exact OS.bin (a := vU32 (h38.getD 5 0)) (b := vU32 (h38.getD 6 0)) rfl g97 g98 b32_xor ⟨_, St.refl, rfl⟩
          · rintro f_112 w_119 c_116 hB108 hs109 ⟨g99, g100, -⟩ o ho; obtain rfl : _ = o := Option.some.inj ho
            replace g99 : (f_112 130) = vU32 (h38.getD 4 0) := g99
            replace g100 : (f_112 135) = vU32 ((h38.getD 5 0) ^^^ (h38.getD 6 0)) := g100
            exact OS.bin (a := vU32 (h38.getD 4 0)) (b := vU32 ((h38.getD 5 0) ^^^ (h38.getD 6 0))) rfl g99 g100 b32_and ⟨_, St.refl, rfl⟩
          · rintro f_113 w_120 c_117 hB109 hs110 ⟨g101, g102, -⟩ o ho; obtain rfl : _ = o := Option.some.inj ho
            replace g101 : (f_113 128) = vU32 (h38.getD 6 0) := g101
            replace g102 : (f_113 136) = vU32 ((h38.getD 4 0) &&& ((h38.getD 5 0) ^^^ (h38.getD 6 0))) := g102
            exact OS.bin (a := vU32 (h38.getD 6 0)) (b := vU32 ((h38.getD 4 0) &&& ((h38.getD 5 0) ^^^ (h38.getD 6 0)))) rfl g101 g102 b32_xor ⟨_, St.refl, rfl⟩
          · rintro f_114 w_121 c_118 hB110 hs111 ⟨g103, g104, -⟩ o ho; obtain rfl : _ = o := Option.some.inj ho
            replace g103 : (f_114 126) = vU32 ((h38.getD 7 0) + ((r_4 ^^^ r_5) ^^^ r_6)) := g103
            replace g104 : (f_114 137) = vU32 ((h38.getD 6 0) ^^^ ((h38.getD 4 0) &&& ((h38.getD 5 0) ^^^ (h38.getD 6 0)))) := g104
            exact OS.bin (a := vU32 ((h38.getD 7 0) + ((r_4 ^^^ r_5) ^^^ r_6))) (b := vU32 ((h38.getD 6 0) ^^^ ((h38.getD 4 0) &&& ((h38.getD 5 0) ^^^ (h38.getD 6 0))))) rfl g103 g104 b32_add ⟨_, St.refl, rfl⟩
          · rintro f_115 w_122 c_119 hB111 hs112 ⟨-⟩ o ho; obtain rfl : _ = o := Option.some.inj ho
            exact OS.move (v := p_) rfl ((hB111 1 (by kernel_rfl)).trans h46) ⟨_, St.refl, rfl⟩
          · rintro f_116 w_123 c_120 hB112 hs113 ⟨-⟩ o ho; obtain rfl : _ = o := Option.some.inj ho
            exact OS.move (v := vI x109) rfl ((hB112 12 (by kernel_rfl)).trans h52) ⟨_, St.refl, rfl⟩
          · rintro f_117 w_124 c_121 hB113 hs114 ⟨g105, -⟩ o ho; obtain rfl : _ = o := Option.some.inj ho
            replace g105 : (f_117 139) = p_ := g105
            have o62 := o.keep ((((((((s.t s1).t s2).t s6).t s7).t s8).t s9).t hs95).t hs114) (by decide)
            exact OS.nilCheckArr rfl g105 o62 ⟨_, St.refl, rfl⟩
          · rintro f_118 w_125 c_122 hB114 hs115 ⟨g106, g107, -⟩ o ho; obtain rfl : _ = o := Option.some.inj ho
            replace g106 : (f_118 140) = vI x109 := g106
            replace g107 : (f_118 141) = p_ := g107
            have o63 := o.keep ((((((((s.t s1).t s2).t s6).t s7).t s8).t s9).t hs95).t hs115) (by decide)
            exact OS.idxArr rfl Try.runUnderlying72 Try.sizeOf63 g107 o63 g106 ha14 (by have := hb17; rw [hl1] at this; exact this) (fun _ h => ⟨_, St.refl, h⟩)
          · rintro f_119 w_126 c_123 hB115 hs116 ⟨g108, -⟩ o ho; obtain rfl : _ = o := Option.some.inj ho
            replace g108 : AdrP p_ (x109).toNat 1 (f_119 142) := g108
            have o64 := o.keep ((((((((s.t s1).t s2).t s6).t s7).t s8).t s9).t hs95).t hs116) (by decide)
            exact OS.ld1 (u := vU32 e12) rfl Try.isAgg63 rfl (o64.ld g108 hc12) ⟨_, St.refl, rfl⟩
          · rintro f_120 w_127 c_124 hB116 hs117 ⟨g109, g110, -⟩ o ho; obtain rfl : _ = o := Option.some.inj ho
            replace g109 : (f_120 138) = vU32 (((h38.getD 7 0) + ((r_4 ^^^ r_5) ^^^ r_6)) + ((h38.getD 6 0) ^^^ ((h38.getD 4 0) &&& ((h38.getD 5 0) ^^^ (h38.getD 6 0))))) := g109
            replace g110 : (f_120 143) = vU32 e12 := g110
            exact OS.bin (a := vU32 (((h38.getD 7 0) + ((r_4 ^^^ r_5) ^^^ r_6)) + ((h38.getD 6 0) ^^^ ((h38.getD 4 0) &&& ((h38.getD 5 0) ^^^ (h38.getD 6 0)))))) (b := vU32 e12) rfl g109 g110 b32_add ⟨_, St.refl, rfl⟩
          · rintro f_121 w_128 c_125 hB117 hs118 ⟨-⟩ o ho; obtain rfl : _ = o := Option.some.inj ho
            exact OS.move (v := vI x109) rfl ((hB117 12 (by kernel_rfl)).trans h52) ⟨_, St.refl, rfl⟩
          · rintro f_122 w_129 c_126 hB118 hs119 ⟨g111, -⟩ o ho; obtain rfl : _ = o := Option.some.inj ho
            replace g111 : (f_122 145) = vI x109 := g111
            have o65 := o6.keep ((((s7.t s8).t s9).t hs95).t hs119) (by decide)
            exact OS.idxArr rfl Try.runUnderlying72 Try.sizeOf63 ((hB118 7 (by kernel_rfl)).trans h49) o65 g111 ha15 (by have := hb18; rw [hl3] at this; exact this) (fun _ h => ⟨_, St.refl, h⟩)
          · rintro f_123 w_130 c_127 hB119 hs120 ⟨g112, -⟩ o ho; obtain rfl : _ = o := Option.some.inj ho
            replace g112 : AdrP p_3 (x109).toNat 1 (f_123 146) := g112
            have o66 := o6.keep ((((s7.t s8).t s9).t hs95).t hs120) (by decide)
            exact OS.ld1 (u := vU32 e13) rfl Try.isAgg63 rfl (o66.ld g112 hc13) ⟨_, St.refl, rfl⟩
          · rintro f_124 w_131 c_128 hB120 hs121 ⟨g113, g114, -⟩
            have h53 := (hB120 1 (by kernel_rfl)).trans h46
            have h54 := (hB120 3 (by kernel_rfl)).trans h47
            have h55 := (hB120 6 (by kernel_rfl)).trans h48
            have h56 := (hB120 7 (by kernel_rfl)).trans h49
            have h57 := (hB120 11 (by kernel_rfl)).trans h50
            have h58 := (hB120 109 (by kernel_rfl)).trans h51
            replace g113 : (f_124 144) = vU32 ((((h38.getD 7 0) + ((r_4 ^^^ r_5) ^^^ r_6)) + ((h38.getD 6 0) ^^^ ((h38.getD 4 0) &&& ((h38.getD 5 0) ^^^ (h38.getD 6 0))))) + e12) := g113
            replace g114 : (f_124 147) = vU32 e13 := g114
            refine WR.k rfl rfl rfl (OS.bin (a := vU32 ((((h38.getD 7 0) + ((r_4 ^^^ r_5) ^^^ r_6)) + ((h38.getD 6 0) ^^^ ((h38.getD 4 0) &&& ((h38.getD 5 0) ^^^ (h38.getD 6 0))))) + e12)) (b := vU32 e13) rfl g113 g114 b32_add ?_)
            refine WR.k rfl rfl rfl (OS.assign (v := vU32 (((((h38.getD 7 0) + ((r_4 ^^^ r_5) ^^^ r_6)) + ((h38.getD 6 0) ^^^ ((h38.getD 4 0) &&& ((h38.getD 5 0) ^^^ (h38.getD 6 0))))) + e12) + e13)) rfl rfl ?_)
            refine WR.nil ?_
            have o67 := o41.keep (hs95.t hs121) (by decide)
            obtain ⟨r_7, hr_7, hl10⟩ := bind_some hl10
            obtain ⟨r_8, hr_8, hl10⟩ := bind_some hl10
            obtain ⟨r_9, hr_9, hl10⟩ := bind_some hl10
            refine WC.seq (WC.draw (c := c_128) ⟨10, [[1], [1], [1], [1], [1], [1], [1], [1], [1], [1]], [[], [], [], [], [], [], [], [], [], []], [], [[], [0], [1], [], [3], [4], [2, 5], [], [7], [8]], [6, 9]⟩ [fun v w c => AdrP p_6 ((0 : Int)).toNat 1 v, fun v w c => v = vU32 (h38.getD 0 0), fun v w c => v = vU32 r_7, fun v w c => AdrP p_6 ((0 : Int)).toNat 1 v, fun v w c => v = vU32 (h38.getD 0 0), fun v w c => v = vU32 r_8, fun v w c => v = vU32 (r_7 ^^^ r_8), fun v w c => AdrP p_6 ((0 : Int)).toNat 1 v, fun v w c => v = vU32 (h38.getD 0 0), fun v w c => v = vU32 r_9] hmix (by kernel_rfl) (by kernel_rfl) ⟨?_, ?_, ?_, ?_, ?_, ?_, ?_, ?_, ?_, ?_, trivial⟩ ⟨fun _ _ _ _ _ _ h _ _ => h, fun _ _ _ _ _ _ h _ _ => h, fun _ _ _ _ _ _ h _ _ => h, fun _ _ _ _ _ _ h _ _ => h, fun _ _ _ _ _ _ h _ _ => h, fun _ _ _ _ _ _ h _ _ => h, fun _ _ _ _ _ _ h _ _ => h, fun _ _ _ _ _ _ h _ _ => h, fun _ _ _ _ _ _ h _ _ => h, fun _ _ _ _ _ _ h _ _ => h, trivial⟩ ?_)
            · rintro f_125 w_132 c_129 hB121 hs122 ⟨-⟩ o ho; obtain rfl : _ = o := Option.some.inj ho
              have o68 := o41.keep ((hs95.t hs121).t hs122) (by decide)
              exact OS.idxArr rfl Try.runUnderlying68 Try.sizeOf63 ((hB121 11 (by kernel_rfl)).trans h57) o68 rfl (by decide) (by decide) (fun _ h => ⟨_, St.refl, h⟩)
            · rintro f_126 w_133 c_130 hB122 hs123 ⟨g115, -⟩ o ho; obtain rfl : _ = o := Option.some.inj ho
              replace g115 : AdrP p_6 ((0 : Int)).toNat 1 (f_126 149) := g115
              have o69 := o41.keep ((hs95.t hs121).t hs123) (by decide)
              exact OS.ld1 (u := vU32 (h38.getD 0 0)) rfl Try.isAgg63 rfl (o69.ld g115 (getD_some (by rw [hl8]; decide))) ⟨_, St.refl, rfl⟩
            · rintro f_127 w_134 c_131 hB123 hs124 ⟨g116, -⟩ o ho; obtain rfl : _ = o := Option.some.inj ho
              replace g116 : (f_127 150) = vU32 (h38.getD 0 0) := g116
              refine OS.callF (vs := [vU32 (h38.getD 0 0), vI (-2 : Int)]) rfl ⟨g116, rfl, trivial⟩ Try.call40 ((W40 K w_134 hr_7).mono ?_)
              rintro _ w ⟨d, rfl, s⟩
              exact ⟨_, rfl, _, s.merge id, rfl⟩
            · rintro f_128 w_135 c_132 hB124 hs125 ⟨-⟩ o ho; obtain rfl : _ = o := Option.some.inj ho
              have o70 := o41.keep ((hs95.t hs121).t hs125) (by decide)
              exact OS.idxArr rfl Try.runUnderlying68 Try.sizeOf63 ((hB124 11 (by kernel_rfl)).trans h57) o70 rfl (by decide) (by decide) (fun _ h => ⟨_, St.refl, h⟩)
            · rintro f_129 w_136 c_133 hB125 hs126 ⟨g117, -⟩ o ho; obtain rfl : _ = o := Option.some.inj ho
              replace g117 : AdrP p_6 ((0 : Int)).toNat 1 (f_129 152) := g117
              have o71 := o41.keep ((hs95.t hs121).t hs126) (by decide)
              exact OS.ld1 (u := vU32 (h38.getD 0 0)) rfl Try.isAgg63 rfl (o71.ld g117 (getD_some (by rw [hl8]; decide))) ⟨_, St.refl, rfl⟩
            · rintro f_130 w_137 c_134 hB126 hs127 ⟨g118, -⟩ o ho; obtain rfl : _ = o := Option.some.inj ho
              replace g118 : (f_130 153) = vU32 (h38.getD 0 0) := g118
              refine OS.callF (vs := [vU32 (h38.getD 0 0), vI (-13 : Int)]) rfl ⟨g118, rfl, trivial⟩ Try.call40 ((W40 K w_137 hr_8).mono ?_)
              rintro _ w ⟨d, rfl, s⟩
              exact ⟨_, rfl, _, s.merge id, rfl⟩
            · rintro f_131 w_138 c_135 hB127 hs128 ⟨g119, g120, -⟩ o ho; obtain rfl : _ = o := Option.some.inj ho
              replace g119 : (f_131 151) = vU32 r_7 := g119
              replace g120 : (f_131 154) = vU32 r_8 := g120
              exact OS.bin (a := vU32 r_7) (b := vU32 r_8) rfl g119 g120 b32_xor ⟨_, St.refl, rfl⟩
            · rintro f_132 w_139 c_136 hB128 hs129 ⟨-⟩ o ho; obtain rfl : _ = o := Option.some.inj ho
              have o72 := o41.keep ((hs95.t hs121).t hs129) (by decide)
              exact OS.idxArr rfl Try.runUnderlying68 Try.sizeOf63 ((hB128 11 (by kernel_rfl)).trans h57) o72 rfl (by decide) (by decide) (fun _ h => ⟨_, St.refl, h⟩)
            · rintro f_133 w_140 c_137 hB129 hs130 ⟨g121, -⟩ o ho; obtain rfl : _ = o := Option.some.inj ho
              replace g121 : AdrP p_6 ((0 : Int)).toNat 1 (f_133 156) := g121
              have o73 := o41.keep ((hs95.t hs121).t hs130) (by decide)
              exact OS.ld1 (u := vU32 (h38.getD 0 0)) rfl Try.isAgg63 rfl (o73.ld g121 (getD_some (by rw [hl8]; decide))) ⟨_, St.refl, rfl⟩
            · rintro f_134 w_141 c_138 hB130 hs131 ⟨g122, -⟩ o ho; obtain rfl : _ = o := Option.some.inj ho
              replace g122 : (f_134 157) = vU32 (h38.getD 0 0) := g122
              refine OS.callF (vs := [vU32 (h38.getD 0 0), vI (-22 : Int)]) rfl ⟨g122, rfl, trivial⟩ Try.call40 ((W40 K w_141 hr_9).mono ?_)
              rintro _ w ⟨d, rfl, s⟩
              exact ⟨_, rfl, _, s.merge id, rfl⟩
            · rintro f_135 w_142 c_139 hB131 hs132 ⟨g123, g124, -⟩
              have h59 := (hB131 1 (by kernel_rfl)).trans h53
              have h60 := (hB131 3 (by kernel_rfl)).trans h54
              have h61 := (hB131 6 (by kernel_rfl)).trans h55
              have h62 := (hB131 7 (by kernel_rfl)).trans h56
              have h63 := (hB131 11 (by kernel_rfl)).trans h57
              have h64 := (hB131 109 (by kernel_rfl)).trans h58
              have h65 := (hB131 14 (by kernel_rfl)).trans (show _ = vU32 (((((h38.getD 7 0) + ((r_4 ^^^ r_5) ^^^ r_6)) + ((h38.getD 6 0) ^^^ ((h38.getD 4 0) &&& ((h38.getD 5 0) ^^^ (h38.getD 6 0))))) + e12) + e13) from rfl)
              replace g123 : (f_135 155) = vU32 (r_7 ^^^ r_8) := g123
              replace g124 : (f_135 158) = vU32 r_9 := g124
              refine WR.k rfl rfl rfl (OS.bin (a := vU32 (r_7 ^^^ r_8)) (b := vU32 r_9) rfl g123 g124 b32_xor ?_)
              refine WR.k rfl rfl rfl (OS.assign (v := vU32 ((r_7 ^^^ r_8) ^^^ r_9)) rfl rfl ?_)
              refine WR.nil ?_
              refine WC.seq (WC.region ?_)
              refine WR.k rfl rfl rfl (OS.move (v := vU32 ((r_7 ^^^ r_8) ^^^ r_9)) rfl rfl ?_)
              have o74 := o41.keep ((hs95.t hs121).t hs132) (by decide)
              refine WR.k rfl rfl rfl (OS.idxArr rfl Try.runUnderlying68 Try.sizeOf63 h63 o74 rfl (by decide) (by decide) ?_); intro p_7 a28
              refine WR.k rfl rfl rfl (OS.ld1 (u := vU32 (h38.getD 0 0)) rfl Try.isAgg63 rfl (o74.ld a28 (getD_some (by rw [hl8]; decide))) ?_)
              refine WR.k rfl rfl rfl (OS.idxArr rfl Try.runUnderlying68 Try.sizeOf63 h63 o74 rfl (by decide) (by decide) ?_); intro p_8 a29
              refine WR.k rfl rfl rfl (OS.ld1 (u := vU32 (h38.getD 1 0)) rfl Try.isAgg63 rfl (o74.ld a29 (getD_some (by rw [hl8]; decide))) ?_)
              refine WR.k rfl rfl rfl (OS.bin (a := vU32 (h38.getD 0 0)) (b := vU32 (h38.getD 1 0)) rfl rfl rfl b32_and ?_)
              refine WR.k rfl rfl rfl (OS.idxArr rfl Try.runUnderlying68 Try.sizeOf63 h63 o74 rfl (by decide) (by decide) ?_); intro p_9 a30
              refine WR.k rfl rfl rfl (OS.ld1 (u := vU32 (h38.getD 2 0)) rfl Try.isAgg63 rfl (o74.ld a30 (getD_some (by rw [hl8]; decide))) ?_)
              refine WR.k rfl rfl rfl (OS.idxArr rfl Try.runUnderlying68 Try.sizeOf63 h63 o74 rfl (by decide) (by decide) ?_); intro p_10 a31
              refine WR.k rfl rfl rfl (OS.ld1 (u := vU32 (h38.getD 0 0)) rfl Try.isAgg63 rfl (o74.ld a31 (getD_some (by rw [hl8]; decide))) ?_)
              refine WR.k rfl rfl rfl (OS.idxArr rfl Try.runUnderlying68 Try.sizeOf63 h63 o74 rfl (by decide) (by decide) ?_); intro p_11 a32
              refine WR.k rfl rfl rfl (OS.ld1 (u := vU32 (h38.getD 1 0)) rfl Try.isAgg63 rfl (o74.ld a32 (getD_some (by rw [hl8]; decide))) ?_)
              refine WR.k rfl rfl rfl (OS.bin (a := vU32 (h38.getD 0 0)) (b := vU32 (h38.getD 1 0)) rfl rfl rfl b32_or ?_)
              refine WR.k rfl rfl rfl (OS.bin (a := vU32 (h38.getD 2 0)) (b := vU32 ((h38.getD 0 0) ||| (h38.getD 1 0))) rfl rfl rfl b32_and ?_)
              refine WR.k rfl rfl rfl (OS.bin (a := vU32 ((h38.getD 0 0) &&& (h38.getD 1 0))) (b := vU32 ((h38.getD 2 0) &&& ((h38.getD 0 0) ||| (h38.getD 1 0)))) rfl rfl rfl b32_or ?_)
              refine WR.k rfl rfl rfl (OS.bin (a := vU32 ((r_7 ^^^ r_8) ^^^ r_9)) (b := vU32 (((h38.getD 0 0) &&& (h38.getD 1 0)) ||| ((h38.getD 2 0) &&& ((h38.getD 0 0) ||| (h38.getD 1 0))))) rfl rfl rfl b32_add ?_)
              refine WR.k rfl rfl rfl (OS.assign (v := vU32 (((r_7 ^^^ r_8) ^^^ r_9) + (((h38.getD 0 0) &&& (h38.getD 1 0)) ||| ((h38.getD 2 0) &&& ((h38.getD 0 0) ||| (h38.getD 1 0)))))) rfl rfl ?_)
              refine WR.nil ?_
              refine WC.seq (WC.draw (c := c_139) ⟨2, [[18], [18]], [[], []], [], [[], []], [0, 1]⟩ [fun v w c => Vw E63 18 w c v ((h38.take 8).drop 1) ∧ SlP p_6 1 7 1 v ∧ Full v, fun v w c => Vw E63 18 w c v ((h38.take 7).drop 0) ∧ SlP p_6 0 7 1 v] hmix (by kernel_rfl) (by kernel_rfl) ⟨?_, ?_, trivial⟩ ⟨fun _ _ _ _ _ _ ⟨y, z0, z1⟩ s hk => ⟨y.keep s (hk _ (by simp)), z0, z1⟩, fun _ _ _ _ _ _ ⟨y, z0⟩ s hk => ⟨y.keep s (hk _ (by simp)), z0⟩, trivial⟩ ?_)
              · rintro f_136 w_143 c_140 hB132 hs133 ⟨-⟩ o ho; obtain rfl : _ = o := Option.some.inj ho
                have o75 := o74.keep hs133 (by decide)
                refine OS.sliceAF (l := 1) (h := 8) rfl Try.underlying68 Try.sizeOf63 ((hB132 11 (by kernel_rfl)).trans h63) o75 hl8 (Bd.some (j := 1) rfl (by decide)) Bd.none (by decide) (by decide) ?_
                intro v y z fu
                exact ⟨_, St.refl, y, z (by decide), fu rfl⟩
              · rintro f_137 w_144 c_141 hB133 hs134 ⟨-⟩ o ho; obtain rfl : _ = o := Option.some.inj ho
                have o76 := o74.keep hs134 (by decide)
                refine OS.sliceAF (l := 0) (h := 7) rfl Try.underlying68 Try.sizeOf63 ((hB133 11 (by kernel_rfl)).trans h63) o76 hl8 Bd.none (Bd.some (j := 7) rfl (by decide)) (by decide) (by decide) ?_
                intro v y z fu
                exact ⟨_, St.refl, y, z (by decide)⟩
              · rintro f_138 w_145 c_142 hB134 hs135 ⟨g125, g126, -⟩
                have h66 := (hB134 1 (by kernel_rfl)).trans h59
                have h67 := (hB134 3 (by kernel_rfl)).trans h60
                have h68 := (hB134 6 (by kernel_rfl)).trans h61
                have h69 := (hB134 7 (by kernel_rfl)).trans h62
                have h70 := (hB134 11 (by kernel_rfl)).trans h63
                have h71 := (hB134 109 (by kernel_rfl)).trans h64
                have h72 := (hB134 14 (by kernel_rfl)).trans h65
                have h73 := (hB134 16 (by kernel_rfl)).trans (show _ = vU32 (((r_7 ^^^ r_8) ^^^ r_9) + (((h38.getD 0 0) &&& (h38.getD 1 0)) ||| ((h38.getD 2 0) &&& ((h38.getD 0 0) ||| (h38.getD 1 0))))) from rfl)
                replace g125 : Vw E63 18 w_145 c_142 (f_138 176) ((h38.take 8).drop 1) ∧ SlP p_6 1 7 1 (f_138 176) ∧ Full (f_138 176) := g125
                replace g126 : Vw E63 18 w_145 c_142 (f_138 177) ((h38.take 7).drop 0) ∧ SlP p_6 0 7 1 (f_138 177) := g126
                have o77 := o74.keep hs135 (by decide)
                obtain ⟨h74, hh74, hl10⟩ := bind_some hl10
                replace hh74 := (Option.some.inj hh74).symm
                refine WR.k rfl rfl rfl (OS.copyArr rfl Try.underlying64 Try.sizeOf63 rfl rfl rfl o77 g125.2.1 g126.1 (by rw [hl8]; decide) ?_); intro w_146 o78 s10
                replace o78 : Arr E63 18 w_146 c_142 p_6 h74 := by rw [hh74]; exact o78
                have hl11 : h74.length = 8 := (by rw [hh74]; have h1 := hl8; simp only [List.length_append, List.length_take, List.length_drop]; omega)
                refine WR.nil ?_
                refine WC.seq (WC.region ?_)
                refine WR.k rfl rfl rfl (OS.idxArr rfl Try.runUnderlying68 Try.sizeOf63 h70 o78 rfl (by decide) (by decide) ?_); intro p_12 a33
                refine WR.k rfl rfl rfl (OS.ld1 (u := vU32 (h74.getD 4 0)) rfl Try.isAgg63 rfl (o78.ld a33 (getD_some (by rw [hl11]; decide))) ?_)
                refine WR.k rfl rfl rfl (OS.move (v := vU32 (((((h38.getD 7 0) + ((r_4 ^^^ r_5) ^^^ r_6)) + ((h38.getD 6 0) ^^^ ((h38.getD 4 0) &&& ((h38.getD 5 0) ^^^ (h38.getD 6 0))))) + e12) + e13)) rfl h72 ?_)
                refine WR.k rfl rfl rfl (OS.bin (a := vU32 (h74.getD 4 0)) (b := vU32 (((((h38.getD 7 0) + ((r_4 ^^^ r_5) ^^^ r_6)) + ((h38.getD 6 0) ^^^ ((h38.getD 4 0) &&& ((h38.getD 5 0) ^^^ (h38.getD 6 0))))) + e12) + e13)) rfl rfl rfl b32_add ?_)
                refine WR.k rfl rfl rfl (OS.idxArr rfl Try.runUnderlying68 Try.sizeOf63 h70 o78 rfl (by decide) (by decide) ?_); intro p_13 a34
                obtain ⟨h75, hh75, hl10⟩ := bind_some hl10
                replace hh75 := (Option.some.inj hh75).symm
                refine WR.k0 rfl rfl (OS.stArr (q := (h74.getD 4 0) + (((((h38.getD 7 0) + ((r_4 ^^^ r_5) ^^^ r_6)) + ((h38.getD 6 0) ^^^ ((h38.getD 4 0) &&& ((h38.getD 5 0) ^^^ (h38.getD 6 0))))) + e12) + e13)) (u := vU32 ((h74.getD 4 0) + (((((h38.getD 7 0) + ((r_4 ^^^ r_5) ^^^ r_6)) + ((h38.getD 6 0) ^^^ ((h38.getD 4 0) &&& ((h38.getD 5 0) ^^^ (h38.getD 6 0))))) + e12) + e13))) rfl Try.sizeOf63 rfl rfl o78 rfl a34 (by rw [hl11]; decide) rfl ?_); intro w_147 o79 s11
                replace o79 : Arr E63 18 w_147 c_142 p_6 h75 := by rw [hh75]; exact o79
                have hl12 : h75.length = 8 := (by rw [hh75, List.length_set]; exact hl11)
                refine WR.nil ?_
                refine WC.region ?_
                refine WR.k rfl rfl rfl (OS.move (v := vU32 (((((h38.getD 7 0) + ((r_4 ^^^ r_5) ^^^ r_6)) + ((h38.getD 6 0) ^^^ ((h38.getD 4 0) &&& ((h38.getD 5 0) ^^^ (h38.getD 6 0))))) + e12) + e13)) rfl h72 ?_)
                refine WR.k rfl rfl rfl (OS.move (v := vU32 (((r_7 ^^^ r_8) ^^^ r_9) + (((h38.getD 0 0) &&& (h38.getD 1 0)) ||| ((h38.getD 2 0) &&& ((h38.getD 0 0) ||| (h38.getD 1 0)))))) rfl h73 ?_)
                refine WR.k rfl rfl rfl (OS.bin (a := vU32 (((((h38.getD 7 0) + ((r_4 ^^^ r_5) ^^^ r_6)) + ((h38.getD 6 0) ^^^ ((h38.getD 4 0) &&& ((h38.getD 5 0) ^^^ (h38.getD 6 0))))) + e12) + e13)) (b := vU32 (((r_7 ^^^ r_8) ^^^ r_9) + (((h38.getD 0 0) &&& (h38.getD 1 0)) ||| ((h38.getD 2 0) &&& ((h38.getD 0 0) ||| (h38.getD 1 0)))))) rfl rfl rfl b32_add ?_)
                refine WR.k rfl rfl rfl (OS.idxArr rfl Try.runUnderlying68 Try.sizeOf63 h70 o79 rfl (by decide) (by decide) ?_); intro p_14 a35
                obtain ⟨h76, hh76, hl10⟩ := bind_some hl10
                replace hh76 := (Option.some.inj hh76).symm
                refine WR.k0 rfl rfl (OS.stArr (q := (((((h38.getD 7 0) + ((r_4 ^^^ r_5) ^^^ r_6)) + ((h38.getD 6 0) ^^^ ((h38.getD 4 0) &&& ((h38.getD 5 0) ^^^ (h38.getD 6 0))))) + e12) + e13) + (((r_7 ^^^ r_8) ^^^ r_9) + (((h38.getD 0 0) &&& (h38.getD 1 0)) ||| ((h38.getD 2 0) &&& ((h38.getD 0 0) ||| (h38.getD 1 0)))))) (u := vU32 ((((((h38.getD 7 0) + ((r_4 ^^^ r_5) ^^^ r_6)) + ((h38.getD 6 0) ^^^ ((h38.getD 4 0) &&& ((h38.getD 5 0) ^^^ (h38.getD 6 0))))) + e12) + e13) + (((r_7 ^^^ r_8) ^^^ r_9) + (((h38.getD 0 0) &&& (h38.getD 1 0)) ||| ((h38.getD 2 0) &&& ((h38.getD 0 0) ||| (h38.getD 1 0))))))) rfl Try.sizeOf63 rfl rfl o79 rfl a35 (by rw [hl12]; decide) rfl ?_); intro w_148 o80 s12
                replace o80 : Arr E63 18 w_148 c_142 p_6 h76 := by rw [hh76]; exact o80
                have hl13 : h76.length = 8 := (by rw [hh76, List.length_set]; exact hl12)
                refine WR.nil ?_
                refine WC.region ?_
                refine WR.k rfl rfl rfl (OS.bin (a := vI x109) (b := vI (1 : Int)) rfl h71 rfl bI_add ?_)
                refine WR.k rfl rfl rfl (OS.move (v := vI (W (x109 + (1 : Int)))) rfl rfl ?_)
                refine WR.nil ?_
                exact ⟨k, by omega, _, _, _, hl10, h66, h67, h68, h69, h70, o80, hl13, rfl, (((((((s9.t hs95).t hs121).t hs132).t hs135).t s10).t s11).t s12).mono (by decide)⟩
      · rw [if_neg (nt hb16)] at hl10
        refine WC.exit ?_
        cases hl10
        exact ⟨_, h41, h42, h44, o41, hl8, s9.mono (by decide)⟩
    · rintro f_86 w_93 ⟨c_90, h77, h78, h79, o42, hl9, s13⟩
      refine WC.seq ?_
      refine WC.seq (WC.region ?_)
      refine WR.k rfl rfl rfl (OS.move (v := vI (0 : Int)) rfl rfl ?_)
      refine WR.nil ?_
      obtain ⟨q2, hl16, hp⟩ := bind_some hp
      obtain ⟨h81, hx⟩ : ∃ z, z = q2 := ⟨_, rfl⟩; subst hx
      refine WC.blockJ2 (fun f_139 w_149 => ∃ (c_143 : Col), f_139 3 = p_1 ∧ Arr E63 12 w_149 c_143 p_1 h81 ∧ h81.length = 8 ∧ f_139 6 = p_2 ∧ St [12] w_93 c_90 w_149 c_143) ?_ ?_
      · have o83 := o38.keep ((s7.t s8).t s13) (by decide)
        refine WC.loop (fun n => fun f_140 w_150 => ∃ (h80 : List UInt32) (x189 : Int) (c_144 : Col), hash_words_mix.l3 n h39 h80 x189 = some h81 ∧ f_140 3 = p_1 ∧ Arr E63 12 w_150 c_144 p_1 h80 ∧ h80.length = 8 ∧ f_140 6 = p_2 ∧ f_140 11 = p_6 ∧ f_140 189 = vI x189 ∧ St [12] w_93 c_90 w_150 c_144) K ⟨_, _, _, hl16, h77, o83, hl, h78, h79, rfl, St.refl.mono (by decide)⟩ ?_
        rintro n f_140 w_150 ⟨h80, x189, c_144, hl16, h82, o81, hl14, h83, h84, h85, s14⟩
        cases n with
        | zero => exact absurd hl16 (by simp [hash_words_mix.l3])
        | succ k =>
        rw [hash_words_mix.l3] at hl16
        refine WC.seq (WC.region ?_)
        refine WR.k rfl rfl rfl (OS.bin (a := vI x189) (b := vI (8 : Int)) rfl h85 rfl bI_lss ?_)
        refine WR.nil ?_
        refine WC.seq ?_
        refine WC.cond (decide (x189 < (8 : Int))) rfl (fun hb19 => ?_) (fun hb19 => ?_)
        · rw [if_pos hb19] at hl16
          refine WC.skip ?_
          refine WC.seq ?_
          refine WC.block ?_
          refine WC.seq (WC.region ?_)
          refine WR.k rfl rfl rfl (OS.move (v := vI x189) rfl h85 ?_)
          refine WR.k rfl rfl rfl (OS.assign (v := vI x189) rfl rfl ?_)
          refine WR.nil ?_
          obtain ⟨e14, he14, hl16⟩ := bind_some hl16
          obtain ⟨ha16, hb20, hc14⟩ := gt_some he14
          have o84 := o42.keep s14 (by decide)
          obtain ⟨e15, he15, hl16⟩ := bind_some hl16
          obtain ⟨ha17, hb21, hc15⟩ := gt_some he15
          refine WC.draw (c := c_144) ⟨6, [[1], [1], [1], [1], [1], [1]], [[], [], [], [], [], []], [], [[], [0], [1], [], [3], [4]], [0, 2, 5]⟩ [fun v w c => v = vI x189, fun v w c => AdrP p_1 (x189).toNat 1 v, fun v w c => v = vU32 e14, fun v w c => v = vI x189, fun v w c => AdrP p_6 (x189).toNat 1 v, fun v w c => v = vU32 e15] hmix (by kernel_rfl) (by kernel_rfl) ⟨?_, ?_, ?_, ?_, ?_, ?_, trivial⟩ ⟨fun _ _ _ _ _ _ h _ _ => h, fun _ _ _ _ _ _ h _ _ => h, fun _ _ _ _ _ _ h _ _ => h, fun _ _ _ _ _ _ h _ _ => h, fun _ _ _ _ _ _ h _ _ => h, fun _ _ _ _ _ _ h _ _ => h, trivial⟩ ?_
          · rintro f_141 w_151 c_145 hB135 hs136 ⟨-⟩ o ho; obtain rfl : _ = o := Option.some.inj ho
            exact OS.move (v := vI x189) rfl ((hB135 17 (by kernel_rfl)).trans rfl) ⟨_, St.refl, rfl⟩
          · rintro f_142 w_152 c_146 hB136 hs137 ⟨g127, -⟩ o ho; obtain rfl : _ = o := Option.some.inj ho
            replace g127 : (f_142 192) = vI x189 := g127
            have o85 := o81.keep hs137 (by decide)
            exact OS.idxArr rfl Try.runUnderlying68 Try.sizeOf63 ((hB136 3 (by kernel_rfl)).trans h82) o85 g127 ha16 (by have := hb20; rw [hl14] at this; exact this) (fun _ h => ⟨_, St.refl, h⟩)
          · rintro f_143 w_153 c_147 hB137 hs138 ⟨g128, -⟩ o ho; obtain rfl : _ = o := Option.some.inj ho
            replace g128 : AdrP p_1 (x189).toNat 1 (f_143 193) := g128
            have o86 := o81.keep hs138 (by decide)
            exact OS.ld1 (u := vU32 e14) rfl Try.isAgg63 rfl (o86.ld g128 hc14) ⟨_, St.refl, rfl⟩
          · rintro f_144 w_154 c_148 hB138 hs139 ⟨-⟩ o ho; obtain rfl : _ = o := Option.some.inj ho
            exact OS.move (v := vI x189) rfl ((hB138 17 (by kernel_rfl)).trans rfl) ⟨_, St.refl, rfl⟩
          · rintro f_145 w_155 c_149 hB139 hs140 ⟨g129, -⟩ o ho; obtain rfl : _ = o := Option.some.inj ho
            replace g129 : (f_145 195) = vI x189 := g129
            have o87 := o42.keep (s14.t hs140) (by decide)
            exact OS.idxArr rfl Try.runUnderlying68 Try.sizeOf63 ((hB139 11 (by kernel_rfl)).trans h84) o87 g129 ha17 (by have := hb21; rw [hl9] at this; exact this) (fun _ h => ⟨_, St.refl, h⟩)
          · rintro f_146 w_156 c_150 hB140 hs141 ⟨g130, -⟩ o ho; obtain rfl : _ = o := Option.some.inj ho
            replace g130 : AdrP p_6 (x189).toNat 1 (f_146 196) := g130
            have o88 := o42.keep (s14.t hs141) (by decide)
            exact OS.ld1 (u := vU32 e15) rfl Try.isAgg63 rfl (o88.ld g130 hc15) ⟨_, St.refl, rfl⟩
          · rintro f_147 w_157 c_151 hB141 hs142 ⟨g131, g132, g133, -⟩
            have h86 := (hB141 3 (by kernel_rfl)).trans h82
            have h87 := (hB141 6 (by kernel_rfl)).trans h83
            have h88 := (hB141 11 (by kernel_rfl)).trans h84
            have h89 := (hB141 189 (by kernel_rfl)).trans h85
            replace g131 : (f_147 192) = vI x189 := g131
            replace g132 : (f_147 194) = vU32 e14 := g132
            replace g133 : (f_147 197) = vU32 e15 := g133
            refine WR.k rfl rfl rfl (OS.bin (a := vU32 e14) (b := vU32 e15) rfl g132 g133 b32_add ?_)
            have o89 := o81.keep hs142 (by decide)
            obtain ⟨u2, hu2, hl16⟩ := bind_some hl16
            obtain ⟨ha18, hb22⟩ := req_some hu2
            refine WR.k rfl rfl rfl (OS.idxArr rfl Try.runUnderlying68 Try.sizeOf63 h86 o89 g131 ha18 (by have := hb22; rw [hl14] at this; exact this) ?_); intro p_15 a38
            obtain ⟨h90, hh90, hl16⟩ := bind_some hl16
            replace hh90 := (Option.some.inj hh90).symm
            refine WR.k0 rfl rfl (OS.stArr (q := e14 + e15) (u := vU32 (e14 + e15)) rfl Try.sizeOf63 rfl rfl o89 rfl a38 (by have h1 := (by have := hb22; rw [hl14] at this; exact this); rw [hl14]; omega) rfl ?_); intro w_158 o90 s15
            replace o90 : Arr E63 12 w_158 c_151 p_1 h90 := by rw [hh90]; exact o90
            have hl17 : h90.length = 8 := (by rw [hh90, List.length_set]; exact hl14)
            refine WR.nil ?_
            refine WC.region ?_
            refine WR.k rfl rfl rfl (OS.bin (a := vI x189) (b := vI (1 : Int)) rfl h89 rfl bI_add ?_)
            refine WR.k rfl rfl rfl (OS.move (v := vI (W (x189 + (1 : Int)))) rfl rfl ?_)
            refine WR.nil ?_
            exact ⟨k, by omega, _, _, _, hl16, h86, o90, hl17, h87, h88, rfl, ((s14.t hs142).t s15).mono (by decide)⟩
        · rw [if_neg (nt hb19)] at hl16
          refine WC.exit ?_
          cases hl16
          exact ⟨_, h82, o81, hl14, h83, s14.mono (by decide)⟩
      · rintro f_139 w_149 ⟨c_143, h91, o82, hl15, h92, s16⟩
        refine WC.seq (WC.region ?_)
        refine WR.k rfl rfl rfl (OS.ldN rfl Try.isAgg68 Try.sizeOf68 h91 o82.ldAll (by rw [fl_length, hl15]; rfl) ?_)
        have o91 := o3.keep (((((s2.t s6).t s7).t s8).t s13).t s16) (by decide)
        refine WR.k0 rfl rfl (OS.stArrAll rfl Try.sizeOf68 h92 rfl o91 (by rw [fl_length, hl15]; rfl) (Eq.trans (List.length_replicate (n := 8) (a := (0 : UInt32))) (Eq.symm hl15)) ?_); intro w_159 o92 s17
        have hl18 : h81.length = 8 := hl15
        refine WR.nil ?_
        refine WC.ret ?_
        repeat first | refine thenQ_ret ?_ | refine blkQ_ret ?_
        cases hp
        exact fnQ.l1 (fn := Try.f38) rfl (.inr ⟨_, _, _, _, rfl, ⟨_, h92, Try.isAgg68, Try.sizeOf68, o92.ldAll, (by rw [fl_length, hl18]; rfl)⟩, rfl⟩) ⟨_, rfl, ((((((((s.t s1).t s2).t s6).t s7).t s8).t s13).t s16).t s17).entry (by decide), hl18⟩

-- bytes.Clone
theorem W39 (K : Nat) (w0 : World) {b : List UInt8} {r : List UInt8} (hp : bytes_Clone K b = some r) {v : Value} (o : Vw E5 0 w0 c0 v b) :
    Calls Try.prog 39 [v].toArray w0 fun e w1 => ∃ (v0 : Value) (d : Col), e = .returned (v0) ∧ St [] w0 c0 w1 d ∧ Ow E5 2 w1 d v0 r := by
  refine calls_intro Try.func39 rfl Try.ntmps39 rfl ?_
  unfold bytes_Clone at hp
  obtain ⟨ha, hr⟩ := app_some hp
  refine WC.seq (WC.region ?_)
  refine WR.k rfl rfl rfl (OS.assign (v := .slice none 0 0) rfl rfl ?_)
  refine WR.nil ?_
  refine WC.seq ?_
  refine WC.seq (WC.region ?_)
  refine WR.k rfl rfl rfl (OS.move (v := v) rfl rfl ?_)
  refine WR.k rfl rfl rfl (OS.eqNil rfl Try.underlying25 rfl o.isSl rfl ?_)
  refine WR.nil ?_
  refine WC.cond (isNil v) rfl (fun hb => ?_) (fun hb => ?_)
  · obtain ⟨hv, hx⟩ := o.nil_of hb
    refine WC.seq (WC.region ?_)
    refine WR.k rfl rfl rfl (OS.assign (v := .slice none 0 0) rfl rfl ?_)
    refine WR.nil ?_
    refine WC.ret ?_
    repeat first | refine thenQ_ret ?_ | refine blkQ_ret ?_
    exact fnQ.l1 (fn := Try.f39) rfl (.inl ⟨_, rfl, rfl⟩) ⟨_, _, rfl, St.refl, (by rw [hr, hx]; exact Ow.nil)⟩
  · refine WC.skip ?_
    refine WC.seq (WC.region ?_)
    refine WR.k rfl rfl rfl (OS.bslice (E := E5) (c := c0) 2 ([] : List UInt8) [] rfl trivial (fun _ => by kernel_rfl) rfl (by decide) ?_); intro v1 w c o1 s1
    refine WR.k rfl rfl rfl (OS.move (v := v) rfl rfl ?_)
    refine WR.k rfl rfl rfl (OS.append (E := E5) (c := c) (i := 2) (xs := []) (ys := b) rfl Try.underlying25 Try.underlying25 (.inl rfl) I5 rfl rfl rfl rfl rfl o1 (o.keep s1 (by decide)).src (lim_bytes (by decide) ha) (lim_max (b := 1) (by decide) ha) ?_); intro v2 w2 c2 o2 s2
    replace o2 : Ow E5 2 w2 c2 v2 r := by rw [hr]; exact o2
    refine WR.k rfl rfl rfl (OS.assign (v := v2) rfl rfl ?_)
    refine WR.nil ?_
    refine WC.ret ?_
    repeat first | refine thenQ_ret ?_ | refine blkQ_ret ?_
    exact fnQ.l1 (fn := Try.f39) rfl (.inl ⟨_, rfl, rfl⟩) ⟨_, _, rfl, (s1.t s2).entry (by decide), o2⟩

-- holdfast/hash.Sum
set_option maxHeartbeats 4000000 in
theorem W33 (K : Nat) (w0 : World) {b : List UInt8} {r : (List UInt8)} (hp : hash_Sum K b = some r) {v_ : Value} (o : Vw E5 0 w0 c0 v_ b) :
    Calls Try.prog 33 [v_].toArray w0 fun e w1 => ∃ (d : Col), e = .returned (.agg (fl E5 r).toArray) ∧ St [] w0 c0 w1 d ∧ r.length = 32 := by
  refine calls_intro Try.func33 rfl Try.ntmps33 rfl ?_
  unfold hash_Sum at hp
  refine WC.seq (WC.region ?_)
  refine WR.k rfl rfl rfl (OS.allocArr (E := E5) (xs := (List.replicate 32 (0 : UInt8))) (c := c0) 12 rfl Try.zeroValue23 (by kernel_rfl) ?_); intro p_ w_ c_ o1 s
  refine WR.nil ?_
  refine WC.seq (WC.region ?_)
  obtain ⟨l1, hl1, hp⟩ := bind_some hp
  replace hl1 := (Option.some.inj hl1).symm
  have hl : l1.length = 8 := by rw [hl1]; rfl
  refine WR.k rfl rfl rfl (OS.build (v := .agg (fl E63 l1).toArray) [(0, vU32 (1779033703 : UInt32)), (1, vU32 (3144134277 : UInt32)), (2, vU32 (1013904242 : UInt32)), (3, vU32 (2773480762 : UInt32)), (4, vU32 (1359893119 : UInt32)), (5, vU32 (2600822924 : UInt32)), (6, vU32 (528734635 : UInt32)), (7, vU32 (1541459225 : UInt32))] rfl ⟨rfl, (by kernel_rfl), rfl, (by kernel_rfl), rfl, (by kernel_rfl), rfl, (by kernel_rfl), rfl, (by kernel_rfl), rfl, (by kernel_rfl), rfl, (by kernel_rfl), rfl, (by kernel_rfl), trivial⟩ (fun _ => by rw [hl1]; kernel_rfl) ?_)
  refine WR.k rfl rfl rfl (OS.allocArr (E := E63) (xs := (List.replicate 8 (0 : UInt32))) (c := c_) 13 rfl Try.zeroValue68 (by kernel_rfl) ?_); intro p_1 w_1 c_1 o2 s1
  refine WR.k0 rfl rfl (OS.stArrAll rfl Try.sizeOf68 rfl rfl o2 (by rw [fl_length, hl]; rfl) (Eq.trans (List.length_replicate (n := 8) (a := (0 : UInt32))) (Eq.symm hl)) ?_); intro w_2 o3 s2
  have hl2 : l1.length = 8 := hl
  refine WR.nil ?_
  refine WC.seq (WC.region ?_)
  obtain ⟨r_, hr_, hp⟩ := bind_some hp
  refine WR.k rfl rfl rfl (OS.callF (vs := []) rfl trivial Try.call37 ((W37 K w_2 hr_).mono ?_))
  rintro _ w_3 ⟨p_2, d, rfl, s3, o4, hl3⟩
  refine ⟨_, rfl, ?_⟩
  obtain ⟨c_2, s4, o4⟩ : ∃ c_2, St [] w_2 c_1 w_3 c_2 ∧ Arr E63 15 w_3 c_2 p_2 r_ := ⟨_, s3.merge (fun x => x + 13), o4.merge (fun x => x + 13) s3 (by decide)⟩
  refine WR.k rfl rfl rfl (OS.assign (v := p_2) rfl rfl ?_)
  refine WR.nil ?_
  refine WC.seq (WC.region ?_)
  refine WR.k rfl rfl rfl (OS.move (v := v_) rfl rfl ?_)
  have o5 := o.keep (((s.t s1).t s2).t s4) (by decide)
  refine WR.k rfl rfl rfl (OS.lenSl rfl Try.runUnderlying25 rfl o5.isSl ?_)
  refine WR.k rfl rfl rfl (OS.conv rfl Try.runUnderlying3 Try.runUnderlying24 rfl (cv_i64 _) ?_)
  refine WR.k rfl rfl rfl (OS.bin (a := vU64 (iU64 (b.length : Int))) (b := vU64 (3 : UInt64)) rfl rfl (by kernel_rfl) (b64_shl (by decide)) ?_)
  refine WR.k rfl rfl rfl (OS.assign (v := vU64 (shl64 (iU64 (b.length : Int)) 3)) rfl rfl ?_)
  refine WR.nil ?_
  refine WC.seq ?_
  obtain ⟨q, hl6, hp⟩ := bind_some hp
  obtain ⟨b2, l3⟩ := q; dsimp only at hp
  refine WC.blockJ2 (fun f_ w_4 => ∃ (v_2 : Value) (c_3 : Col), f_ 0 = v_2 ∧ Vw E5 0 w_4 c_3 v_2 b2 ∧ f_ 2 = p_ ∧ f_ 3 = p_1 ∧ Arr E63 13 w_4 c_3 p_1 l3 ∧ l3.length = 8 ∧ f_ 4 = p_2 ∧ f_ 5 = vU64 (shl64 (iU64 (b.length : Int)) 3) ∧ St [13] w_3 c_2 w_4 c_3) ?_ ?_
  · have o10 := o3.keep s4 (by decide)
    refine WC.loop (fun n => fun f_1 w_5 => ∃ (b1 : List UInt8) (l2 : List UInt32) (v_1 : Value) (c_4 : Col), hash_Sum.l1 K n r_ b1 l2 = some (b2, l3) ∧ f_1 0 = v_1 ∧ Vw E5 0 w_5 c_4 v_1 b1 ∧ f_1 2 = p_ ∧ f_1 3 = p_1 ∧ Arr E63 13 w_5 c_4 p_1 l2 ∧ l2.length = 8 ∧ f_1 4 = p_2 ∧ f_1 5 = vU64 (shl64 (iU64 (b.length : Int)) 3) ∧ St [13] w_3 c_2 w_5 c_4) K ⟨_, _, _, _, hl6, rfl, o5, rfl, rfl, o10, hl2, rfl, rfl, St.refl.mono (by decide)⟩ ?_
    rintro n f_1 w_5 ⟨b1, l2, v_1, c_4, hl6, h, o6, h1, h2, o7, hl4, h3, h4, s5⟩
    cases n with
    | zero => exact absurd hl6 (by simp [hash_Sum.l1])
    | succ k =>
    rw [hash_Sum.l1] at hl6
    refine WC.seq ?_
    refine WC.seq (WC.region ?_)
    refine WR.k rfl rfl rfl (OS.move (v := v_1) rfl h ?_)
    refine WR.k rfl rfl rfl (OS.lenSl rfl Try.runUnderlying25 rfl o6.isSl ?_)
    refine WR.k rfl rfl rfl (OS.bin (a := vI (b1.length : Int)) (b := vI (64 : Int)) rfl rfl rfl bI_geq ?_)
    refine WR.nil ?_
    refine WC.cond (decide ((64 : Int) ≤ (b1.length : Int))) rfl (fun hb => ?_) (fun hb => ?_)
    · rw [if_pos hb] at hl6
      refine WC.skip ?_
      refine WC.seq ?_
      refine WC.block ?_
      refine WC.region ?_
      refine WR.k rfl rfl rfl (OS.ldN rfl Try.isAgg68 Try.sizeOf68 h2 o7.ldAll (by rw [fl_length, hl4]; rfl) ?_)
      refine WR.k rfl rfl rfl (OS.move (v := p_2) rfl h3 ?_)
      refine WR.k rfl rfl rfl (OS.move (v := v_1) rfl h ?_)
      have o11 := o4.keep s5 (by decide)
      obtain ⟨r_1, hr_1, hl6⟩ := bind_some hl6
      refine WR.k rfl rfl rfl (OS.callF (vs := [.agg (fl E63 l2).toArray, p_2, v_1]) rfl ⟨rfl, rfl, rfl, trivial⟩ Try.call38 ((W38 K w_5 hr_1 hl4 o11.forget hl3 o6.forget).mono ?_))
      rintro _ w_6 ⟨d1, rfl, s6, hl7⟩
      refine ⟨_, rfl, ?_⟩
      obtain ⟨c_5, s7⟩ : ∃ c_5, St [] w_5 c_4 w_6 c_5 := ⟨_, s6.merge (fun x => x + 23)⟩
      have o12 := o7.keep s7 (by decide)
      refine WR.k0 rfl rfl (OS.stArrAll rfl Try.sizeOf68 h2 rfl o12 (by rw [fl_length, hl7]; rfl) (Eq.trans hl4 (Eq.symm hl7)) ?_); intro w_7 o13 s8
      have hl8 : r_1.length = 8 := hl7
      refine WR.nil ?_
      refine WC.region ?_
      refine WR.k rfl rfl rfl (OS.move (v := v_1) rfl h ?_)
      have o14 := o6.keep (s7.t s8) (by decide)
      obtain ⟨ys, hys, hl6⟩ := bind_some hl6
      obtain ⟨ha, hb1, hc, hys⟩ := sub_some hys
      refine WR.k rfl rfl rfl (OS.sliceV rfl Try.underlying25 Try.sizeOf5 rfl o14 (Bd.some rfl ha) Bd.none rfl (by omega) (by omega) ?_); intro v_3 y
      replace y : Vw E5 0 w_7 c_5 v_3 ys := by rw [hys]; exact y
      refine WR.k rfl rfl rfl (OS.assign (v := v_3) rfl rfl ?_)
      refine WR.nil ?_
      exact ⟨k, by omega, _, _, _, _, hl6, rfl, y, h1, h2, o13, hl8, h3, h4, ((s5.t s7).t s8).mono (by decide)⟩
    · rw [if_neg (nt hb)] at hl6
      refine WC.exit ?_
      cases hl6
      exact ⟨_, _, h, o6, h1, h2, o7, hl4, h3, h4, s5.mono (by decide)⟩
  · rintro f_ w_4 ⟨v_2, c_3, h5, o8, h6, h7, o9, hl5, h8, h9, s9⟩
    refine WC.seq (WC.region ?_)
    refine WR.k rfl rfl rfl (OS.move (v := v_2) rfl h5 ?_)
    obtain ⟨r_2, hr_2, hp⟩ := bind_some hp
    refine WR.k rfl rfl rfl (OS.callF (vs := [v_2]) rfl ⟨rfl, trivial⟩ Try.call39 ((W39 K w_4 hr_2 o8.forget).mono ?_))
    rintro _ w_8 ⟨v_4, d2, rfl, s10, o15⟩
    refine ⟨_, rfl, ?_⟩
    obtain ⟨c_6, s11, o15⟩ : ∃ c_6, St [] w_4 c_3 w_8 c_6 ∧ Ow E5 27 w_8 c_6 v_4 r_2 := ⟨_, s10.merge (fun x => x + 25), o15.merge (fun x => x + 25) s10 (by decide)⟩
    obtain ⟨l9, hl9, hp⟩ := bind_some hp
    replace hl9 := (Option.some.inj hl9).symm
    refine WR.k rfl rfl rfl (OS.bslice (E := E5) (c := c_6) 29 ([(128 : UInt8)] : List UInt8) [(0, vU8 (128 : UInt8))] rfl ⟨rfl, (by kernel_rfl), trivial⟩ (fun _ => by kernel_rfl) rfl (by decide) ?_); intro v_5 w_9 c_7 o16 s12
    replace o16 : Ow E5 29 w_9 c_7 v_5 l9 := by rw [hl9]; exact o16
    have o17 := o15.keep s12 (by decide)
    obtain ⟨r_3, hr_3, hp⟩ := bind_some hp
    obtain ⟨ha1, hr_3⟩ := app_some hr_3
    refine WR.k rfl rfl rfl (OS.append (E := E5) (c := c_7) (i := 27) (xs := r_2) (ys := l9) rfl Try.underlying25 Try.underlying25 (.inl rfl) I5 rfl rfl rfl rfl rfl o17 o16.vw.src (lim_bytes (by decide) ha1) (lim_max (b := 1) (by decide) ha1) ?_); intro v_6 w_10 c_8 o18 s13
    replace o18 : Ow E5 27 w_10 c_8 v_6 r_3 := by rw [hr_3]; exact o18
    refine WR.k rfl rfl rfl (OS.assign (v := v_6) rfl rfl ?_)
    refine WR.nil ?_
    refine WC.seq (WC.region ?_)
    refine WR.k rfl rfl rfl (OS.move (v := v_6) rfl rfl ?_)
    refine WR.k rfl rfl rfl (OS.move (v := v_2) rfl h5 ?_)
    have o19 := o8.keep ((s11.t s12).t s13) (by decide)
    refine WR.k rfl rfl rfl (OS.lenSl rfl Try.runUnderlying25 rfl o19.isSl ?_)
    refine WR.k rfl rfl rfl (OS.bin (a := vI (119 : Int)) (b := vI (b2.length : Int)) rfl rfl rfl bI_sub ?_)
    refine WR.k rfl rfl rfl (OS.bin (a := vI (W ((119 : Int) - (b2.length : Int)))) (b := vI (64 : Int)) rfl rfl rfl (bI_rem (by decide)) ?_)
    obtain ⟨xs, hxs, hp⟩ := bind_some hp
    obtain ⟨zs, hq, hxs⟩ := bind_some hxs
    obtain ⟨ha2, hb2, hc1⟩ := mks_some hq
    obtain ⟨hd, hxs⟩ := app_some hxs
    refine WR.k rfl rfl rfl (OS.appendZ (E := E5) (c := c_8) (i := 27) (z0 := (0 : UInt8)) rfl Try.underlying25 Try.underlying3 I5 rfl rfl rfl rfl rfl o18 ha2 hc1 (lim_bytes (by decide) hd) (lim_max (b := 1) (by decide) hd) ?_); intro v_7 w_11 c_9 o20 s14
    replace o20 : Ow E5 27 w_11 c_9 v_7 xs := by rw [hxs]; exact o20
    refine WR.k rfl rfl rfl (OS.assign (v := v_7) rfl rfl ?_)
    refine WR.nil ?_
    refine WC.seq ?_
    refine WC.seq (WC.region ?_)
    refine WR.k rfl rfl rfl (OS.move (v := vI (0 : Int)) rfl rfl ?_)
    refine WR.nil ?_
    obtain ⟨q1, hl10, hp⟩ := bind_some hp
    obtain ⟨end_1, hx⟩ : ∃ z, z = q1 := ⟨_, rfl⟩; subst hx
    refine WC.blockJ2 (fun f_2 w_12 => ∃ (v_9 : Value) (c_10 : Col), f_2 2 = p_ ∧ f_2 3 = p_1 ∧ f_2 4 = p_2 ∧ f_2 6 = v_9 ∧ Ow E5 27 w_12 c_10 v_9 end_1 ∧ St [27] w_11 c_9 w_12 c_10) ?_ ?_
    · refine WC.loop (fun n => fun f_3 w_13 => ∃ (end_ : List UInt8) (x35 : Int) (v_8 : Value) (c_11 : Col), hash_Sum.l2 n b end_ x35 = some end_1 ∧ f_3 2 = p_ ∧ f_3 3 = p_1 ∧ f_3 4 = p_2 ∧ f_3 5 = vU64 (shl64 (iU64 (b.length : Int)) 3) ∧ f_3 6 = v_8 ∧ Ow E5 27 w_13 c_11 v_8 end_ ∧ f_3 35 = vI x35 ∧ St [27] w_11 c_9 w_13 c_11) K ⟨_, _, _, _, hl10, h6, h7, h8, h9, rfl, o20, rfl, St.refl.mono (by decide)⟩ ?_
      rintro n f_3 w_13 ⟨end_, x35, v_8, c_11, hl10, h10, h11, h12, h13, h14, o21, h15, s15⟩
      cases n with
      | zero => exact absurd hl10 (by simp [hash_Sum.l2])
      | succ k =>
      rw [hash_Sum.l2] at hl10
      refine WC.seq (WC.region ?_)
      refine WR.k rfl rfl rfl (OS.bin (a := vI x35) (b := vI (8 : Int)) rfl h15 rfl bI_lss ?_)
      refine WR.nil ?_
      refine WC.seq ?_
      refine WC.cond (decide (x35 < (8 : Int))) rfl (fun hb3 => ?_) (fun hb3 => ?_)
      · rw [if_pos hb3] at hl10
        refine WC.skip ?_
        refine WC.seq ?_
        refine WC.block ?_
        refine WC.seq (WC.region ?_)
        refine WR.k rfl rfl rfl (OS.move (v := vI x35) rfl h15 ?_)
        refine WR.k rfl rfl rfl (OS.assign (v := vI x35) rfl rfl ?_)
        refine WR.nil ?_
        refine WC.region ?_
        refine WR.k rfl rfl rfl (OS.move (v := v_8) rfl h14 ?_)
        refine WR.k rfl rfl rfl (OS.move (v := vU64 (shl64 (iU64 (b.length : Int)) 3)) rfl h13 ?_)
        refine WR.k rfl rfl rfl (OS.move (v := vI x35) rfl rfl ?_)
        refine WR.k rfl rfl rfl (OS.bin (a := vI (8 : Int)) (b := vI x35) rfl rfl rfl bI_mul ?_)
        refine WR.k rfl rfl rfl (OS.bin (a := vI (56 : Int)) (b := vI (W ((8 : Int) * x35))) rfl rfl rfl bI_sub ?_)
        obtain ⟨k1, hk1, hl10⟩ := bind_some hl10
        obtain ⟨ha3, hk1⟩ := shc_some hk1
        refine WR.k rfl rfl rfl (OS.bin (a := vU64 (shl64 (iU64 (b.length : Int)) 3)) (b := vI (W ((56 : Int) - (W ((8 : Int) * x35))))) rfl rfl rfl (b64_shr ha3) ?_)
        refine WR.k rfl rfl rfl (OS.conv rfl Try.runUnderlying24 Try.runUnderlying5 rfl (cv_64_8 _) ?_)
        obtain ⟨l11, hl11, hl10⟩ := bind_some hl10
        replace hl11 := (Option.some.inj hl11).symm
        refine WR.k rfl rfl rfl (OS.bslice (E := E5) (c := c_11) 35 ([(shr64 (shl64 (iU64 (b.length : Int)) 3) (W ((56 : Int) - (W ((8 : Int) * x35)))).toNat).toUInt8] : List UInt8) [(0, vU8 ((shr64 (shl64 (iU64 (b.length : Int)) 3) (W ((56 : Int) - (W ((8 : Int) * x35)))).toNat).toUInt8))] rfl ⟨rfl, rfl, trivial⟩ (fun _ => by kernel_rfl) rfl (by decide) ?_); intro v_10 w_14 c_12 o23 s16
        replace o23 : Ow E5 35 w_14 c_12 v_10 l11 := by rw [hl11]; exact o23
        have o24 := o21.keep s16 (by decide)
        obtain ⟨end_2, hend_2, hl10⟩ := bind_some hl10
        obtain ⟨ha4, hend_2⟩ := app_some hend_2
        refine WR.k rfl rfl rfl (OS.append (E := E5) (c := c_12) (i := 27) (xs := end_) (ys := l11) rfl Try.underlying25 Try.underlying25 (.inl rfl) I5 rfl rfl rfl rfl rfl o24 o23.vw.src (lim_bytes (by decide) ha4) (lim_max (b := 1) (by decide) ha4) ?_); intro v_11 w_15 c_13 o25 s17
        replace o25 : Ow E5 27 w_15 c_13 v_11 end_2 := by rw [hend_2]; exact o25
        refine WR.k rfl rfl rfl (OS.assign (v := v_11) rfl rfl ?_)
        refine WR.nil ?_
        refine WC.region ?_
        refine WR.k rfl rfl rfl (OS.bin (a := vI x35) (b := vI (1 : Int)) rfl h15 rfl bI_add ?_)
        refine WR.k rfl rfl rfl (OS.move (v := vI (W (x35 + (1 : Int)))) rfl rfl ?_)
        refine WR.nil ?_
        exact ⟨k, by omega, _, _, _, _, hl10, h10, h11, h12, h13, rfl, o25, rfl, ((s15.t s16).t s17).mono (by decide)⟩
      · rw [if_neg (nt hb3)] at hl10
        refine WC.exit ?_
        cases hl10
        exact ⟨_, _, h10, h11, h12, h14, o21, s15.mono (by decide)⟩
    · rintro f_2 w_12 ⟨v_9, c_10, h16, h17, h18, h19, o22, s18⟩
      refine WC.seq ?_
      obtain ⟨q2, hl14, hp⟩ := bind_some hp
      obtain ⟨l13, hx⟩ : ∃ z, z = q2 := ⟨_, rfl⟩; subst hx
      refine WC.blockJ2 (fun f_4 w_16 => ∃ (c_14 : Col), f_4 2 = p_ ∧ f_4 3 = p_1 ∧ Arr E63 13 w_16 c_14 p_1 l13 ∧ l13.length = 8 ∧ St [13] w_12 c_10 w_16 c_14) ?_ ?_
      · have o29 := o9.keep ((((s11.t s12).t s13).t s14).t s18) (by decide)
        refine WC.loop (fun n => fun f_5 w_17 => ∃ (l12 : List UInt32) (end_3 : List UInt8) (v_12 : Value) (c_15 : Col), hash_Sum.l3 K n r_ l12 end_3 = some l13 ∧ f_5 2 = p_ ∧ f_5 3 = p_1 ∧ Arr E63 13 w_17 c_15 p_1 l12 ∧ l12.length = 8 ∧ f_5 4 = p_2 ∧ f_5 6 = v_12 ∧ Vw E5 27 w_17 c_15 v_12 end_3 ∧ St [13] w_12 c_10 w_17 c_15) K ⟨_, _, _, _, hl14, h16, h17, o29, hl5, h18, h19, o22.vw, St.refl.mono (by decide)⟩ ?_
        rintro n f_5 w_17 ⟨l12, end_3, v_12, c_15, hl14, h20, h21, o26, hl12, h22, h23, o27, s19⟩
        cases n with
        | zero => exact absurd hl14 (by simp [hash_Sum.l3])
        | succ k =>
        rw [hash_Sum.l3] at hl14
        refine WC.seq ?_
        refine WC.seq (WC.region ?_)
        refine WR.k rfl rfl rfl (OS.move (v := v_12) rfl h23 ?_)
        refine WR.k rfl rfl rfl (OS.lenSl rfl Try.runUnderlying25 rfl o27.isSl ?_)
        refine WR.k rfl rfl rfl (OS.bin (a := vI (end_3.length : Int)) (b := vI (0 : Int)) rfl rfl rfl bI_gtr ?_)
        refine WR.nil ?_
        refine WC.cond (decide ((0 : Int) < (end_3.length : Int))) rfl (fun hb4 => ?_) (fun hb4 => ?_)
        · rw [if_pos hb4] at hl14
          refine WC.skip ?_
          refine WC.seq ?_
          refine WC.block ?_
          refine WC.region ?_
          refine WR.k rfl rfl rfl (OS.ldN rfl Try.isAgg68 Try.sizeOf68 h21 o26.ldAll (by rw [fl_length, hl12]; rfl) ?_)
          refine WR.k rfl rfl rfl (OS.move (v := p_2) rfl h22 ?_)
          refine WR.k rfl rfl rfl (OS.move (v := v_12) rfl h23 ?_)
          have o30 := o4.keep ((((((s9.t s11).t s12).t s13).t s14).t s18).t s19) (by decide)
          obtain ⟨r_4, hr_4, hl14⟩ := bind_some hl14
          refine WR.k rfl rfl rfl (OS.callF (vs := [.agg (fl E63 l12).toArray, p_2, v_12]) rfl ⟨rfl, rfl, rfl, trivial⟩ Try.call38 ((W38 K w_17 hr_4 hl12 o30.forget hl3 o27.forget).mono ?_))
          rintro _ w_18 ⟨d3, rfl, s20, hl15⟩
          refine ⟨_, rfl, ?_⟩
          obtain ⟨c_16, s21⟩ : ∃ c_16, St [] w_17 c_15 w_18 c_16 := ⟨_, s20.merge (fun x => x + 42)⟩
          have o31 := o26.keep s21 (by decide)
          refine WR.k0 rfl rfl (OS.stArrAll rfl Try.sizeOf68 h21 rfl o31 (by rw [fl_length, hl15]; rfl) (Eq.trans hl12 (Eq.symm hl15)) ?_); intro w_19 o32 s22
          have hl16 : r_4.length = 8 := hl15
          refine WR.nil ?_
          refine WC.region ?_
          refine WR.k rfl rfl rfl (OS.move (v := v_12) rfl h23 ?_)
          have o33 := o27.keep (s21.t s22) (by decide)
          obtain ⟨ys1, hys1, hl14⟩ := bind_some hl14
          obtain ⟨ha5, hb5, hc2, hys1⟩ := sub_some hys1
          refine WR.k rfl rfl rfl (OS.sliceV rfl Try.underlying25 Try.sizeOf5 rfl o33 (Bd.some rfl ha5) Bd.none rfl (by omega) (by omega) ?_); intro v_13 y1
          replace y1 : Vw E5 27 w_19 c_16 v_13 ys1 := by rw [hys1]; exact y1
          refine WR.k rfl rfl rfl (OS.assign (v := v_13) rfl rfl ?_)
          refine WR.nil ?_
          exact ⟨k, by omega, _, _, _, _, hl14, h20, h21, o32, hl16, h22, rfl, y1, ((s19.t s21).t s22).mono (by decide)⟩
        · rw [if_neg (nt hb4)] at hl14
          refine WC.exit ?_
          cases hl14
          exact ⟨_, h20, h21, o26, hl12, s19.mono (by decide)⟩
      · rintro f_4 w_16 ⟨c_14, h24, h25, o28, hl13, s23⟩
        refine WC.seq ?_
        refine WC.seq (WC.region ?_)
        refine WR.k rfl rfl rfl (OS.ldN rfl Try.isAgg68 Try.sizeOf68 h25 o28.ldAll (by rw [fl_length, hl13]; rfl) ?_)
        refine WR.k rfl rfl rfl (OS.move (v := vI (0 : Int)) rfl rfl ?_)
        refine WR.nil ?_
        obtain ⟨q3, hl19, hp⟩ := bind_some hp
        obtain ⟨xs2, hx⟩ : ∃ z, z = q3 := ⟨_, rfl⟩; subst hx
        refine WC.blockJ2 (fun f_6 w_20 => ∃ (c_17 : Col), f_6 2 = p_ ∧ Arr E5 12 w_20 c_17 p_ xs2 ∧ xs2.length = 32 ∧ St [12] w_16 c_14 w_20 c_17) ?_ ?_
        · have o36 := o1.keep (((((((((s1.t s2).t s4).t s9).t s11).t s12).t s13).t s14).t s18).t s23) (by decide)
          refine WC.loop (fun n => fun f_7 w_21 => ∃ (xs1 : List UInt8) (x58 : Int) (c_18 : Col), hash_Sum.l4 n l13 xs1 x58 = some xs2 ∧ f_7 2 = p_ ∧ Arr E5 12 w_21 c_18 p_ xs1 ∧ xs1.length = 32 ∧ f_7 57 = .agg (fl E63 l13).toArray ∧ f_7 58 = vI x58 ∧ St [12] w_16 c_14 w_21 c_18) K ⟨_, _, _, hl19, h24, o36, (List.length_replicate (n := 32) (a := (0 : UInt8))), rfl, rfl, St.refl.mono (by decide)⟩ ?_
          rintro n f_7 w_21 ⟨xs1, x58, c_18, hl19, h26, o34, hl17, h27, h28, s24⟩
          cases n with
          | zero => exact absurd hl19 (by simp [hash_Sum.l4])
          | succ k =>
          rw [hash_Sum.l4] at hl19
          refine WC.seq (WC.region ?_)
          refine WR.k rfl rfl rfl (OS.bin (a := vI x58) (b := vI (8 : Int)) rfl h28 rfl bI_lss ?_)
          refine WR.nil ?_
          refine WC.seq ?_
          refine WC.cond (decide (x58 < (8 : Int))) rfl (fun hb6 => ?_) (fun hb6 => ?_)
          · rw [if_pos hb6] at hl19
            refine WC.skip ?_
            refine WC.seq ?_
            refine WC.block ?_
            refine WC.seq (WC.region ?_)
            refine WR.k rfl rfl rfl (OS.move (v := vI x58) rfl h28 ?_)
            obtain ⟨e, he, hl19⟩ := bind_some hl19
            obtain ⟨ha6, hb7, hc3⟩ := gt_some he
            refine WR.k rfl rfl rfl (OS.indexArr (u := vU32 e) rfl Try.runUnderlying68 Try.sizeOf63 Try.isAgg63 rfl h27 hl13 h28 ha6 hc3 rfl ?_)
            refine WR.k rfl rfl rfl (OS.assign (v := vI x58) rfl rfl ?_)
            refine WR.k rfl rfl rfl (OS.assign (v := vU32 e) rfl rfl ?_)
            refine WR.nil ?_
            refine WC.region ?_
            refine WR.k rfl rfl rfl (OS.move (v := vI x58) rfl rfl ?_)
            refine WR.k rfl rfl rfl (OS.bin (a := vI (4 : Int)) (b := vI x58) rfl rfl rfl bI_mul ?_)
            refine WR.k rfl rfl rfl (OS.move (v := vI x58) rfl rfl ?_)
            refine WR.k rfl rfl rfl (OS.bin (a := vI (4 : Int)) (b := vI x58) rfl rfl rfl bI_mul ?_)
            refine WR.k rfl rfl rfl (OS.bin (a := vI (W ((4 : Int) * x58))) (b := vI (1 : Int)) rfl rfl rfl bI_add ?_)
            refine WR.k rfl rfl rfl (OS.move (v := vI x58) rfl rfl ?_)
            refine WR.k rfl rfl rfl (OS.bin (a := vI (4 : Int)) (b := vI x58) rfl rfl rfl bI_mul ?_)
            refine WR.k rfl rfl rfl (OS.bin (a := vI (W ((4 : Int) * x58))) (b := vI (2 : Int)) rfl rfl rfl bI_add ?_)
            refine WR.k rfl rfl rfl (OS.move (v := vI x58) rfl rfl ?_)
            refine WR.k rfl rfl rfl (OS.bin (a := vI (4 : Int)) (b := vI x58) rfl rfl rfl bI_mul ?_)
            refine WR.k rfl rfl rfl (OS.bin (a := vI (W ((4 : Int) * x58))) (b := vI (3 : Int)) rfl rfl rfl bI_add ?_)
            refine WR.k rfl rfl rfl (OS.move (v := vU32 e) rfl rfl ?_)
            refine WR.k rfl rfl rfl (OS.bin (a := vU32 e) (b := vU64 (24 : UInt64)) rfl rfl (by kernel_rfl) (b32_shr (by decide)) ?_)
            refine WR.k rfl rfl rfl (OS.conv rfl Try.runUnderlying63 Try.runUnderlying5 rfl (cv_32_8 _) ?_)
            refine WR.k rfl rfl rfl (OS.move (v := vU32 e) rfl rfl ?_)
            refine WR.k rfl rfl rfl (OS.bin (a := vU32 e) (b := vU64 (16 : UInt64)) rfl rfl (by kernel_rfl) (b32_shr (by decide)) ?_)
            refine WR.k rfl rfl rfl (OS.conv rfl Try.runUnderlying63 Try.runUnderlying5 rfl (cv_32_8 _) ?_)
            refine WR.k rfl rfl rfl (OS.move (v := vU32 e) rfl rfl ?_)
            refine WR.k rfl rfl rfl (OS.bin (a := vU32 e) (b := vU64 (8 : UInt64)) rfl rfl (by kernel_rfl) (b32_shr (by decide)) ?_)
            refine WR.k rfl rfl rfl (OS.conv rfl Try.runUnderlying63 Try.runUnderlying5 rfl (cv_32_8 _) ?_)
            refine WR.k rfl rfl rfl (OS.move (v := vU32 e) rfl rfl ?_)
            refine WR.k rfl rfl rfl (OS.conv rfl Try.runUnderlying63 Try.runUnderlying5 rfl (cv_32_8 _) ?_)
            obtain ⟨u, hu, hl19⟩ := bind_some hl19
            obtain ⟨ha7, hb8⟩ := req_some hu
            refine WR.k rfl rfl rfl (OS.idxArr rfl Try.runUnderlying23 Try.sizeOf5 h26 o34 rfl ha7 (by have := hb8; rw [hl17] at this; exact this) ?_); intro p_3 a1
            obtain ⟨xs3, hxs3, hl19⟩ := bind_some hl19
            replace hxs3 := (Option.some.inj hxs3).symm
            refine WR.k0 rfl rfl (OS.stArr (q := (shr32 e 24).toUInt8) (u := vU8 ((shr32 e 24).toUInt8)) rfl Try.sizeOf5 rfl rfl o34 rfl a1 (by have h1 := (by have := hb8; rw [hl17] at this; exact this); rw [hl17]; omega) rfl ?_); intro w_22 o37 s25
            replace o37 : Arr E5 12 w_22 c_18 p_ xs3 := by rw [hxs3]; exact o37
            have hl20 : xs3.length = 32 := (by rw [hxs3, List.length_set]; exact hl17)
            obtain ⟨u1, hu1, hl19⟩ := bind_some hl19
            obtain ⟨ha8, hb9⟩ := req_some hu1
            refine WR.k rfl rfl rfl (OS.idxArr rfl Try.runUnderlying23 Try.sizeOf5 h26 o37 rfl ha8 (by have := hb9; rw [hl20] at this; exact this) ?_); intro p_4 a2
            obtain ⟨xs4, hxs4, hl19⟩ := bind_some hl19
            replace hxs4 := (Option.some.inj hxs4).symm
            refine WR.k0 rfl rfl (OS.stArr (q := (shr32 e 16).toUInt8) (u := vU8 ((shr32 e 16).toUInt8)) rfl Try.sizeOf5 rfl rfl o37 rfl a2 (by have h1 := (by have := hb9; rw [hl20] at this; exact this); rw [hl20]; omega) rfl ?_); intro w_23 o38 s26
            replace o38 : Arr E5 12 w_23 c_18 p_ xs4 := by rw [hxs4]; exact o38
            have hl21 : xs4.length = 32 := (by rw [hxs4, List.length_set]; exact hl20)
            obtain ⟨u2, hu2, hl19⟩ := bind_some hl19
            obtain ⟨ha9, hb10⟩ := req_some hu2
            refine WR.k rfl rfl rfl (OS.idxArr rfl Try.runUnderlying23 Try.sizeOf5 h26 o38 rfl ha9 (by have := hb10; rw [hl21] at this; exact this) ?_); intro p_5 a3
            obtain ⟨xs5, hxs5, hl19⟩ := bind_some hl19
            replace hxs5 := (Option.some.inj hxs5).symm
            refine WR.k0 rfl rfl (OS.stArr (q := (shr32 e 8).toUInt8) (u := vU8 ((shr32 e 8).toUInt8)) rfl Try.sizeOf5 rfl rfl o38 rfl a3 (by have h1 := (by have := hb10; rw [hl21] at this; exact this); rw [hl21]; omega) rfl ?_); intro w_24 o39 s27
            replace o39 : Arr E5 12 w_24 c_18 p_ xs5 := by rw [hxs5]; exact o39
            have hl22 : xs5.length = 32 := (by rw [hxs5, List.length_set]; exact hl21)
            obtain ⟨u3, hu3, hl19⟩ := bind_some hl19
            obtain ⟨ha10, hb11⟩ := req_some hu3
            refine WR.k rfl rfl rfl (OS.idxArr rfl Try.runUnderlying23 Try.sizeOf5 h26 o39 rfl ha10 (by have := hb11; rw [hl22] at this; exact this) ?_); intro p_6 a4
            obtain ⟨xs6, hxs6, hl19⟩ := bind_some hl19
            replace hxs6 := (Option.some.inj hxs6).symm
            refine WR.k0 rfl rfl (OS.stArr (q := e.toUInt8) (u := vU8 e.toUInt8) rfl Try.sizeOf5 rfl rfl o39 rfl a4 (by have h1 := (by have := hb11; rw [hl22] at this; exact this); rw [hl22]; omega) rfl ?_); intro w_25 o40 s28
            replace o40 : Arr E5 12 w_25 c_18 p_ xs6 := by rw [hxs6]; exact o40
            have hl23 : xs6.length = 32 := (by rw [hxs6, List.length_set]; exact hl22)
            refine WR.nil ?_
            refine WC.region ?_
            refine WR.k rfl rfl rfl (OS.bin (a := vI x58) (b := vI (1 : Int)) rfl h28 rfl bI_add ?_)
            refine WR.k rfl rfl rfl (OS.move (v := vI (W (x58 + (1 : Int)))) rfl rfl ?_)
            refine WR.nil ?_
            exact ⟨k, by omega, _, _, _, hl19, h26, o40, hl23, h27, rfl, ((((s24.t s25).t s26).t s27).t s28).mono (by decide)⟩
          · rw [if_neg (nt hb6)] at hl19
            refine WC.exit ?_
            cases hl19
            exact ⟨_, h26, o34, hl17, s24.mono (by decide)⟩
        · rintro f_6 w_20 ⟨c_17, h29, o35, hl18, s29⟩
          refine WC.seq (WC.region ?_)
          refine WR.k rfl rfl rfl (OS.ldN rfl Try.isAgg23 Try.sizeOf23 h29 o35.ldAll (by rw [fl_length, hl18]; rfl) ?_)
          refine WR.k0 rfl rfl (OS.stArrAll rfl Try.sizeOf23 h29 rfl o35 (by rw [fl_length, hl18]; rfl) (Eq.trans hl18 (Eq.symm hl18)) ?_); intro w_26 o41 s30
          have hl24 : xs2.length = 32 := hl18
          refine WR.nil ?_
          refine WC.ret ?_
          repeat first | refine thenQ_ret ?_ | refine blkQ_ret ?_
          cases hp
          exact fnQ.l1 (fn := Try.f33) rfl (.inr ⟨_, _, _, _, rfl, ⟨_, h29, Try.isAgg23, Try.sizeOf23, o41.ldAll, (by rw [fl_length, hl24]; rfl)⟩, rfl⟩) ⟨_, rfl, ((((((((((((s.t s1).t s2).t s4).t s9).t s11).t s12).t s13).t s14).t s18).t s23).t s29).t s30).entry (by decide), hl24⟩

-- holdfast/hash.Tag
set_option maxHeartbeats 4000000 in
theorem W28 (K : Nat) (w0 : World) {key : List UInt8} {b : List UInt8} {r : (List UInt8)} (hp : hash_Tag K key b = some r) {v_ : Value} (o : Vw E5 0 w0 c0 v_ key) {v_1 : Value} (o1 : Vw E5 0 w0 c0 v_1 b) :
    Calls Try.prog 28 [v_, v_1].toArray w0 fun e w1 => ∃ (d : Col), e = .returned (.agg (fl E5 r).toArray) ∧ St [] w0 c0 w1 d ∧ r.length = 32 := by
  refine calls_intro Try.func28 rfl Try.ntmps28 rfl ?_
  unfold hash_Tag at hp
  refine WC.seq (WC.region ?_)
  refine WR.k rfl rfl rfl (OS.allocArr (E := E5) (xs := (List.replicate 32 (0 : UInt8))) (c := c0) 12 rfl Try.zeroValue23 (by kernel_rfl) ?_); intro p_ w_ c_ o2 s
  refine WR.nil ?_
  refine WC.seq ?_
  refine WC.seq (WC.region ?_)
  refine WR.k rfl rfl rfl (OS.move (v := v_) rfl rfl ?_)
  have o3 := o.keep s (by decide)
  refine WR.k rfl rfl rfl (OS.lenSl rfl Try.runUnderlying25 rfl o3.isSl ?_)
  refine WR.k rfl rfl rfl (OS.bin (a := vI (key.length : Int)) (b := vI (64 : Int)) rfl rfl rfl bI_gtr ?_)
  refine WR.nil ?_
  refine WC.endJ (fun f_ w_1 => ∃ (key1 : List UInt8) (v_2 : Value) (c_1 : Col), hash_Tag.j1 K b key1 = some r ∧ f_ 0 = v_2 ∧ Vw E5 0 w_1 c_1 v_2 key1 ∧ f_ 1 = v_1 ∧ f_ 4 = p_ ∧ St [15, 18] w_ c_ w_1 c_1) ?_ ?_
  · refine WC.cond (decide ((64 : Int) < (key.length : Int))) rfl (fun hb => ?_) (fun hb => ?_)
    · rw [if_pos hb] at hp
      refine WC.seq (WC.region ?_)
      refine WR.k rfl rfl rfl (OS.move (v := v_) rfl rfl ?_)
      obtain ⟨r_, hr_, hp⟩ := bind_some hp
      refine WR.k rfl rfl rfl (OS.callF (vs := [v_]) rfl ⟨rfl, trivial⟩ Try.call33 ((W33 K w_ hr_ o3.forget).mono ?_))
      rintro _ w_2 ⟨d, rfl, s1, hl⟩
      refine ⟨_, rfl, ?_⟩
      obtain ⟨c_2, s2⟩ : ∃ c_2, St [] w_ c_ w_2 c_2 := ⟨_, s1.merge (fun x => x + 15)⟩
      refine WR.k rfl rfl rfl (OS.allocArr (E := E5) (xs := (List.replicate 32 (0 : UInt8))) (c := c_2) 18 rfl Try.zeroValue23 (by kernel_rfl) ?_); intro p_1 w_3 c_3 o5 s3
      refine WR.k0 rfl rfl (OS.stArrAll rfl Try.sizeOf23 rfl rfl o5 (by rw [fl_length, hl]; rfl) (Eq.trans (List.length_replicate (n := 32) (a := (0 : UInt8))) (Eq.symm hl)) ?_); intro w_4 o6 s4
      have hl1 : r_.length = 32 := hl
      refine WR.nil ?_
      refine WC.region ?_
      refine WR.k rfl rfl rfl (OS.sliceAF (l := 0) (h := 32) rfl Try.underlying23 Try.sizeOf5 rfl o6 hl1 Bd.none Bd.none (by decide) (by decide) ?_); intro v_3 y z1 fu
      rw [List.drop_zero, List.take_of_length_le (by rw [hl1]; decide)] at y
      replace z1 := z1 (by decide)
      replace fu := fu rfl
      refine WR.k rfl rfl rfl (OS.assign (v := v_3) rfl rfl ?_)
      refine WR.nil ?_
      obtain ⟨c_4, s5, o7⟩ := y.recol 0
      exact ⟨_, _, _, hp, rfl, o7, rfl, rfl, (((s2.t s3).t s4).t s5).mono (by decide)⟩
    · rw [if_neg (nt hb)] at hp
      refine WC.skip ?_
      exact ⟨_, _, _, hp, rfl, o3, rfl, rfl, St.refl.mono (by decide)⟩
  · rintro f_ w_1 ⟨key1, v_2, c_1, hp, h, o4, h1, h2, s6⟩
    unfold hash_Tag.j1 at hp
    refine WC.seq (WC.region ?_)
    refine WR.k rfl rfl rfl (OS.allocArr (E := E5) (xs := (List.replicate 64 (0 : UInt8))) (c := c_1) 19 rfl Try.zeroValue60 (by kernel_rfl) ?_); intro p_2 w_5 c_5 o8 s7
    refine WR.k rfl rfl rfl (OS.allocArr (E := E5) (xs := (List.replicate 64 (0 : UInt8))) (c := c_5) 20 rfl Try.zeroValue60 (by kernel_rfl) ?_); intro p_3 w_6 c_6 o9 s8
    refine WR.nil ?_
    refine WC.seq (WC.region ?_)
    have o10 := o8.keep s8 (by decide)
    refine WR.k rfl rfl rfl (OS.sliceAF (l := 0) (h := 64) rfl Try.underlying60 Try.sizeOf5 rfl o10 (List.length_replicate (n := 64) (a := (0 : UInt8))) Bd.none Bd.none (by decide) (by decide) ?_); intro v_4 y1 z2 fu1
    rw [List.drop_zero, List.take_of_length_le (by rw [(List.length_replicate (n := 64) (a := (0 : UInt8)))]; decide)] at y1
    replace z2 := z2 (by decide)
    replace fu1 := fu1 rfl
    refine WR.k rfl rfl rfl (OS.move (v := v_2) rfl h ?_)
    have o11 := o4.keep (s7.t s8) (by decide)
    obtain ⟨xs, hxs, hp⟩ := bind_some hp
    replace hxs := (Option.some.inj hxs).symm
    refine WR.k rfl rfl rfl (OS.copyArr rfl Try.underlying25 Try.sizeOf5 rfl rfl rfl o10 z2 o11 (by rw [(List.length_replicate (n := 64) (a := (0 : UInt8)))]; decide) ?_); intro w_7 o12 s9
    replace o12 : Arr E5 19 w_7 c_6 p_2 xs := by rw [hxs]; exact o12
    have hl2 : xs.length = 64 := (by rw [hxs]; have h1 := (List.length_replicate (n := 64) (a := (0 : UInt8))); simp only [List.length_append, List.length_take, List.length_drop]; omega)
    refine WR.nil ?_
    refine WC.seq (WC.region ?_)
    refine WR.k rfl rfl rfl (OS.ldN rfl Try.isAgg60 Try.sizeOf60 rfl o12.ldAll (by rw [fl_length, hl2]; rfl) ?_)
    have o13 := o9.keep s9 (by decide)
    refine WR.k0 rfl rfl (OS.stArrAll rfl Try.sizeOf60 rfl rfl o13 (by rw [fl_length, hl2]; rfl) (Eq.trans (List.length_replicate (n := 64) (a := (0 : UInt8))) (Eq.symm hl2)) ?_); intro w_8 o14 s10
    have hl3 : xs.length = 64 := hl2
    refine WR.nil ?_
    refine WC.seq ?_
    refine WC.seq (WC.region ?_)
    refine WR.k rfl rfl rfl (OS.move (v := vI (0 : Int)) rfl rfl ?_)
    refine WR.nil ?_
    obtain ⟨q, hl8, hp⟩ := bind_some hp
    obtain ⟨xs3, xs4⟩ := q; dsimp only at hp
    refine WC.blockJ2 (fun f_1 w_9 => ∃ (c_7 : Col), f_1 1 = v_1 ∧ f_1 4 = p_ ∧ f_1 6 = p_2 ∧ Arr E5 19 w_9 c_7 p_2 xs3 ∧ xs3.length = 64 ∧ f_1 7 = p_3 ∧ Arr E5 20 w_9 c_7 p_3 xs4 ∧ xs4.length = 64 ∧ St [19, 20] w_8 c_6 w_9 c_7) ?_ ?_
    · have o19 := o12.keep s10 (by decide)
      refine WC.loop (fun n => fun f_2 w_10 => ∃ (xs1 : List UInt8) (xs2 : List UInt8) (x20 : Int) (c_8 : Col), hash_Tag.l1 n xs1 xs2 x20 = some (xs3, xs4) ∧ f_2 1 = v_1 ∧ f_2 4 = p_ ∧ f_2 6 = p_2 ∧ Arr E5 19 w_10 c_8 p_2 xs1 ∧ xs1.length = 64 ∧ f_2 7 = p_3 ∧ Arr E5 20 w_10 c_8 p_3 xs2 ∧ xs2.length = 64 ∧ f_2 20 = vI x20 ∧ St [19, 20] w_8 c_6 w_10 c_8) K ⟨_, _, _, _, hl8, h1, h2, rfl, o19, hl2, rfl, o14, hl3, rfl, St.refl.mono (by decide)⟩ ?_
      rintro n f_2 w_10 ⟨xs1, xs2, x20, c_8, hl8, h3, h4, h5, o15, hl4, h6, o16, hl5, h7, s11⟩
      cases n with
      | zero => exact absurd hl8 (by simp [hash_Tag.l1])
      | succ k =>
      rw [hash_Tag.l1] at hl8
      refine WC.seq (WC.region ?_)
      refine WR.k rfl rfl rfl (OS.bin (a := vI x20) (b := vI (64 : Int)) rfl h7 rfl bI_lss ?_)
      refine WR.nil ?_
      refine WC.seq ?_
      refine WC.cond (decide (x20 < (64 : Int))) rfl (fun hb1 => ?_) (fun hb1 => ?_)
      · rw [if_pos hb1] at hl8
        refine WC.skip ?_
        refine WC.seq ?_
        refine WC.block ?_
        refine WC.seq (WC.region ?_)
        refine WR.k rfl rfl rfl (OS.move (v := vI x20) rfl h7 ?_)
        refine WR.k rfl rfl rfl (OS.assign (v := vI x20) rfl rfl ?_)
        refine WR.nil ?_
        refine WC.seq (WC.region ?_)
        refine WR.k rfl rfl rfl (OS.move (v := vI x20) rfl rfl ?_)
        obtain ⟨e, he, hl8⟩ := bind_some hl8
        obtain ⟨ha, hb2, hc⟩ := gt_some he
        refine WR.k rfl rfl rfl (OS.idxArr rfl Try.runUnderlying60 Try.sizeOf5 h5 o15 rfl ha (by have := hb2; rw [hl4] at this; exact this) ?_); intro p_4 a1
        refine WR.k rfl rfl rfl (OS.ld1 (u := vU8 e) rfl Try.isAgg5 rfl (o15.ld a1 hc) ?_)
        refine WR.k rfl rfl rfl (OS.bin (a := vU8 e) (b := vU8 (54 : UInt8)) rfl rfl (by kernel_rfl) b8_xor ?_)
        obtain ⟨u, hu, hl8⟩ := bind_some hl8
        obtain ⟨ha1, hb3⟩ := req_some hu
        refine WR.k rfl rfl rfl (OS.idxArr rfl Try.runUnderlying60 Try.sizeOf5 h5 o15 rfl ha1 (by have := hb3; rw [hl4] at this; exact this) ?_); intro p_5 a2
        obtain ⟨xs5, hxs5, hl8⟩ := bind_some hl8
        replace hxs5 := (Option.some.inj hxs5).symm
        refine WR.k0 rfl rfl (OS.stArr (q := e ^^^ (54 : UInt8)) (u := vU8 (e ^^^ (54 : UInt8))) rfl Try.sizeOf5 rfl rfl o15 rfl a2 (by have h1 := (by have := hb3; rw [hl4] at this; exact this); rw [hl4]; omega) rfl ?_); intro w_11 o20 s12
        replace o20 : Arr E5 19 w_11 c_8 p_2 xs5 := by rw [hxs5]; exact o20
        have hl9 : xs5.length = 64 := (by rw [hxs5, List.length_set]; exact hl4)
        refine WR.nil ?_
        refine WC.region ?_
        refine WR.k rfl rfl rfl (OS.move (v := vI x20) rfl rfl ?_)
        have o21 := o16.keep s12 (by decide)
        obtain ⟨e1, he1, hl8⟩ := bind_some hl8
        obtain ⟨ha2, hb4, hc1⟩ := gt_some he1
        refine WR.k rfl rfl rfl (OS.idxArr rfl Try.runUnderlying60 Try.sizeOf5 h6 o21 rfl ha2 (by have := hb4; rw [hl5] at this; exact this) ?_); intro p_6 a3
        refine WR.k rfl rfl rfl (OS.ld1 (u := vU8 e1) rfl Try.isAgg5 rfl (o21.ld a3 hc1) ?_)
        refine WR.k rfl rfl rfl (OS.bin (a := vU8 e1) (b := vU8 (92 : UInt8)) rfl rfl (by kernel_rfl) b8_xor ?_)
        obtain ⟨u1, hu1, hl8⟩ := bind_some hl8
        obtain ⟨ha3, hb5⟩ := req_some hu1
        refine WR.k rfl rfl rfl (OS.idxArr rfl Try.runUnderlying60 Try.sizeOf5 h6 o21 rfl ha3 (by have := hb5; rw [hl5] at this; exact this) ?_); intro p_7 a4
        obtain ⟨xs6, hxs6, hl8⟩ := bind_some hl8
        replace hxs6 := (Option.some.inj hxs6).symm
        refine WR.k0 rfl rfl (OS.stArr (q := e1 ^^^ (92 : UInt8)) (u := vU8 (e1 ^^^ (92 : UInt8))) rfl Try.sizeOf5 rfl rfl o21 rfl a4 (by have h1 := (by have := hb5; rw [hl5] at this; exact this); rw [hl5]; omega) rfl ?_); intro w_12 o22 s13
        replace o22 : Arr E5 20 w_12 c_8 p_3 xs6 := by rw [hxs6]; exact o22
        have hl10 : xs6.length = 64 := (by rw [hxs6, List.length_set]; exact hl5)
        refine WR.nil ?_
        refine WC.region ?_
        refine WR.k rfl rfl rfl (OS.bin (a := vI x20) (b := vI (1 : Int)) rfl h7 rfl bI_add ?_)
        refine WR.k rfl rfl rfl (OS.move (v := vI (W (x20 + (1 : Int)))) rfl rfl ?_)
        refine WR.nil ?_
        have o23 := o20.keep s13 (by decide)
        exact ⟨k, by omega, _, _, _, _, hl8, h3, h4, h5, o23, hl9, h6, o22, hl10, rfl, ((s11.t s12).t s13).mono (by decide)⟩
      · rw [if_neg (nt hb1)] at hl8
        refine WC.exit ?_
        cases hl8
        exact ⟨_, h3, h4, h5, o15, hl4, h6, o16, hl5, s11.mono (by decide)⟩
    · rintro f_1 w_9 ⟨c_7, h8, h9, h10, o17, hl6, h11, o18, hl7, s14⟩
      refine WC.seq (WC.region ?_)
      refine WR.k rfl rfl rfl (OS.sliceAF (l := 0) (h := 64) rfl Try.underlying60 Try.sizeOf5 h10 o17 hl6 Bd.none Bd.none (by decide) (by decide) ?_); intro v_5 y2 z3 fu2
      rw [List.drop_zero, List.take_of_length_le (by rw [hl6]; decide)] at y2
      replace z3 := z3 (by decide)
      replace fu2 := fu2 rfl
      refine WR.k rfl rfl rfl (OS.move (v := v_1) rfl h8 ?_)
      have o24 := o1.keep ((((((s.t s6).t s7).t s8).t s9).t s10).t s14) (by decide)
      obtain ⟨xs7, hxs7, hp⟩ := bind_some hp
      obtain ⟨ha4, hxs7⟩ := app_some hxs7
      refine WR.k rfl rfl rfl (OS.appendFull (E := E5) (c := c_7) (xs := xs3) (ys := b) rfl Try.underlying25 Try.underlying25 (.inl rfl) I5 rfl rfl rfl rfl rfl y2 fu2 o24.src (lim_bytes (by decide) ha4) (lim_max (b := 1) (by decide) ha4) ?_); intro v_6 w_13 c_9 o25 s15
      replace o25 : Vw E5 19 w_13 c_9 v_6 xs7 := by rw [hxs7]; exact o25
      obtain ⟨r_1, hr_1, hp⟩ := bind_some hp
      refine WR.k rfl rfl rfl (OS.callF (vs := [v_6]) rfl ⟨rfl, trivial⟩ Try.call33 ((W33 K w_13 hr_1 o25.forget).mono ?_))
      rintro _ w_14 ⟨d1, rfl, s16, hl11⟩
      refine ⟨_, rfl, ?_⟩
      obtain ⟨c_10, s17⟩ : ∃ c_10, St [] w_13 c_9 w_14 c_10 := ⟨_, s16.merge (fun x => x + 23)⟩
      refine WR.k rfl rfl rfl (OS.allocArr (E := E5) (xs := (List.replicate 32 (0 : UInt8))) (c := c_10) 26 rfl Try.zeroValue23 (by kernel_rfl) ?_); intro p_8 w_15 c_11 o26 s18
      refine WR.k0 rfl rfl (OS.stArrAll rfl Try.sizeOf23 rfl rfl o26 (by rw [fl_length, hl11]; rfl) (Eq.trans (List.length_replicate (n := 32) (a := (0 : UInt8))) (Eq.symm hl11)) ?_); intro w_16 o27 s19
      have hl12 : r_1.length = 32 := hl11
      refine WR.nil ?_
      have o28 := o18.keep (((s15.t s17).t s18).t s19) (by decide)
      refine WC.seq (WC.draw (c := c_11) ⟨2, [[20], [26]], [[], []], [], [[], []], [0, 1]⟩ [fun v w c => Vw E5 20 w c v xs4 ∧ SlP p_3 0 64 1 v ∧ Full v, fun v w c => Vw E5 26 w c v r_1 ∧ SlP p_8 0 32 1 v ∧ Full v] hmix (by kernel_rfl) (by kernel_rfl) ⟨?_, ?_, trivial⟩ ⟨fun _ _ _ _ _ _ ⟨y, z0, z1⟩ s hk => ⟨y.keep s (hk _ (by simp)), z0, z1⟩, fun _ _ _ _ _ _ ⟨y, z0, z1⟩ s hk => ⟨y.keep s (hk _ (by simp)), z0, z1⟩, trivial⟩ ?_)
      · rintro f_3 w_17 c_12 hB hs1 ⟨-⟩ o ho; obtain rfl : _ = o := Option.some.inj ho
        have o29 := o18.keep ((((s15.t s17).t s18).t s19).t hs1) (by decide)
        refine OS.sliceAF (l := 0) (h := 64) rfl Try.underlying60 Try.sizeOf5 ((hB 7 (by kernel_rfl)).trans h11) o29 hl7 Bd.none Bd.none (by decide) (by decide) ?_
        intro v y z fu
        rw [List.drop_zero, List.take_of_length_le (by rw [hl7]; decide)] at y
        exact ⟨_, St.refl, y, z (by decide), fu rfl⟩
      · rintro f_4 w_18 c_13 hB1 hs2 ⟨-⟩ o ho; obtain rfl : _ = o := Option.some.inj ho
        have o30 := o27.keep hs2 (by decide)
        refine OS.sliceAF (l := 0) (h := 32) rfl Try.underlying23 Try.sizeOf5 ((hB1 9 (by kernel_rfl)).trans rfl) o30 hl12 Bd.none Bd.none (by decide) (by decide) ?_
        intro v y z fu
        rw [List.drop_zero, List.take_of_length_le (by rw [hl12]; decide)] at y
        exact ⟨_, St.refl, y, z (by decide), fu rfl⟩
      · rintro f_5 w_19 c_14 hB2 hs3 ⟨g, g1, -⟩
        have h12 := (hB2 4 (by kernel_rfl)).trans h9
        replace g : Vw E5 20 w_19 c_14 (f_5 38) xs4 ∧ SlP p_3 0 64 1 (f_5 38) ∧ Full (f_5 38) := g
        replace g1 : Vw E5 26 w_19 c_14 (f_5 39) r_1 ∧ SlP p_8 0 32 1 (f_5 39) ∧ Full (f_5 39) := g1
        obtain ⟨xs8, hxs8, hp⟩ := bind_some hp
        obtain ⟨ha5, hxs8⟩ := app_some hxs8
        refine WR.k rfl rfl rfl (OS.appendFull (E := E5) (c := c_14) (xs := xs4) (ys := r_1) rfl Try.underlying25 Try.underlying25 (.inl rfl) I5 rfl rfl rfl rfl rfl g.1 g.2.2 g1.1.src (lim_bytes (by decide) ha5) (lim_max (b := 1) (by decide) ha5) ?_); intro v_7 w_20 c_15 o31 s20
        replace o31 : Vw E5 20 w_20 c_15 v_7 xs8 := by rw [hxs8]; exact o31
        obtain ⟨r_2, hr_2, hp⟩ := bind_some hp
        refine WR.k rfl rfl rfl (OS.callF (vs := [v_7]) rfl ⟨rfl, trivial⟩ Try.call33 ((W33 K w_20 hr_2 o31.forget).mono ?_))
        rintro _ w_21 ⟨d2, rfl, s21, hl13⟩
        refine ⟨_, rfl, ?_⟩
        obtain ⟨c_16, s22⟩ : ∃ c_16, St [] w_20 c_15 w_21 c_16 := ⟨_, s21.merge (fun x => x + 26)⟩
        have o32 := o2.keep ((((((((((((s6.t s7).t s8).t s9).t s10).t s14).t s15).t s17).t s18).t s19).t hs3).t s20).t s22) (by decide)
        refine WR.k0 rfl rfl (OS.stArrAll rfl Try.sizeOf23 h12 rfl o32 (by rw [fl_length, hl13]; rfl) (Eq.trans (List.length_replicate (n := 32) (a := (0 : UInt8))) (Eq.symm hl13)) ?_); intro w_22 o33 s23
        have hl14 : r_2.length = 32 := hl13
        refine WR.nil ?_
        refine WC.ret ?_
        repeat first | refine thenQ_ret ?_ | refine blkQ_ret ?_
        cases hp
        exact fnQ.l1 (fn := Try.f28) rfl (.inr ⟨_, _, _, _, rfl, ⟨_, h12, Try.isAgg23, Try.sizeOf23, o33.ldAll, (by rw [fl_length, hl14]; rfl)⟩, rfl⟩) ⟨_, rfl, ((((((((((((((s.t s6).t s7).t s8).t s9).t s10).t s14).t s15).t s17).t s18).t s19).t hs3).t s20).t s22).t s23).entry (by decide), hl14⟩

-- holdfast/seal.blocks$1
set_option maxHeartbeats 4000000 in
theorem W29 (K : Nat) (w0 : World) (cw : Col) {σ : Type} (Iv : L.Inv σ) (Y : σ → (List UInt8) → Option (Bool × σ)) (l : Nat) {yield : σ} {x1 : List UInt8} {x2 : UInt64} {r : σ} (hp : seal_blocks_1 Y K yield x1 x2 = some r) (hY : ∀ s x b s' w2 d2, (x.length = 32) → IvA Iv s w2 d2 → Y s x = some (b, s') → Yl Try.prog l ([.agg (fl E5 x).toArray]) w2 fun v w3 => v = .bool b ∧ ∃ d3, IvA Iv s' w3 d3 ∧ St [1] w2 d2 w3 d3) (hcw : ∀ b, cw b = 0 ∨ cw b = 1) (hs : IvA Iv yield w0 cw) {p_ : Value} (o : Arr E5 0 w0 cw p_ x1) (hl : x1.length = 32) {p_1 : Value} (o1 : Bx 0 w0 cw p_1 [vU64 x2]) :
    Calls Try.prog 29 [.func (.yield l) #[] #[], p_, p_1].toArray w0 fun e w1 => ∃ (d : Col), e = .returned (.tuple #[]) ∧ St [1] w0 cw w1 d ∧ IvA Iv r w1 d := by
  refine calls_intro Try.func29 rfl Try.ntmps29 rfl ?_
  unfold seal_blocks_1 at hp
  refine WC.seq (WC.region ?_)
  refine WR.k rfl rfl rfl (OS.assign (v := vU64 (0 : UInt64)) rfl (by kernel_rfl) ?_)
  refine WR.nil ?_
  obtain ⟨q, hl1, hp⟩ := bind_some hp
  obtain ⟨yield2, hx⟩ : ∃ z, z = q := ⟨_, rfl⟩; subst hx
  refine WC.blockJ2 (fun f_ w_ => ∃ (c_ : Col), f_ 0 = .func (.yield l) #[] #[] ∧ IvA Iv yield2 w_ c_ ∧ St [1] w0 cw w_ c_) ?_ ?_
  · refine WC.loop (fun n => fun f_1 w_1 => ∃ (yield1 : σ) (i : UInt64) (c_1 : Col), seal_blocks_1.l1 Y K n x2 x1 yield1 i = some yield2 ∧ f_1 0 = .func (.yield l) #[] #[] ∧ IvA Iv yield1 w_1 c_1 ∧ f_1 1 = p_ ∧ f_1 2 = p_1 ∧ f_1 4 = vU64 i ∧ St [1] w0 cw w_1 c_1) K ⟨_, _, _, hl1, rfl, hs, rfl, rfl, rfl, St.refl.mono (by decide)⟩ ?_
    rintro n f_1 w_1 ⟨yield1, i, c_1, hl1, h, o2, h1, h2, h3, s⟩
    cases n with
    | zero => exact absurd hl1 (by simp [seal_blocks_1.l1])
    | succ k =>
    rw [seal_blocks_1.l1] at hl1
    refine WC.seq ?_
    have o4 := o.keep s (by decide)
    obtain ⟨l2, hl2, hl1⟩ := bind_some hl1
    replace hl2 := (Option.some.inj hl2).symm
    have o5 := o1.keep s (by decide)
    obtain ⟨r_, hr_, hl1⟩ := bind_some hl1
    obtain ⟨r_1, hr_1, hl1⟩ := bind_some hl1
    obtain ⟨r_2, hr_2, hl1⟩ := bind_some hl1
    obtain ⟨r_3, hr_3, hl1⟩ := bind_some hl1
    refine WC.seq (WC.draw (c := c_1) ⟨10, [[1], [0], [43], [1], [45], [1], [49], [52, 43, 45, 49], [54], [1]], [[], [], [], [], [], [], [], [], [], []], [], [[], [], [], [], [3], [], [5], [2, 4, 6], [7], [1, 8]], [0, 9]⟩ [fun v w c => v = .func (.yield l) #[] #[], fun v w c => Vw E5 0 w c v x1 ∧ SlP p_ 0 32 1 v ∧ Full v, fun v w c => Ow E5 43 w c v l2, fun v w c => v = vU64 x2, fun v w c => Ow E5 45 w c v r_, fun v w c => v = vU64 i, fun v w c => Ow E5 49 w c v r_1, fun v w c => Dw E25 E5 52 [43, 45, 49] w c v ([l2, r_, r_1] : List (List UInt8)), fun v w c => Ow E5 54 w c v r_2, fun v w c => v = .agg (fl E5 r_3).toArray ∧ r_3.length = 32] hmix (by kernel_rfl) (by kernel_rfl) ⟨?_, ?_, ?_, ?_, ?_, ?_, ?_, ?_, ?_, ?_, trivial⟩ ⟨fun _ _ _ _ _ _ h _ _ => h, fun _ _ _ _ _ _ ⟨y, z0, z1⟩ s hk => ⟨y.keep s (hk _ (by simp)), z0, z1⟩, fun _ _ _ _ _ _ h s hk => Ow.keep h s (hk _ (by simp)), fun _ _ _ _ _ _ h _ _ => h, fun _ _ _ _ _ _ h s hk => Ow.keep h s (hk _ (by simp)), fun _ _ _ _ _ _ h _ _ => h, fun _ _ _ _ _ _ h s hk => Ow.keep h s (hk _ (by simp)), fun _ _ _ _ _ _ h s hk => Dw.keep h s hk, fun _ _ _ _ _ _ h s hk => Ow.keep h s (hk _ (by simp)), fun _ _ _ _ _ _ h _ _ => h, trivial⟩ ?_)
    · rintro f_2 w_2 c_2 hB hs1 ⟨-⟩ o ho; obtain rfl : _ = o := Option.some.inj ho
      exact OS.move (v := .func (.yield l) #[] #[]) rfl ((hB 0 (by kernel_rfl)).trans h) ⟨_, St.refl, rfl⟩
    · rintro f_3 w_3 c_3 hB1 hs2 ⟨-⟩ o ho; obtain rfl : _ = o := Option.some.inj ho
      have o6 := o.keep (s.t hs2) (by decide)
      refine OS.sliceAF (l := 0) (h := 32) rfl Try.underlying23 Try.sizeOf5 ((hB1 1 (by kernel_rfl)).trans h1) o6 hl Bd.none Bd.none (by decide) (by decide) ?_
      intro v y z fu
      rw [List.drop_zero, List.take_of_length_le (by rw [hl]; decide)] at y
      exact ⟨_, St.refl, y, z (by decide), fu rfl⟩
    · rintro f_4 w_4 c_4 hB2 hs3 ⟨-⟩ o ho; obtain rfl : _ = o := Option.some.inj ho
      refine OS.bslice (E := E5) (c := c_4) 43 ([(115 : UInt8)] : List UInt8) [(0, vU8 (115 : UInt8))] rfl ⟨rfl, (by kernel_rfl), trivial⟩ (fun _ => by kernel_rfl) rfl (by decide) ?_
      intro v w c h s
      exact ⟨c, s, (show Ow E5 43 w c v l2 by rw [hl2]; exact h)⟩
    · rintro f_5 w_5 c_5 hB3 hs4 ⟨-⟩ o ho; obtain rfl : _ = o := Option.some.inj ho
      have o7 := o1.keep (s.t hs4) (by decide)
      exact OS.ld1 (u := vU64 x2) rfl Try.isAgg24 ((hB3 2 (by kernel_rfl)).trans h2) o7.ldAll ⟨_, St.refl, rfl⟩
    · rintro f_6 w_6 c_6 hB4 hs5 ⟨g, -⟩ o ho; obtain rfl : _ = o := Option.some.inj ho
      replace g : (f_6 8) = vU64 x2 := g
      refine OS.callF (vs := [vU64 x2]) rfl ⟨g, trivial⟩ Try.call21 ((W21 K w_6 hr_).mono ?_)
      rintro _ w ⟨v, d, rfl, s, o⟩
      exact ⟨_, rfl, _, s.merge (fun x => x + 43), o.merge (fun x => x + 43) s (by decide)⟩
    · rintro f_7 w_7 c_7 hB5 hs6 ⟨-⟩ o ho; obtain rfl : _ = o := Option.some.inj ho
      exact OS.move (v := vU64 i) rfl ((hB5 4 (by kernel_rfl)).trans h3) ⟨_, St.refl, rfl⟩
    · rintro f_8 w_8 c_8 hB6 hs7 ⟨g1, -⟩ o ho; obtain rfl : _ = o := Option.some.inj ho
      replace g1 : (f_8 10) = vU64 i := g1
      refine OS.callF (vs := [vU64 i]) rfl ⟨g1, trivial⟩ Try.call21 ((W21 K w_8 hr_1).mono ?_)
      rintro _ w ⟨v, d, rfl, s, o⟩
      exact ⟨_, rfl, _, s.merge (fun x => x + 47), o.merge (fun x => x + 47) s (by decide)⟩
    · rintro f_9 w_9 c_9 hB7 hs8 ⟨g2, g3, g4, -⟩ o ho; obtain rfl : _ = o := Option.some.inj ho
      replace g2 : Ow E5 43 w_9 c_9 (f_9 7) l2 := g2
      replace g3 : Ow E5 45 w_9 c_9 (f_9 9) r_ := g3
      replace g4 : Ow E5 49 w_9 c_9 (f_9 11) r_1 := g4
      refine OS.bsliceD (E := E25) (E' := E5) (c := c_9) 52 [43, 45, 49] ([l2, r_, r_1] : List (List UInt8)) [toSl (f_9 7), toSl (f_9 9), toSl (f_9 11)] [(0, (toSl (f_9 7)).val), (1, (toSl (f_9 9)).val), (2, (toSl (f_9 11)).val)] rfl ⟨rfl, Eq.trans rfl (toSl_val g2.isSl).symm, rfl, Eq.trans rfl (toSl_val g3.isSl).symm, rfl, Eq.trans rfl (toSl_val g4.isSl).symm, trivial⟩ (fun _ => by kernel_rfl) rfl (by decide) ⟨(g2.vw).toSl, (g3.vw).toSl, (g4.vw).toSl, trivial⟩ ?_
      intro v w c h s
      exact ⟨c, s, (show Dw E25 E5 52 [43, 45, 49] w c v ([l2, r_, r_1] : List (List UInt8)) by exact h)⟩
    · rintro f_10 w_10 c_10 hB8 hs9 ⟨g5, -⟩ o ho; obtain rfl : _ = o := Option.some.inj ho
      replace g5 : Dw E25 E5 52 [43, 45, 49] w_10 c_10 (f_10 12) ([l2, r_, r_1] : List (List UInt8)) := g5
      refine OS.callF (vs := [(f_10 12)]) rfl ⟨rfl, trivial⟩ Try.call30 ((W30 K w_10 hr_2 g5.forget).mono ?_)
      rintro _ w ⟨v, d, rfl, s, o⟩
      exact ⟨_, rfl, _, s.merge (fun x => x + 52), o.merge (fun x => x + 52) s (by decide)⟩
    · rintro f_11 w_11 c_11 hB9 hs10 ⟨g6, g7, -⟩ o ho; obtain rfl : _ = o := Option.some.inj ho
      replace g6 : Vw E5 0 w_11 c_11 (f_11 6) x1 ∧ SlP p_ 0 32 1 (f_11 6) ∧ Full (f_11 6) := g6
      replace g7 : Ow E5 54 w_11 c_11 (f_11 13) r_2 := g7
      refine OS.callF (vs := [(f_11 6), (f_11 13)]) rfl ⟨rfl, rfl, trivial⟩ Try.call28 ((W28 K w_11 hr_3 g6.1.forget g7.vw.forget).mono ?_)
      rintro _ w ⟨d, rfl, s, hl⟩
      exact ⟨_, rfl, _, s.merge id, rfl, hl⟩
    · rintro f_12 w_12 c_12 hB10 hs11 ⟨g8, g9, -⟩
      have h4 := (hB10 0 (by kernel_rfl)).trans h
      have h5 := (hB10 1 (by kernel_rfl)).trans h1
      have h6 := (hB10 2 (by kernel_rfl)).trans h2
      have h7 := (hB10 4 (by kernel_rfl)).trans h3
      replace g8 : (f_12 5) = .func (.yield l) #[] #[] := g8
      replace g9 : (f_12 14) = .agg (fl E5 r_3).toArray ∧ r_3.length = 32 := g9
      have o8 := o2.keep hs11 (by decide)
      obtain ⟨q1, hq1, hl1⟩ := bind_some hl1
      refine WR.k rfl rfl rfl (OS.yieldC (vs := [.agg (fl E5 r_3).toArray]) rfl g8 ⟨g9.1, trivial⟩ (hY _ r_3 _ _ _ _ g9.2 o8 hq1) ?_)
      rintro _ w_13 ⟨rfl, d, o9, s1⟩
      refine WR.nil ?_
      refine WC.cond (q1.1) rfl (fun hb => ?_) (fun hb => ?_)
      · rw [if_pos hb] at hl1
        refine WC.skip ?_
        refine WC.seq ?_
        refine WC.block ?_
        refine WC.skip ?_
        refine WC.region ?_
        refine WR.k rfl rfl rfl (OS.move (v := vU64 i) rfl h7 ?_)
        refine WR.k rfl rfl rfl (OS.bin (a := vU64 i) (b := vU64 (1 : UInt64)) rfl rfl (by kernel_rfl) b64_add ?_)
        refine WR.k rfl rfl rfl (OS.assign (v := vU64 (i + (1 : UInt64))) rfl rfl ?_)
        refine WR.nil ?_
        exact ⟨k, by omega, _, _, _, hl1, h4, o9, h5, h6, rfl, ((s.t hs11).t s1).mono (by decide)⟩
      · rw [if_neg (nt hb)] at hl1
        refine WC.exit ?_
        cases hl1
        exact ⟨_, h4, o9, ((s.t hs11).t s1).mono (by decide)⟩
  · rintro f_ w_ ⟨c_, h8, o3, s2⟩
    cases hp
    exact fnQ.lsN (fn := Try.f29) rfl ⟨_, rfl, s2.entry1 hcw (by decide), o3⟩

-- holdfast/seal.blocks
set_option maxHeartbeats 4000000 in
theorem W25 (K : Nat) (w0 : World) {key : List UInt8} {once : UInt64} {r : ((List UInt8) × UInt64)} (hp : seal_blocks K key once = some r) (hl : key.length = 32) :
    Calls Try.prog 25 [.agg (fl E5 key).toArray, vU64 once].toArray w0 fun e w1 => ∃ (v0 : Value) (v1 : Value) (d : Col), e = .returned (.func (.func 29) #[] [v0, v1].toArray) ∧ St [] w0 c0 w1 d ∧ Arr E5 2 w1 d v0 r.1 ∧ Bx 3 w1 d v1 [vU64 r.2] ∧ r.1.length = 32 := by
  refine calls_intro Try.func25 rfl Try.ntmps25 rfl ?_
  unfold seal_blocks at hp
  refine WC.seq (WC.region ?_)
  refine WR.k rfl rfl rfl (OS.boxArr (E := E5) (c := c0) 12 rfl rfl ?_); intro p_ w_ c_ o s
  refine WR.k rfl rfl rfl (OS.boxBx (us := [vU64 once]) (c := c_) 13 rfl rfl rfl ?_); intro p_1 w_1 c_1 o1 s1
  refine WR.k rfl rfl rfl (OS.assign (v := .nilFunc) rfl rfl ?_)
  refine WR.nil ?_
  refine WC.seq (WC.region ?_)
  refine WR.k rfl rfl rfl (OS.makeFunc (vs := [p_, p_1]) rfl ⟨rfl, rfl, trivial⟩ ?_)
  refine WR.k rfl rfl rfl (OS.assign (v := .func (.func 29) #[] [p_, p_1].toArray) rfl rfl ?_)
  refine WR.nil ?_
  refine WC.ret ?_
  repeat first | refine thenQ_ret ?_ | refine blkQ_ret ?_
  cases hp
  have o3 := o.keep s1 (by decide)
  obtain ⟨c_2, s2, o2⟩ := o3.recol 2
  have o5 := o1.keep s2 (by decide)
  obtain ⟨c_3, s3, o4⟩ := o5.recol 3
  have o6 := o2.keep s3 (by decide)
  exact fnQ.l1 (fn := Try.f25) rfl (.inl ⟨_, rfl, rfl⟩) ⟨_, _, _, rfl, (((s.t s1).t s2).t s3).entry (by decide), o6, o4, hl⟩

-- holdfast/seal.Stream
set_option maxHeartbeats 4000000 in
theorem W16 (K : Nat) (w0 : World) {key : List UInt8} {once : UInt64} {n1 : Int} {r : (List UInt8) × Int} (hp : seal_Stream K key once n1 = some r) (hl : key.length = 32) :
    Calls Try.prog 16 [.agg (fl E5 key).toArray, vU64 once, vI n1].toArray w0 fun e w1 => ∃ (v0 : Value) (d : Col), e = .returned (.tuple #[v0, vI r.2]) ∧ St [] w0 c0 w1 d ∧ Ow E5 2 w1 d v0 r.1 := by
  refine calls_introM Try.func16 rfl Try.ntmps16 rfl ?_
  unfold seal_Stream at hp
  refine WC.seq (WC.region ?_)
  refine WR.k rfl rfl rfl (OS.boxArr (E := E5) (c := c0) 12 rfl rfl ?_); intro p_ w_ c_ o s
  refine WR.k rfl rfl rfl (OS.boxBx (us := [vI n1]) (c := c_) 13 rfl rfl rfl ?_); intro p_1 w_1 c_1 o1 s1
  refine WR.k rfl rfl rfl (OS.assign (v := (.slice none 0 0)) rfl rfl ?_)
  refine WR.k rfl rfl rfl (OS.assign (v := vI (0 : Int)) rfl rfl ?_)
  refine WR.nil ?_
  refine WC.seq ?_
  refine WC.seq (WC.region ?_)
  refine WR.k rfl rfl rfl (OS.ld1 (u := vI n1) rfl Try.isAgg3 rfl o1.ldAll ?_)
  refine WR.k rfl rfl rfl (OS.bin (a := vI n1) (b := vI (0 : Int)) rfl rfl rfl bI_lss ?_)
  refine WR.k rfl rfl rfl (OS.move (v := vB (decide (n1 < (0 : Int)))) rfl rfl ?_)
  refine WR.cut2 3 (fun f_ w_2 => f_ 1 = vU64 once ∧ f_ 3 = p_ ∧ f_ 5 = p_1 ∧ f_ 15 = vB ((decide (n1 < (0 : Int))) || (decide ((1024 : Int) < n1))) ∧ f_ 30 = undef ∧ w_1 = w_2) ?_ ?_
  · rcases Bool.eq_false_or_eq_true (decide (n1 < (0 : Int))) with hg | hg
    · refine WR.gF rfl rfl (vb_t rfl hg) rfl rfl ?_
      refine WR.gF rfl rfl (vb_t rfl hg) rfl rfl ?_
      refine WR.k rfl rfl rfl (OS.pickT rfl (vb_t rfl hg) rfl ?_)
      refine WR.nil ?_
      exact ⟨rfl, rfl, rfl, (or_t hg), rfl, rfl⟩
    · refine WR.kT rfl rfl (vb_f rfl hg) rfl rfl (OS.ld1 (u := vI n1) rfl Try.isAgg3 rfl o1.ldAll ?_)
      refine WR.kT rfl rfl (vb_f rfl hg) rfl rfl (OS.bin (a := vI n1) (b := vI (1024 : Int)) rfl rfl rfl bI_gtr ?_)
      refine WR.k rfl rfl rfl (OS.pickF rfl (vb_f rfl hg) rfl ?_)
      refine WR.nil ?_
      exact ⟨rfl, rfl, rfl, (or_f hg), rfl, rfl⟩
  · rintro f_ _ ⟨h, h1, h2, h3, h4, rfl⟩
    refine WR.nil ?_
    refine WC.cond ((decide (n1 < (0 : Int))) || (decide ((1024 : Int) < n1))) h3 (fun hb => ?_) (fun hb => ?_)
    · rw [if_pos hb] at hp
      refine WC.seq (WC.region ?_)
      refine WR.k rfl rfl rfl (OS.assign (v := (.slice none 0 0)) rfl rfl ?_)
      refine WR.k rfl rfl rfl (OS.assign (v := vI (2 : Int)) rfl rfl ?_)
      refine WR.nil ?_
      refine WC.ret ?_
      repeat first | refine thenQ_ret ?_ | refine blkQ_ret ?_
      cases hp
      exact fnQM.ls (fn := Try.f16) (rs := [.tmp 6, .tmp 7]) (vs := [(.slice none 0 0), vI (2 : Int)]) rfl (Taken.of h4 rfl) ⟨(.inl ⟨_, rfl, rfl⟩), (.inl ⟨_, rfl, rfl⟩), trivial⟩ ⟨_, _, rfl, (s.t s1).entry (by decide), Ow.nil⟩ (by simp)
    · rw [if_neg (nt hb)] at hp
      refine WC.skip ?_
      refine WC.seq (WC.region ?_)
      refine WR.k rfl rfl rfl (OS.allocBx (us := [(.slice none 0 0)]) (c := c_1) 14 rfl Try.zeroValue25 rfl ?_); intro p_2 w_3 c_3 o2 s2
      refine WR.nil ?_
      refine WC.seq ?_
      refine WC.seq (WC.region ?_)
      have o3 := o.keep (s1.t s2) (by decide)
      refine WR.k rfl rfl rfl (OS.ldN rfl Try.isAgg23 Try.sizeOf23 h1 o3.ldAll (by rw [fl_length, hl]; rfl) ?_)
      refine WR.k rfl rfl rfl (OS.move (v := vU64 once) rfl h ?_)
      obtain ⟨r_, hr_, hp⟩ := bind_some hp
      refine WR.k rfl rfl rfl (OS.callF (vs := [.agg (fl E5 key).toArray, vU64 once]) rfl ⟨rfl, rfl, trivial⟩ Try.call25 ((W25 K w_3 hr_ hl).mono ?_))
      rintro _ w_4 ⟨p_3, v_, d, rfl, s3, o4, o5, hl1⟩
      refine ⟨_, rfl, ?_⟩
      obtain ⟨c_4, s4, o4, o5⟩ : ∃ c_4, St [] w_3 c_3 w_4 c_4 ∧ Arr E5 16 w_4 c_4 p_3 r_.1 ∧ Bx 17 w_4 c_4 v_ [vU64 r_.2] := ⟨_, s3.merge (fun x => x + 14), o4.merge (fun x => x + 14) s3 (by decide), o5.merge (fun x => x + 14) s3 (by decide)⟩
      refine WR.nil ?_
      refine WC.block ?_
      have o6 := o1.keep (s2.t s4) (by decide)
      have o7 := o2.keep s4 (by decide)
      obtain ⟨c_5, s5, hc, o8, o9, o10, o11, o12⟩ : ∃ c_5, St [] w0 c0 w_4 c_5 ∧ (∀ b, c_5 b ∈ 10 :: [0, 13, 14, 16, 17, 19]) ∧ Bx 13 w_4 c_5 p_1 [vI n1] ∧ Bx 14 w_4 c_5 p_2 [(.slice none 0 0)] ∧ Arr E5 16 w_4 c_5 p_3 r_.1 ∧ Bx 17 w_4 c_5 v_ [vU64 r_.2] ∧ Ow E5 19 w_4 c_5 (.slice none 0 0) ([] : List UInt8) := ⟨nm [0, 13, 14, 16, 17, 19] c_4, ((((s.t s1).t s2).t s4)).nm (fun _ _ => .inl List.mem_cons_self), nm_cases _ _, o6.nm (by decide), o7.nm (by decide), o4.nm (by decide), o5.nm (by decide), (Ow.nil (E := E5) (i := 19) (w := w_4) (c := c_4)).nm (by decide)⟩
      obtain ⟨q, hq, hp⟩ := bind_some hp
      obtain ⟨xs, j⟩ := q; dsimp only at hp
      refine WC.rangeF (fun x : (List UInt8) => [.agg (fl E5 x).toArray]) (fun x : (List UInt8) => (x.length = 32)) (seal_Stream.y1 K n1) (fun (s : (List UInt8)) w c => ∃ (v_1 : Value), Bx 14 w c p_2 [v_1] ∧ Ow E5 19 w c v_1 s) [14, 19] [0, 13, 14, 16, 17, 19] 20 (lb := [p_3, v_]) (s0 := ([] : List UInt8)) (send := (xs, j)) rfl Try.call29 (by decide) (fun _ => rfl) (by decide) hc (fun s w c w1 c1 h k => by obtain ⟨v0, h0, h1⟩ := h; exact ⟨_, h0.kp k (by decide), h1.kp k (by decide)⟩) ⟨_, o9, o12⟩ ?_ ?_ ?_
      · intro l1 w1 c1 Iv1 s1 hI1 hY1
        exact (W29 K w1 (dv (9 :: [14, 19]) c1) Iv1 (Yc (seal_Stream.y1 K n1)) l1 hq hY1 dv_le hI1 ((o10.keep s1 (by decide)).dv (by decide)) hl1 ((o11.keep s1 (by decide)).dv (by decide))).mono fun e w2 ⟨d, he, hs, hi⟩ => ⟨_, d, he, hs, hi⟩
      · rintro l1 xs x j1 m w_5 c_6 hok s6 hF hy
        (try dsimp only at hF); obtain ⟨v_2, o15, o16⟩ := hF
        unfold seal_Stream.y1 at hy; dsimp only at hy
        refine WC.region ?_
        refine WR.k rfl rfl rfl (OS.allocArr (E := E5) (xs := (List.replicate 32 (0 : UInt8))) (c := c_6) 27 rfl Try.zeroValue23 (by kernel_rfl) ?_); intro p_4 w_6 c_7 o17 s7
        refine WR.k0 rfl rfl (OS.stArrAll rfl Try.sizeOf23 rfl rfl o17 (by rw [fl_length, hok]; rfl) (Eq.trans (List.length_replicate (n := 32) (a := (0 : UInt8))) (Eq.symm hok)) ?_); intro w_7 o18 s8
        have hl2 : x.length = 32 := hok
        refine WR.nil ?_
        refine ⟨c_7, [27], (s7.t s8).mono (by decide), by decide, by decide, ?_⟩
        intro w_8 s9
        refine WC.block ?_
        refine WC.seq ?_
        refine WC.seq (WC.region ?_)
        have o19 := o15.keep ((s7.t s8).t s9) (by decide)
        refine WR.k rfl rfl rfl (OS.ld1 (u := v_2) rfl Try.isAgg25 rfl o19.ldAll ?_)
        have o20 := o16.keep ((s7.t s8).t s9) (by decide)
        refine WR.k rfl rfl rfl (OS.lenSl rfl Try.runUnderlying25 rfl o20.isSl ?_)
        have o21 := o8.keep (((s6.t s7).t s8).t s9) (by decide)
        refine WR.k rfl rfl rfl (OS.ld1 (u := vI n1) rfl Try.isAgg3 h2 o21.ldAll ?_)
        refine WR.k rfl rfl rfl (OS.bin (a := vI (xs.length : Int)) (b := vI n1) rfl rfl rfl bI_geq ?_)
        refine WR.nil ?_
        refine WC.cond (decide (n1 ≤ (xs.length : Int))) rfl (fun hb1 => ?_) (fun hb1 => ?_)
        · rw [if_pos hb1] at hy
          refine WC.exit ?_
          cases hy
          exact ⟨rfl, c_7, [], ⟨_, o19, o20⟩, St.refl.mono (by decide), by decide, by decide⟩
        · rw [if_neg (nt hb1)] at hy
          refine WC.skip ?_
          have o22 := o18.keep s9 (by decide)
          refine WC.draw (c := c_7) ⟨2, [[1], [27]], [[], []], [], [[], []], [0, 1]⟩ [fun v w c => v = v_2, fun v w c => Vw E5 27 w c v x ∧ SlP p_4 0 32 1 v ∧ Full v] hmix (by kernel_rfl) (by kernel_rfl) ⟨?_, ?_, trivial⟩ ⟨fun _ _ _ _ _ _ h _ _ => h, fun _ _ _ _ _ _ ⟨y, z0, z1⟩ s hk => ⟨y.keep s (hk _ (by simp)), z0, z1⟩, trivial⟩ ?_
          · rintro f_1 w_9 c_8 hB hs1 ⟨-⟩ o ho; obtain rfl : _ = o := Option.some.inj ho
            have o23 := o19.keep hs1 (by decide)
            exact OS.ld1 (u := v_2) rfl Try.isAgg25 ((hB 8 (by kernel_rfl)).trans rfl) o23.ldAll ⟨_, St.refl, rfl⟩
          · rintro f_2 w_10 c_9 hB1 hs2 ⟨-⟩ o ho; obtain rfl : _ = o := Option.some.inj ho
            have o24 := o18.keep (s9.t hs2) (by decide)
            refine OS.sliceAF (l := 0) (h := 32) rfl Try.underlying23 Try.sizeOf5 ((hB1 9 (by kernel_rfl)).trans rfl) o24 hl2 Bd.none Bd.none (by decide) (by decide) ?_
            intro v y z fu
            rw [List.drop_zero, List.take_of_length_le (by rw [hl2]; decide)] at y
            exact ⟨_, St.refl, y, z (by decide), fu rfl⟩
          · rintro f_3 w_11 c_10 hB2 hs3 ⟨g, g1, -⟩
            have h5 := (hB2 8 (by kernel_rfl)).trans (show _ = p_2 from rfl)
            replace g : (f_3 24) = v_2 := g
            replace g1 : Vw E5 27 w_11 c_10 (f_3 25) x ∧ SlP p_4 0 32 1 (f_3 25) ∧ Full (f_3 25) := g1
            have o25 := o20.keep hs3 (by decide)
            obtain ⟨xs1, hxs1, hy⟩ := bind_some hy
            obtain ⟨ha, hxs1⟩ := app_some hxs1
            refine WR.k rfl rfl rfl (OS.append (E := E5) (c := c_10) (i := 19) (xs := xs) (ys := x) rfl Try.underlying25 Try.underlying25 (.inl rfl) I5 rfl rfl rfl g rfl o25 g1.1.src (lim_bytes (by decide) ha) (lim_max (b := 1) (by decide) ha) ?_); intro v_3 w_12 c_11 o26 s10
            replace o26 : Ow E5 19 w_12 c_11 v_3 xs1 := by rw [hxs1]; exact o26
            have o27 := o19.keep (hs3.t s10) (by decide)
            refine WR.k0 rfl rfl (OS.stBxAll (v := v_3) (ws := [v_3]) rfl Try.sizeOf25 h5 rfl (cells_sl o26.isSl) o27 rfl rfl (one_sl o26.isSl) ?_); intro w_13 o28 s11
            refine WR.nil ?_
            cases hy
            have o29 := o26.keep s11 (by decide)
            exact ⟨rfl, c_11, [14, 19], ⟨_, o28, o29⟩, ((hs3.t s10).t s11).mono (by decide), by decide, by decide⟩
      · intro w_14 c_12 r_1 s12 hF o30
        (try dsimp only at hF); obtain ⟨v_4, o31, o32⟩ := hF
        rcases j with _ | j
        · simp only [jm] at hp
          refine WC.seq (WC.region ?_)
          refine WR.k rfl rfl rfl (OS.ld1 (u := v_4) rfl Try.isAgg25 rfl o31.ldAll ?_)
          have o33 := o8.keep s12 (by decide)
          refine WR.k rfl rfl rfl (OS.ld1 (u := vI n1) rfl Try.isAgg3 h2 o33.ldAll ?_)
          obtain ⟨ys, hys, hp⟩ := bind_some hp
          obtain ⟨ha1, hb2, hc1, hys⟩ := sub_some hys
          refine WR.k rfl rfl rfl (OS.sliceOwn rfl Try.underlying25 Try.sizeOf5 rfl o32 (Bd.some rfl (by omega)) (by omega) ?_); intro v_5 y1
          replace y1 : Ow E5 19 w_14 c_12 v_5 ys := by rw [hys]; exact y1
          refine WR.k rfl rfl rfl (OS.assign (v := v_5) rfl rfl ?_)
          refine WR.k rfl rfl rfl (OS.assign (v := vI (0 : Int)) rfl rfl ?_)
          refine WR.nil ?_
          refine WC.ret ?_
          repeat first | refine thenQ_ret ?_ | refine blkQ_ret ?_
          cases hp
          obtain ⟨c_13, s13, o34⟩ := y1.recol 2
          have o35 := o30.keep s13 (by decide)
          obtain ⟨t, s14⟩ := o35.take
          have o36 := o34.keep s14 (by decide)
          exact fnQM.ls (fn := Try.f16) (rs := [.tmp 6, .tmp 7]) (vs := [v_5, vI (0 : Int)]) rfl (Taken.of (congrArg (L.mark r_1) h4) ⟨_, _, rfl, t, rfl⟩) ⟨(.inl ⟨_, rfl, rfl⟩), (.inl ⟨_, rfl, rfl⟩), trivial⟩ ⟨_, _, rfl, (((s5.t s12).t s13).t s14).entry (by decide), o36⟩ (by simp)
        · simp only [jm] at hp
          by_cases hj : j = 1
          · subst hj; rw [if_pos rfl] at hp
            refine WC.seq (WC.region ?_)
            refine WR.k rfl rfl rfl (OS.ld1 (u := v_4) rfl Try.isAgg25 rfl o31.ldAll ?_)
            have o37 := o8.keep s12 (by decide)
            refine WR.k rfl rfl rfl (OS.ld1 (u := vI n1) rfl Try.isAgg3 h2 o37.ldAll ?_)
            obtain ⟨ys1, hys1, hp⟩ := bind_some hp
            obtain ⟨ha2, hb3, hc2, hys1⟩ := sub_some hys1
            refine WR.k rfl rfl rfl (OS.sliceOwn rfl Try.underlying25 Try.sizeOf5 rfl o32 (Bd.some rfl (by omega)) (by omega) ?_); intro v_6 y2
            replace y2 : Ow E5 19 w_14 c_12 v_6 ys1 := by rw [hys1]; exact y2
            refine WR.k rfl rfl rfl (OS.assign (v := v_6) rfl rfl ?_)
            refine WR.k rfl rfl rfl (OS.assign (v := vI (0 : Int)) rfl rfl ?_)
            refine WR.nil ?_
            refine WC.ret ?_
            repeat first | refine thenQ_ret ?_ | refine blkQ_ret ?_
            cases hp
            obtain ⟨c_14, s15, o38⟩ := y2.recol 2
            have o39 := o30.keep s15 (by decide)
            obtain ⟨t1, s16⟩ := o39.take
            have o40 := o38.keep s16 (by decide)
            exact fnQM.ls (fn := Try.f16) (rs := [.tmp 6, .tmp 7]) (vs := [v_6, vI (0 : Int)]) rfl (Taken.of (congrArg (L.mark r_1) h4) ⟨_, _, rfl, t1, rfl⟩) ⟨(.inl ⟨_, rfl, rfl⟩), (.inl ⟨_, rfl, rfl⟩), trivial⟩ ⟨_, _, rfl, (((s5.t s12).t s15).t s16).entry (by decide), o40⟩ (by simp)
          · rw [if_neg hj] at hp
            cases hp

-- holdfast/seal.hidden
set_option maxHeartbeats 4000000 in
theorem W22 (K : Nat) (w0 : World) {key : List UInt8} {once : UInt64} {b : List UInt8} {r : (List UInt8)} (hp : seal_hidden K key once b = some r) (hl : key.length = 32) {v_ : Value} (o : Vw E5 0 w0 c0 v_ b) :
    Calls Try.prog 22 [.agg (fl E5 key).toArray, vU64 once, v_].toArray w0 fun e w1 => ∃ (v0 : Value) (d : Col), e = .returned (v0) ∧ St [] w0 c0 w1 d ∧ Ow E5 2 w1 d v0 r := by
  refine calls_intro Try.func22 rfl Try.ntmps22 rfl ?_
  unfold seal_hidden at hp
  refine WC.seq (WC.region ?_)
  refine WR.k rfl rfl rfl (OS.boxArr (E := E5) (c := c0) 12 rfl rfl ?_); intro p_ w_ c_ o1 s
  refine WR.k rfl rfl rfl (OS.assign (v := (.slice none 0 0)) rfl rfl ?_)
  refine WR.nil ?_
  refine WC.seq (WC.region ?_)
  refine WR.k rfl rfl rfl (OS.ldN rfl Try.isAgg23 Try.sizeOf23 rfl o1.ldAll (by rw [fl_length, hl]; rfl) ?_)
  refine WR.k rfl rfl rfl (OS.move (v := vU64 once) rfl rfl ?_)
  refine WR.k rfl rfl rfl (OS.move (v := v_) rfl rfl ?_)
  have o2 := o.keep s (by decide)
  refine WR.k rfl rfl rfl (OS.lenSl rfl Try.runUnderlying25 rfl o2.isSl ?_)
  obtain ⟨r_, hr_, hp⟩ := bind_some hp
  refine WR.k rfl rfl rfl (OS.callF (vs := [.agg (fl E5 key).toArray, vU64 once, vI (b.length : Int)]) rfl ⟨rfl, rfl, rfl, trivial⟩ Try.call16 ((W16 K w_ hr_ hl).mono ?_))
  rintro _ w_1 ⟨v_1, d, rfl, s1, o3⟩
  refine ⟨_, rfl, ?_⟩
  obtain ⟨c_1, s2, o3⟩ : ∃ c_1, St [] w_ c_ w_1 c_1 ∧ Ow E5 14 w_1 c_1 v_1 r_.1 := ⟨_, s1.merge (fun x => x + 12), o3.merge (fun x => x + 12) s1 (by decide)⟩
  refine WR.k rfl rfl rfl (OS.move (v := .tuple #[v_1, vI r_.2]) rfl rfl ?_)
  refine WR.k rfl rfl rfl (OS.extract rfl rfl rfl ?_)
  refine WR.k rfl rfl rfl (OS.extract rfl rfl rfl ?_)
  refine WR.k rfl rfl rfl (OS.assign (v := v_1) rfl rfl ?_)
  refine WR.k rfl rfl rfl (OS.assign (v := vI r_.2) rfl rfl ?_)
  refine WR.nil ?_
  refine WC.seq ?_
  refine WC.seq (WC.region ?_)
  refine WR.k rfl rfl rfl (OS.move (v := v_) rfl rfl ?_)
  have o4 := o2.keep s2 (by decide)
  refine WR.k rfl rfl rfl (OS.lenSl rfl Try.runUnderlying25 rfl o4.isSl ?_)
  refine WR.k rfl rfl rfl (OS.move (v := vI (0 : Int)) rfl rfl ?_)
  refine WR.nil ?_
  obtain ⟨q, hl1, hp⟩ := bind_some hp
  obtain ⟨out1, hx⟩ : ∃ z, z = q := ⟨_, rfl⟩; subst hx
  refine WC.blockJ2 (fun f_ w_2 => ∃ (c_2 : Col), f_ 7 = v_1 ∧ Ow E5 14 w_2 c_2 v_1 out1 ∧ St [14] w_1 c_1 w_2 c_2) ?_ ?_
  · refine WC.loop (fun n => fun f_1 w_3 => ∃ (out : List UInt8) (x21 : Int) (c_3 : Col), seal_hidden.l1 n b out x21 = some out1 ∧ f_1 7 = v_1 ∧ Ow E5 14 w_3 c_3 v_1 out ∧ f_1 19 = v_ ∧ f_1 20 = vI (b.length : Int) ∧ f_1 21 = vI x21 ∧ St [14] w_1 c_1 w_3 c_3) K ⟨_, _, _, hl1, rfl, o3, rfl, rfl, rfl, St.refl.mono (by decide)⟩ ?_
    rintro n f_1 w_3 ⟨out, x21, c_3, hl1, h, o5, h1, h2, h3, s3⟩
    cases n with
    | zero => exact absurd hl1 (by simp [seal_hidden.l1])
    | succ k =>
    rw [seal_hidden.l1] at hl1
    refine WC.seq (WC.region ?_)
    refine WR.k rfl rfl rfl (OS.bin (a := vI x21) (b := vI (b.length : Int)) rfl h3 h2 bI_lss ?_)
    refine WR.nil ?_
    refine WC.seq ?_
    refine WC.cond (decide (x21 < (b.length : Int))) rfl (fun hb => ?_) (fun hb => ?_)
    · rw [if_pos hb] at hl1
      refine WC.skip ?_
      refine WC.seq ?_
      refine WC.block ?_
      refine WC.seq (WC.region ?_)
      refine WR.k rfl rfl rfl (OS.move (v := vI x21) rfl h3 ?_)
      have o7 := o4.keep s3 (by decide)
      obtain ⟨e, he, hl1⟩ := bind_some hl1
      obtain ⟨ha, hb1, hc⟩ := gt_some he
      refine WR.k rfl rfl rfl (OS.idx rfl Try.runUnderlying25 Try.sizeOf5 h1 o7.isSl h3 ha hb1 ?_); intro p_1 a1
      refine WR.k rfl rfl rfl (OS.ld1 (u := vU8 e) rfl Try.isAgg5 rfl (o7.ld a1 hc) ?_)
      refine WR.k rfl rfl rfl (OS.assign (v := vI x21) rfl rfl ?_)
      refine WR.k rfl rfl rfl (OS.assign (v := vU8 e) rfl rfl ?_)
      refine WR.nil ?_
      refine WC.region ?_
      refine WR.k rfl rfl rfl (OS.move (v := v_1) rfl h ?_)
      refine WR.k rfl rfl rfl (OS.move (v := vI x21) rfl rfl ?_)
      obtain ⟨e1, he1, hl1⟩ := bind_some hl1
      obtain ⟨ha1, hb2, hc1⟩ := gt_some he1
      refine WR.k rfl rfl rfl (OS.idx rfl Try.runUnderlying25 Try.sizeOf5 rfl o5.isSl rfl ha1 hb2 ?_); intro p_2 a2
      refine WR.k rfl rfl rfl (OS.ld1 (u := vU8 e1) rfl Try.isAgg5 rfl (o5.ld a2 hc1) ?_)
      refine WR.k rfl rfl rfl (OS.move (v := vU8 e) rfl rfl ?_)
      refine WR.k rfl rfl rfl (OS.bin (a := vU8 e1) (b := vU8 e) rfl rfl rfl b8_xor ?_)
      obtain ⟨u, hu, hl1⟩ := bind_some hl1
      obtain ⟨ha2, hb3⟩ := req_some hu
      refine WR.k rfl rfl rfl (OS.idx rfl Try.runUnderlying25 Try.sizeOf5 rfl o5.isSl rfl ha2 hb3 ?_); intro p_3 a3
      obtain ⟨out2, hout2, hl1⟩ := bind_some hl1
      replace hout2 := (Option.some.inj hout2).symm
      refine WR.k0 rfl rfl (OS.stOwn (q := e1 ^^^ e) (u := vU8 (e1 ^^^ e)) rfl Try.sizeOf5 rfl rfl o5 rfl a3 (by omega) rfl ?_); intro w_4 o8 s4
      replace o8 : Ow E5 14 w_4 c_3 v_1 out2 := by rw [hout2]; exact o8
      refine WR.nil ?_
      refine WC.region ?_
      refine WR.k rfl rfl rfl (OS.bin (a := vI x21) (b := vI (1 : Int)) rfl h3 rfl bI_add ?_)
      refine WR.k rfl rfl rfl (OS.move (v := vI (W (x21 + (1 : Int)))) rfl rfl ?_)
      refine WR.nil ?_
      exact ⟨k, by omega, _, _, _, hl1, h, o8, h1, h2, rfl, (s3.t s4).mono (by decide)⟩
    · rw [if_neg (nt hb)] at hl1
      refine WC.exit ?_
      cases hl1
      exact ⟨_, h, o5, s3.mono (by decide)⟩
  · rintro f_ w_2 ⟨c_2, h4, o6, s5⟩
    refine WC.seq (WC.region ?_)
    refine WR.k rfl rfl rfl (OS.move (v := v_1) rfl h4 ?_)
    refine WR.k rfl rfl rfl (OS.assign (v := v_1) rfl rfl ?_)
    refine WR.nil ?_
    refine WC.ret ?_
    repeat first | refine thenQ_ret ?_ | refine blkQ_ret ?_
    cases hp
    obtain ⟨c_4, s6, o9⟩ := o6.recol 2
    exact fnQ.l1 (fn := Try.f22) rfl (.inl ⟨_, rfl, rfl⟩) ⟨_, _, rfl, (((s.t s2).t s5).t s6).entry (by decide), o9⟩

-- holdfast/seal.tagOf
set_option maxHeartbeats 4000000 in
theorem W23 (K : Nat) (w0 : World) {key : List UInt8} {body : List UInt8} {r : (List UInt8)} (hp : seal_tagOf K key body = some r) (hl : key.length = 32) {v_ : Value} (o : Vw E5 0 w0 c0 v_ body) :
    Calls Try.prog 23 [.agg (fl E5 key).toArray, v_].toArray w0 fun e w1 => ∃ (d : Col), e = .returned (.agg (fl E5 r).toArray) ∧ St [] w0 c0 w1 d ∧ r.length = 16 := by
  refine calls_intro Try.func23 rfl Try.ntmps23 rfl ?_
  unfold seal_tagOf at hp
  refine WC.seq (WC.region ?_)
  refine WR.k rfl rfl rfl (OS.boxArr (E := E5) (c := c0) 12 rfl rfl ?_); intro p_ w_ c_ o1 s
  refine WR.k rfl rfl rfl (OS.allocArr (E := E5) (xs := (List.replicate 16 (0 : UInt8))) (c := c_) 13 rfl Try.zeroValue50 (by kernel_rfl) ?_); intro p_1 w_1 c_1 o2 s1
  refine WR.nil ?_
  have o3 := o1.keep s1 (by decide)
  obtain ⟨l1, hl1, hp⟩ := bind_some hp
  replace hl1 := (Option.some.inj hl1).symm
  have o4 := o.keep (s.t s1) (by decide)
  obtain ⟨l2, hl2, hp⟩ := bind_some hp
  obtain ⟨ha, hl2⟩ := app_some hl2
  obtain ⟨r_, hr_, hp⟩ := bind_some hp
  refine WC.seq (WC.draw (c := c_1) ⟨6, [[12], [14], [1], [14], [1], [15]], [[], [], [], [14], [], []], [14], [[], [], [], [1, 2], [0, 3], []], [4, 5]⟩ [fun v w c => Vw E5 12 w c v key ∧ SlP p_ 0 32 1 v ∧ Full v, fun v w c => Ow E5 14 w c v l1, fun v w c => v = v_, fun v w c => Ow E5 14 w c v l2, fun v w c => v = .agg (fl E5 r_).toArray ∧ r_.length = 32, fun v w c => Arr E5 15 w c v (List.replicate 32 (0 : UInt8))] hmix (by kernel_rfl) (by kernel_rfl) ⟨?_, ?_, ?_, ?_, ?_, ?_, trivial⟩ ⟨fun _ _ _ _ _ _ ⟨y, z0, z1⟩ s hk => ⟨y.keep s (hk _ (by simp)), z0, z1⟩, fun _ _ _ _ _ _ h s hk => Ow.keep h s (hk _ (by simp)), fun _ _ _ _ _ _ h _ _ => h, fun _ _ _ _ _ _ h s hk => Ow.keep h s (hk _ (by simp)), fun _ _ _ _ _ _ h _ _ => h, fun _ _ _ _ _ _ h s hk => Arr.keep h s (hk _ (by simp)), trivial⟩ ?_)
  · rintro f_ w_2 c_2 hB hs1 ⟨-⟩ o ho; obtain rfl : _ = o := Option.some.inj ho
    have o5 := o1.keep (s1.t hs1) (by decide)
    refine OS.sliceAF (l := 0) (h := 32) rfl Try.underlying23 Try.sizeOf5 ((hB 2 (by kernel_rfl)).trans rfl) o5 hl Bd.none Bd.none (by decide) (by decide) ?_
    intro v y z fu
    rw [List.drop_zero, List.take_of_length_le (by rw [hl]; decide)] at y
    exact ⟨_, St.refl, y, z (by decide), fu rfl⟩
  · rintro f_1 w_3 c_3 hB1 hs2 ⟨-⟩ o ho; obtain rfl : _ = o := Option.some.inj ho
    refine OS.bslice (E := E5) (c := c_3) 14 ([(116 : UInt8)] : List UInt8) [(0, vU8 (116 : UInt8))] rfl ⟨rfl, (by kernel_rfl), trivial⟩ (fun _ => by kernel_rfl) rfl (by decide) ?_
    intro v w c h s
    exact ⟨c, s, (show Ow E5 14 w c v l1 by rw [hl1]; exact h)⟩
  · rintro f_2 w_4 c_4 hB2 hs3 ⟨-⟩ o ho; obtain rfl : _ = o := Option.some.inj ho
    exact OS.move (v := v_) rfl ((hB2 1 (by kernel_rfl)).trans rfl) ⟨_, St.refl, rfl⟩
  · rintro f_3 w_5 c_5 hB3 hs4 ⟨g, g1, -⟩ o ho; obtain rfl : _ = o := Option.some.inj ho
    replace g : Ow E5 14 w_5 c_5 (f_3 7) l1 := g
    replace g1 : (f_3 8) = v_ := g1
    have o6 := o.keep ((s.t s1).t hs4) (by decide)
    refine OS.append (E := E5) (c := c_5) (i := 14) (xs := l1) (ys := body) rfl Try.underlying25 Try.underlying25 (.inl rfl) I5 rfl rfl rfl rfl g1 g o6.src (lim_bytes (by decide) ha) (lim_max (b := 1) (by decide) ha) ?_
    intro v w c h s
    exact ⟨c, s, (show Ow E5 14 w c v l2 by rw [hl2]; exact h)⟩
  · rintro f_4 w_6 c_6 hB4 hs5 ⟨g2, g3, -⟩ o ho; obtain rfl : _ = o := Option.some.inj ho
    replace g2 : Vw E5 12 w_6 c_6 (f_4 6) key ∧ SlP p_ 0 32 1 (f_4 6) ∧ Full (f_4 6) := g2
    replace g3 : Ow E5 14 w_6 c_6 (f_4 9) l2 := g3
    refine OS.callF (vs := [(f_4 6), (f_4 9)]) rfl ⟨rfl, rfl, trivial⟩ Try.call28 ((W28 K w_6 hr_ g2.1.forget g3.vw.forget).mono ?_)
    rintro _ w ⟨d, rfl, s, hl⟩
    exact ⟨_, rfl, _, s.merge id, rfl, hl⟩
  · rintro f_5 w_7 c_7 hB5 hs6 ⟨-⟩ o ho; obtain rfl : _ = o := Option.some.inj ho
    refine OS.allocArr (E := E5) (xs := (List.replicate 32 (0 : UInt8))) (c := c_7) 15 rfl Try.zeroValue23 (by kernel_rfl) ?_
    intro v w c h s
    exact ⟨c, s, (show Arr E5 15 w c v (List.replicate 32 (0 : UInt8)) by exact h)⟩
  · rintro f_6 w_8 c_8 hB6 hs7 ⟨g4, g5, -⟩
    have h := (hB6 4 (by kernel_rfl)).trans (show _ = p_1 from rfl)
    replace g4 : (f_6 10) = .agg (fl E5 r_).toArray ∧ r_.length = 32 := g4
    replace g5 : Arr E5 15 w_8 c_8 (f_6 5) (List.replicate 32 (0 : UInt8)) := g5
    refine WR.k0 rfl rfl (OS.stArrAll rfl Try.sizeOf23 rfl g4.1 g5 (by rw [fl_length, g4.2]; rfl) (Eq.trans (List.length_replicate (n := 32) (a := (0 : UInt8))) (Eq.symm g4.2)) ?_); intro w_9 o7 s2
    have hl3 : r_.length = 32 := g4.2
    refine WR.nil ?_
    refine WC.seq (WC.region ?_)
    refine WR.k rfl rfl rfl (OS.sliceAF (l := 0) (h := 16) rfl Try.underlying23 Try.sizeOf5 rfl o7 hl3 Bd.none (Bd.some (j := 16) rfl (by decide)) (by decide) (by decide) ?_); intro v_1 y1 z2 fu1
    replace z2 := z2 (by decide)
    obtain ⟨u, hu, hp⟩ := bind_some hp
    have hb := req_some hu
    refine WR.k rfl rfl rfl (OS.s2aC rfl Try.underlying50 rfl y1 hb (by decide) ?_); intro p_2 a1
    refine WR.k rfl rfl rfl (OS.ldN rfl Try.isAgg50 Try.sizeOf50 rfl a1.ld (by rw [fl_length, List.length_take]; have := hb; show min _ _ * 1 = _; omega) ?_)
    have o8 := o2.keep (hs7.t s2) (by decide)
    refine WR.k0 rfl rfl (OS.stArrAll rfl Try.sizeOf50 h rfl o8 (by rw [fl_length, (show (((r_.take 16).drop 0).take 16).length = 16 from by rw [List.length_take]; have := hb; omega)]; rfl) (Eq.trans (List.length_replicate (n := 16) (a := (0 : UInt8))) (Eq.symm (show (((r_.take 16).drop 0).take 16).length = 16 from by rw [List.length_take]; have := hb; omega))) ?_); intro w_10 o9 s3
    have hl4 : (((r_.take 16).drop 0).take 16).length = 16 := (show (((r_.take 16).drop 0).take 16).length = 16 from by rw [List.length_take]; have := hb; omega)
    refine WR.nil ?_
    refine WC.ret ?_
    repeat first | refine thenQ_ret ?_ | refine blkQ_ret ?_
    cases hp
    exact fnQ.l1 (fn := Try.f23) rfl (.inr ⟨_, _, _, _, rfl, ⟨_, h, Try.isAgg50, Try.sizeOf50, o9.ldAll, (by rw [fl_length, hl4]; rfl)⟩, rfl⟩) ⟨_, rfl, ((((s.t s1).t hs7).t s2).t s3).entry (by decide), hl4⟩

-- holdfast/seal.Seal
set_option maxHeartbeats 4000000 in
theorem W10 (K : Nat) (w0 : World) {key : List UInt8} {once : UInt64} {plain : List UInt8} {r : (List UInt8) × Int} (hp : seal_Seal K key once plain = some r) (hl : key.length = 32) {v_ : Value} (o : Vw E5 0 w0 c0 v_ plain) :
    Calls Try.prog 10 [.agg (fl E5 key).toArray, vU64 once, v_].toArray w0 fun e w1 => ∃ (v0 : Value) (d : Col), e = .returned (.tuple #[v0, vI r.2]) ∧ St [] w0 c0 w1 d ∧ Ow E5 2 w1 d v0 r.1 := by
  refine calls_intro Try.func10 rfl Try.ntmps10 rfl ?_
  unfold seal_Seal at hp
  refine WC.seq (WC.region ?_)
  refine WR.k rfl rfl rfl (OS.boxArr (E := E5) (c := c0) 12 rfl rfl ?_); intro p_ w_ c_ o1 s
  refine WR.k rfl rfl rfl (OS.assign (v := (.slice none 0 0)) rfl rfl ?_)
  refine WR.k rfl rfl rfl (OS.assign (v := vI (0 : Int)) rfl rfl ?_)
  refine WR.nil ?_
  refine WC.seq ?_
  refine WC.seq (WC.region ?_)
  refine WR.k rfl rfl rfl (OS.move (v := v_) rfl rfl ?_)
  have o2 := o.keep s (by decide)
  refine WR.k rfl rfl rfl (OS.lenSl rfl Try.runUnderlying25 rfl o2.isSl ?_)
  refine WR.k rfl rfl rfl (OS.bin (a := vI (plain.length : Int)) (b := vI (1024 : Int)) rfl rfl rfl bI_gtr ?_)
  refine WR.nil ?_
  refine WC.cond (decide ((1024 : Int) < (plain.length : Int))) rfl (fun hb => ?_) (fun hb => ?_)
  · rw [if_pos hb] at hp
    refine WC.seq (WC.region ?_)
    refine WR.k rfl rfl rfl (OS.assign (v := (.slice none 0 0)) rfl rfl ?_)
    refine WR.k rfl rfl rfl (OS.assign (v := vI (6 : Int)) rfl rfl ?_)
    refine WR.nil ?_
    refine WC.ret ?_
    repeat first | refine thenQ_ret ?_ | refine blkQ_ret ?_
    cases hp
    exact fnQ.ls (fn := Try.f10) (rs := [.tmp 6, .tmp 7]) (vs := [(.slice none 0 0), vI (6 : Int)]) rfl ⟨(.inl ⟨_, rfl, rfl⟩), (.inl ⟨_, rfl, rfl⟩), trivial⟩ ⟨_, _, rfl, s.entry (by decide), Ow.nil⟩ (by simp)
  · rw [if_neg (nt hb)] at hp
    refine WC.skip ?_
    obtain ⟨r_, hr_, hp⟩ := bind_some hp
    refine WC.seq (WC.draw (c := c_) ⟨5, [[1], [14], [1], [1], [1]], [[], [], [], [], []], [], [[], [0], [], [], []], [1, 2, 3, 4]⟩ [fun v w c => v = vU64 once, fun v w c => Ow E5 14 w c v r_, fun v w c => v = .agg (fl E5 key).toArray, fun v w c => v = vU64 once, fun v w c => v = v_] hmix (by kernel_rfl) (by kernel_rfl) ⟨?_, ?_, ?_, ?_, ?_, trivial⟩ ⟨fun _ _ _ _ _ _ h _ _ => h, fun _ _ _ _ _ _ h s hk => Ow.keep h s (hk _ (by simp)), fun _ _ _ _ _ _ h _ _ => h, fun _ _ _ _ _ _ h _ _ => h, fun _ _ _ _ _ _ h _ _ => h, trivial⟩ ?_)
    · rintro f_ w_1 c_1 hB hs1 ⟨-⟩ o ho; obtain rfl : _ = o := Option.some.inj ho
      exact OS.move (v := vU64 once) rfl ((hB 1 (by kernel_rfl)).trans rfl) ⟨_, St.refl, rfl⟩
    · rintro f_1 w_2 c_2 hB1 hs2 ⟨g, -⟩ o ho; obtain rfl : _ = o := Option.some.inj ho
      replace g : (f_1 13) = vU64 once := g
      refine OS.callF (vs := [vU64 once]) rfl ⟨g, trivial⟩ Try.call21 ((W21 K w_2 hr_).mono ?_)
      rintro _ w ⟨v, d, rfl, s, o⟩
      exact ⟨_, rfl, _, s.merge (fun x => x + 12), o.merge (fun x => x + 12) s (by decide)⟩
    · rintro f_2 w_3 c_3 hB2 hs3 ⟨-⟩ o ho; obtain rfl : _ = o := Option.some.inj ho
      have o3 := o1.keep hs3 (by decide)
      exact OS.ldN rfl Try.isAgg23 Try.sizeOf23 ((hB2 3 (by kernel_rfl)).trans rfl) o3.ldAll (by rw [fl_length, hl]; rfl) ⟨_, St.refl, rfl⟩
    · rintro f_3 w_4 c_4 hB3 hs4 ⟨-⟩ o ho; obtain rfl : _ = o := Option.some.inj ho
      exact OS.move (v := vU64 once) rfl ((hB3 1 (by kernel_rfl)).trans rfl) ⟨_, St.refl, rfl⟩
    · rintro f_4 w_5 c_5 hB4 hs5 ⟨-⟩ o ho; obtain rfl : _ = o := Option.some.inj ho
      exact OS.move (v := v_) rfl ((hB4 2 (by kernel_rfl)).trans rfl) ⟨_, St.refl, rfl⟩
    · rintro f_5 w_6 c_6 hB5 hs6 ⟨g1, g2, g3, g4, -⟩
      have h := (hB5 3 (by kernel_rfl)).trans (show _ = p_ from rfl)
      replace g1 : Ow E5 14 w_6 c_6 (f_5 14) r_ := g1
      replace g2 : (f_5 15) = .agg (fl E5 key).toArray := g2
      replace g3 : (f_5 16) = vU64 once := g3
      replace g4 : (f_5 17) = v_ := g4
      have o4 := o2.keep hs6 (by decide)
      obtain ⟨r_1, hr_1, hp⟩ := bind_some hp
      refine WR.k rfl rfl rfl (OS.callF (vs := [.agg (fl E5 key).toArray, vU64 once, v_]) rfl ⟨g2, g3, g4, trivial⟩ Try.call22 ((W22 K w_6 hr_1 hl o4.forget).mono ?_))
      rintro _ w_7 ⟨v_1, d, rfl, s1, o5⟩
      refine ⟨_, rfl, ?_⟩
      obtain ⟨c_7, s2, o5⟩ : ∃ c_7, St [] w_6 c_6 w_7 c_7 ∧ Ow E5 18 w_7 c_7 v_1 r_1 := ⟨_, s1.merge (fun x => x + 16), o5.merge (fun x => x + 16) s1 (by decide)⟩
      have g5 := g1.keep s2 (by decide)
      obtain ⟨r_2, hr_2, hp⟩ := bind_some hp
      obtain ⟨ha, hr_2⟩ := app_some hr_2
      refine WR.k rfl rfl rfl (OS.append (E := E5) (c := c_7) (i := 14) (xs := r_) (ys := r_1) rfl Try.underlying25 Try.underlying25 (.inl rfl) I5 rfl rfl rfl rfl rfl g5 o5.vw.src (lim_bytes (by decide) ha) (lim_max (b := 1) (by decide) ha) ?_); intro v_2 w_8 c_8 o6 s3
      replace o6 : Ow E5 14 w_8 c_8 v_2 r_2 := by rw [hr_2]; exact o6
      refine WR.k rfl rfl rfl (OS.assign (v := v_2) rfl rfl ?_)
      refine WR.nil ?_
      refine WC.seq (WC.region ?_)
      have o7 := o1.keep ((hs6.t s2).t s3) (by decide)
      refine WR.k rfl rfl rfl (OS.ldN rfl Try.isAgg23 Try.sizeOf23 h o7.ldAll (by rw [fl_length, hl]; rfl) ?_)
      refine WR.k rfl rfl rfl (OS.move (v := v_2) rfl rfl ?_)
      obtain ⟨r_3, hr_3, hp⟩ := bind_some hp
      refine WR.k rfl rfl rfl (OS.callF (vs := [.agg (fl E5 key).toArray, v_2]) rfl ⟨rfl, rfl, trivial⟩ Try.call23 ((W23 K w_8 hr_3 hl o6.vw.forget).mono ?_))
      rintro _ w_9 ⟨d1, rfl, s4, hl1⟩
      refine ⟨_, rfl, ?_⟩
      obtain ⟨c_9, s5⟩ : ∃ c_9, St [] w_8 c_8 w_9 c_9 := ⟨_, s4.merge (fun x => x + 19)⟩
      refine WR.k rfl rfl rfl (OS.allocArr (E := E5) (xs := (List.replicate 16 (0 : UInt8))) (c := c_9) 22 rfl Try.zeroValue50 (by kernel_rfl) ?_); intro p_1 w_10 c_10 o8 s6
      refine WR.k0 rfl rfl (OS.stArrAll rfl Try.sizeOf50 rfl rfl o8 (by rw [fl_length, hl1]; rfl) (Eq.trans (List.length_replicate (n := 16) (a := (0 : UInt8))) (Eq.symm hl1)) ?_); intro w_11 o9 s7
      have hl2 : r_3.length = 16 := hl1
      refine WR.nil ?_
      refine WC.seq (WC.region ?_)
      refine WR.k rfl rfl rfl (OS.move (v := v_2) rfl rfl ?_)
      refine WR.k rfl rfl rfl (OS.sliceAF (l := 0) (h := 16) rfl Try.underlying50 Try.sizeOf5 rfl o9 hl2 Bd.none Bd.none (by decide) (by decide) ?_); intro v_3 y z1 fu
      rw [List.drop_zero, List.take_of_length_le (by rw [hl2]; decide)] at y
      replace z1 := z1 (by decide)
      replace fu := fu rfl
      have o10 := o6.keep ((s5.t s6).t s7) (by decide)
      obtain ⟨r_4, hr_4, hp⟩ := bind_some hp
      obtain ⟨ha1, hr_4⟩ := app_some hr_4
      refine WR.k rfl rfl rfl (OS.append (E := E5) (c := c_10) (i := 14) (xs := r_2) (ys := r_3) rfl Try.underlying25 Try.underlying25 (.inl rfl) I5 rfl rfl rfl rfl rfl o10 y.src (lim_bytes (by decide) ha1) (lim_max (b := 1) (by decide) ha1) ?_); intro v_4 w_12 c_11 o11 s8
      replace o11 : Ow E5 14 w_12 c_11 v_4 r_4 := by rw [hr_4]; exact o11
      refine WR.k rfl rfl rfl (OS.assign (v := v_4) rfl rfl ?_)
      refine WR.k rfl rfl rfl (OS.assign (v := vI (0 : Int)) rfl rfl ?_)
      refine WR.nil ?_
      refine WC.ret ?_
      repeat first | refine thenQ_ret ?_ | refine blkQ_ret ?_
      cases hp
      obtain ⟨c_12, s9, o12⟩ := o11.recol 2
      exact fnQ.ls (fn := Try.f10) (rs := [.tmp 6, .tmp 7]) (vs := [v_4, vI (0 : Int)]) rfl ⟨(.inl ⟨_, rfl, rfl⟩), (.inl ⟨_, rfl, rfl⟩), trivial⟩ ⟨_, _, rfl, ((((((((s.t hs6).t s2).t s3).t s5).t s6).t s7).t s8).t s9).entry (by decide), o12⟩ (by simp)

-- holdfast/holdfastref08.eight
set_option maxHeartbeats 4000000 in
theorem W24 (K : Nat) (w0 : World) {n1 : UInt64} {r : (List UInt8)} (hp : holdfastref08_eight K n1 = some r) :
    Calls Try.prog 24 [vU64 n1].toArray w0 fun e w1 => ∃ (v0 : Value) (d : Col), e = .returned (v0) ∧ St [] w0 c0 w1 d ∧ Ow E5 2 w1 d v0 r := by
  refine calls_intro Try.func24 rfl Try.ntmps24 rfl ?_
  unfold holdfastref08_eight at hp
  refine WC.seq (WC.region ?_)
  refine WR.k rfl rfl rfl (OS.assign (v := (.slice none 0 0)) rfl rfl ?_)
  refine WR.nil ?_
  refine WC.seq (WC.region ?_)
  refine WR.k rfl rfl rfl (OS.assign (v := (.slice none 0 0)) rfl rfl ?_)
  refine WR.nil ?_
  refine WC.seq ?_
  refine WC.seq (WC.region ?_)
  refine WR.k rfl rfl rfl (OS.assign (v := vI (0 : Int)) rfl rfl ?_)
  refine WR.nil ?_
  obtain ⟨q, hl, hp⟩ := bind_some hp
  obtain ⟨out1, hx⟩ : ∃ z, z = q := ⟨_, rfl⟩; subst hx
  refine WC.blockJ2 (fun f_ w_ => ∃ (v_1 : Value) (c_ : Col), f_ 3 = v_1 ∧ Ow E5 12 w_ c_ v_1 out1 ∧ St [12] w0 c0 w_ c_) ?_ ?_
  · refine WC.loop (fun n => fun f_1 w_1 => ∃ (out : List UInt8) (i : Int) (v_ : Value) (c_1 : Col), holdfastref08_eight.l1 n n1 out i = some out1 ∧ f_1 0 = vU64 n1 ∧ f_1 3 = v_ ∧ Ow E5 12 w_1 c_1 v_ out ∧ f_1 4 = vI i ∧ St [12] w0 c0 w_1 c_1) K ⟨_, _, _, _, hl, rfl, rfl, Ow.nil, rfl, St.refl.mono (by decide)⟩ ?_
    rintro n f_1 w_1 ⟨out, i, v_, c_1, hl, h, h1, o, h2, s⟩
    cases n with
    | zero => exact absurd hl (by simp [holdfastref08_eight.l1])
    | succ k =>
    rw [holdfastref08_eight.l1] at hl
    refine WC.seq ?_
    refine WC.seq (WC.region ?_)
    refine WR.k rfl rfl rfl (OS.move (v := vI i) rfl h2 ?_)
    refine WR.k rfl rfl rfl (OS.bin (a := vI i) (b := vI (8 : Int)) rfl rfl rfl bI_lss ?_)
    refine WR.nil ?_
    refine WC.cond (decide (i < (8 : Int))) rfl (fun hb => ?_) (fun hb => ?_)
    · rw [if_pos hb] at hl
      refine WC.skip ?_
      refine WC.seq ?_
      refine WC.block ?_
      refine WC.region ?_
      refine WR.k rfl rfl rfl (OS.move (v := v_) rfl h1 ?_)
      refine WR.k rfl rfl rfl (OS.move (v := vU64 n1) rfl h ?_)
      refine WR.k rfl rfl rfl (OS.move (v := vI i) rfl h2 ?_)
      refine WR.k rfl rfl rfl (OS.bin (a := vI (8 : Int)) (b := vI i) rfl rfl rfl bI_mul ?_)
      refine WR.k rfl rfl rfl (OS.bin (a := vI (56 : Int)) (b := vI (W ((8 : Int) * i))) rfl rfl rfl bI_sub ?_)
      obtain ⟨k1, hk1, hl⟩ := bind_some hl
      obtain ⟨ha, hk1⟩ := shc_some hk1
      refine WR.k rfl rfl rfl (OS.bin (a := vU64 n1) (b := vI (W ((56 : Int) - (W ((8 : Int) * i))))) rfl rfl rfl (b64_shr ha) ?_)
      refine WR.k rfl rfl rfl (OS.conv rfl Try.runUnderlying24 Try.runUnderlying5 rfl (cv_64_8 _) ?_)
      obtain ⟨l1, hl1, hl⟩ := bind_some hl
      replace hl1 := (Option.some.inj hl1).symm
      refine WR.k rfl rfl rfl (OS.bslice (E := E5) (c := c_1) 18 ([(shr64 n1 (W ((56 : Int) - (W ((8 : Int) * i)))).toNat).toUInt8] : List UInt8) [(0, vU8 ((shr64 n1 (W ((56 : Int) - (W ((8 : Int) * i)))).toNat).toUInt8))] rfl ⟨rfl, rfl, trivial⟩ (fun _ => by kernel_rfl) rfl (by decide) ?_); intro v_2 w_2 c_2 o2 s1
      replace o2 : Ow E5 18 w_2 c_2 v_2 l1 := by rw [hl1]; exact o2
      have o3 := o.keep s1 (by decide)
      obtain ⟨out2, hout2, hl⟩ := bind_some hl
      obtain ⟨ha1, hout2⟩ := app_some hout2
      refine WR.k rfl rfl rfl (OS.append (E := E5) (c := c_2) (i := 12) (xs := out) (ys := l1) rfl Try.underlying25 Try.underlying25 (.inl rfl) I5 rfl rfl rfl rfl rfl o3 o2.vw.src (lim_bytes (by decide) ha1) (lim_max (b := 1) (by decide) ha1) ?_); intro v_3 w_3 c_3 o4 s2
      replace o4 : Ow E5 12 w_3 c_3 v_3 out2 := by rw [hout2]; exact o4
      refine WR.k rfl rfl rfl (OS.assign (v := v_3) rfl rfl ?_)
      refine WR.nil ?_
      refine WC.region ?_
      refine WR.k rfl rfl rfl (OS.move (v := vI i) rfl h2 ?_)
      refine WR.k rfl rfl rfl (OS.bin (a := vI i) (b := vI (1 : Int)) rfl rfl rfl bI_add ?_)
      refine WR.k rfl rfl rfl (OS.assign (v := vI (W (i + (1 : Int)))) rfl rfl ?_)
      refine WR.nil ?_
      exact ⟨k, by omega, _, _, _, _, hl, h, rfl, o4, rfl, ((s.t s1).t s2).mono (by decide)⟩
    · rw [if_neg (nt hb)] at hl
      refine WC.exit ?_
      cases hl
      exact ⟨_, _, h1, o, s.mono (by decide)⟩
  · rintro f_ w_ ⟨v_1, c_, h3, o1, s3⟩
    refine WC.seq (WC.region ?_)
    refine WR.k rfl rfl rfl (OS.move (v := v_1) rfl h3 ?_)
    refine WR.k rfl rfl rfl (OS.assign (v := v_1) rfl rfl ?_)
    refine WR.nil ?_
    refine WC.ret ?_
    repeat first | refine thenQ_ret ?_ | refine blkQ_ret ?_
    cases hp
    obtain ⟨c_4, s4, o5⟩ := o1.recol 2
    exact fnQ.l1 (fn := Try.f24) rfl (.inl ⟨_, rfl, rfl⟩) ⟨_, _, rfl, (s3.t s4).entry (by decide), o5⟩

-- holdfast/holdfastref07.bytesOf
set_option maxHeartbeats 4000000 in
theorem W31 (K : Nat) (w0 : World) {h : List UInt8} {r : (List UInt8)} (hp : holdfastref07_bytesOf K h = some r) (hl : h.length = 32) :
    Calls Try.prog 31 [.agg (fl E5 h).toArray].toArray w0 fun e w1 => ∃ (v0 : Value) (d : Col), e = .returned (v0) ∧ St [] w0 c0 w1 d ∧ Ow E5 2 w1 d v0 r := by
  refine calls_intro Try.func31 rfl Try.ntmps31 rfl ?_
  unfold holdfastref07_bytesOf at hp
  refine WC.seq (WC.region ?_)
  refine WR.k rfl rfl rfl (OS.boxArr (E := E5) (c := c0) 12 rfl rfl ?_); intro p_ w_ c_ o s
  refine WR.k rfl rfl rfl (OS.assign (v := (.slice none 0 0)) rfl rfl ?_)
  refine WR.nil ?_
  refine WC.seq (WC.region ?_)
  refine WR.k rfl rfl rfl (OS.assign (v := (.slice none 0 0)) rfl rfl ?_)
  refine WR.nil ?_
  refine WC.seq ?_
  refine WC.seq (WC.region ?_)
  refine WR.k rfl rfl rfl (OS.assign (v := vI (0 : Int)) rfl rfl ?_)
  refine WR.nil ?_
  obtain ⟨q, hl1, hp⟩ := bind_some hp
  obtain ⟨out1, hx⟩ : ∃ z, z = q := ⟨_, rfl⟩; subst hx
  refine WC.blockJ2 (fun f_ w_1 => ∃ (v_1 : Value) (c_1 : Col), f_ 3 = v_1 ∧ Ow E5 13 w_1 c_1 v_1 out1 ∧ St [13] w_ c_ w_1 c_1) ?_ ?_
  · refine WC.loop (fun n => fun f_1 w_2 => ∃ (out : List UInt8) (i : Int) (v_ : Value) (c_2 : Col), holdfastref07_bytesOf.l1 n h out i = some out1 ∧ f_1 1 = p_ ∧ f_1 3 = v_ ∧ Ow E5 13 w_2 c_2 v_ out ∧ f_1 4 = vI i ∧ St [13] w_ c_ w_2 c_2) K ⟨_, _, _, _, hl1, rfl, rfl, Ow.nil, rfl, St.refl.mono (by decide)⟩ ?_
    rintro n f_1 w_2 ⟨out, i, v_, c_2, hl1, h1, h2, o1, h3, s1⟩
    cases n with
    | zero => exact absurd hl1 (by simp [holdfastref07_bytesOf.l1])
    | succ k =>
    rw [holdfastref07_bytesOf.l1] at hl1
    refine WC.seq ?_
    refine WC.seq (WC.region ?_)
    refine WR.k rfl rfl rfl (OS.move (v := vI i) rfl h3 ?_)
    refine WR.k rfl rfl rfl (OS.bin (a := vI i) (b := vI (32 : Int)) rfl rfl rfl bI_lss ?_)
    refine WR.nil ?_
    refine WC.cond (decide (i < (32 : Int))) rfl (fun hb => ?_) (fun hb => ?_)
    · rw [if_pos hb] at hl1
      refine WC.skip ?_
      refine WC.seq ?_
      refine WC.block ?_
      refine WC.region ?_
      refine WR.k rfl rfl rfl (OS.move (v := v_) rfl h2 ?_)
      refine WR.k rfl rfl rfl (OS.move (v := vI i) rfl h3 ?_)
      have o3 := o.keep s1 (by decide)
      obtain ⟨e, he, hl1⟩ := bind_some hl1
      obtain ⟨ha, hb1, hc⟩ := gt_some he
      refine WR.k rfl rfl rfl (OS.idxArr rfl Try.runUnderlying23 Try.sizeOf5 h1 o3 rfl ha (by have := hb1; rw [hl] at this; exact this) ?_); intro p_1 a1
      refine WR.k rfl rfl rfl (OS.ld1 (u := vU8 e) rfl Try.isAgg5 rfl (o3.ld a1 hc) ?_)
      obtain ⟨l2, hl2, hl1⟩ := bind_some hl1
      replace hl2 := (Option.some.inj hl2).symm
      refine WR.k rfl rfl rfl (OS.bslice (E := E5) (c := c_2) 19 ([e] : List UInt8) [(0, vU8 e)] rfl ⟨rfl, rfl, trivial⟩ (fun _ => by kernel_rfl) rfl (by decide) ?_); intro v_2 w_3 c_3 o4 s2
      replace o4 : Ow E5 19 w_3 c_3 v_2 l2 := by rw [hl2]; exact o4
      have o5 := o1.keep s2 (by decide)
      obtain ⟨out2, hout2, hl1⟩ := bind_some hl1
      obtain ⟨ha1, hout2⟩ := app_some hout2
      refine WR.k rfl rfl rfl (OS.append (E := E5) (c := c_3) (i := 13) (xs := out) (ys := l2) rfl Try.underlying25 Try.underlying25 (.inl rfl) I5 rfl rfl rfl rfl rfl o5 o4.vw.src (lim_bytes (by decide) ha1) (lim_max (b := 1) (by decide) ha1) ?_); intro v_3 w_4 c_4 o6 s3
      replace o6 : Ow E5 13 w_4 c_4 v_3 out2 := by rw [hout2]; exact o6
      refine WR.k rfl rfl rfl (OS.assign (v := v_3) rfl rfl ?_)
      refine WR.nil ?_
      refine WC.region ?_
      refine WR.k rfl rfl rfl (OS.move (v := vI i) rfl h3 ?_)
      refine WR.k rfl rfl rfl (OS.bin (a := vI i) (b := vI (1 : Int)) rfl rfl rfl bI_add ?_)
      refine WR.k rfl rfl rfl (OS.assign (v := vI (W (i + (1 : Int)))) rfl rfl ?_)
      refine WR.nil ?_
      exact ⟨k, by omega, _, _, _, _, hl1, h1, rfl, o6, rfl, ((s1.t s2).t s3).mono (by decide)⟩
    · rw [if_neg (nt hb)] at hl1
      refine WC.exit ?_
      cases hl1
      exact ⟨_, _, h2, o1, s1.mono (by decide)⟩
  · rintro f_ w_1 ⟨v_1, c_1, h4, o2, s4⟩
    refine WC.seq (WC.region ?_)
    refine WR.k rfl rfl rfl (OS.move (v := v_1) rfl h4 ?_)
    refine WR.k rfl rfl rfl (OS.assign (v := v_1) rfl rfl ?_)
    refine WR.nil ?_
    refine WC.ret ?_
    repeat first | refine thenQ_ret ?_ | refine blkQ_ret ?_
    cases hp
    obtain ⟨c_5, s5, o7⟩ := o2.recol 2
    exact fnQ.l1 (fn := Try.f31) rfl (.inl ⟨_, rfl, rfl⟩) ⟨_, _, rfl, ((s.t s4).t s5).entry (by decide), o7⟩

-- holdfast/holdfastref07.Bytes
set_option maxHeartbeats 4000000 in
theorem W26 (K : Nat) (w0 : World) {h : List UInt8} {r : (List UInt8)} (hp : holdfastref07_Bytes K h = some r) (hl : h.length = 32) :
    Calls Try.prog 26 [.agg (fl E5 h).toArray].toArray w0 fun e w1 => ∃ (v0 : Value) (d : Col), e = .returned (v0) ∧ St [] w0 c0 w1 d ∧ Ow E5 2 w1 d v0 r := by
  refine calls_intro Try.func26 rfl Try.ntmps26 rfl ?_
  unfold holdfastref07_Bytes at hp
  refine WC.seq (WC.region ?_)
  refine WR.k rfl rfl rfl (OS.boxArr (E := E5) (c := c0) 12 rfl rfl ?_); intro p_ w_ c_ o s
  refine WR.k rfl rfl rfl (OS.assign (v := (.slice none 0 0)) rfl rfl ?_)
  refine WR.nil ?_
  refine WC.seq (WC.region ?_)
  refine WR.k rfl rfl rfl (OS.ldN rfl Try.isAgg23 Try.sizeOf23 rfl o.ldAll (by rw [fl_length, hl]; rfl) ?_)
  obtain ⟨r_, hr_, hp⟩ := bind_some hp
  refine WR.k rfl rfl rfl (OS.callF (vs := [.agg (fl E5 h).toArray]) rfl ⟨rfl, trivial⟩ Try.call31 ((W31 K w_ hr_ hl).mono ?_))
  rintro _ w_1 ⟨v_, d, rfl, s1, o1⟩
  refine ⟨_, rfl, ?_⟩
  obtain ⟨c_1, s2, o1⟩ : ∃ c_1, St [] w_ c_ w_1 c_1 ∧ Ow E5 14 w_1 c_1 v_ r_ := ⟨_, s1.merge (fun x => x + 12), o1.merge (fun x => x + 12) s1 (by decide)⟩
  refine WR.k rfl rfl rfl (OS.assign (v := v_) rfl rfl ?_)
  refine WR.nil ?_
  refine WC.ret ?_
  repeat first | refine thenQ_ret ?_ | refine blkQ_ret ?_
  cases hp
  obtain ⟨c_2, s3, o2⟩ := o1.recol 2
  exact fnQ.l1 (fn := Try.f26) rfl (.inl ⟨_, rfl, rfl⟩) ⟨_, _, rfl, ((s.t s2).t s3).entry (by decide), o2⟩

-- holdfast/holdfastref07.constants
set_option maxHeartbeats 4000000 in
theorem W35 (K : Nat) (w0 : World) {r : (List UInt32)} (hp : holdfastref07_constants K = some r) :
    Calls Try.prog 35 [].toArray w0 fun e w1 => ∃ (v0 : Value) (d : Col), e = .returned (v0) ∧ St [] w0 c0 w1 d ∧ Ow E63 2 w1 d v0 r := by
  refine calls_intro Try.func35 rfl Try.ntmps35 rfl ?_
  unfold holdfastref07_constants at hp
  refine WC.seq (WC.region ?_)
  refine WR.k rfl rfl rfl (OS.assign (v := (.slice none 0 0)) rfl rfl ?_)
  refine WR.nil ?_
  refine WC.seq (WC.region ?_)
  obtain ⟨l1, hl1, hp⟩ := bind_some hp
  replace hl1 := (Option.some.inj hl1).symm
  refine WR.k rfl rfl rfl (OS.bslice (E := E63) (c := c0) 12 ([(1116352408 : UInt32), (1899447441 : UInt32), (3049323471 : UInt32), (3921009573 : UInt32), (961987163 : UInt32), (1508970993 : UInt32), (2453635748 : UInt32), (2870763221 : UInt32), (3624381080 : UInt32), (310598401 : UInt32), (607225278 : UInt32), (1426881987 : UInt32), (1925078388 : UInt32), (2162078206 : UInt32), (2614888103 : UInt32), (3248222580 : UInt32), (3835390401 : UInt32), (4022224774 : UInt32), (264347078 : UInt32), (604807628 : UInt32), (770255983 : UInt32), (1249150122 : UInt32), (1555081692 : UInt32), (1996064986 : UInt32), (2554220882 : UInt32), (2821834349 : UInt32), (2952996808 : UInt32), (3210313671 : UInt32), (3336571891 : UInt32), (3584528711 : UInt32), (113926993 : UInt32), (338241895 : UInt32), (666307205 : UInt32), (773529912 : UInt32), (1294757372 : UInt32), (1396182291 : UInt32), (1695183700 : UInt32), (1986661051 : UInt32), (2177026350 : UInt32), (2456956037 : UInt32), (2730485921 : UInt32), (2820302411 : UInt32), (3259730800 : UInt32), (3345764771 : UInt32), (3516065817 : UInt32), (3600352804 : UInt32), (4094571909 : UInt32), (275423344 : UInt32), (430227734 : UInt32), (506948616 : UInt32), (659060556 : UInt32), (883997877 : UInt32), (958139571 : UInt32), (1322822218 : UInt32), (1537002063 : UInt32), (1747873779 : UInt32), (1955562222 : UInt32), (2024104815 : UInt32), (2227730452 : UInt32), (2361852424 : UInt32), (2428436474 : UInt32), (2756734187 : UInt32), (3204031479 : UInt32), (3329325298 : UInt32)] : List UInt32) [(0, vU32 (1116352408 : UInt32)), (1, vU32 (1899447441 : UInt32)), (2, vU32 (3049323471 : UInt32)), (3, vU32 (3921009573 : UInt32)), (4, vU32 (961987163 : UInt32)), (5, vU32 (1508970993 : UInt32)), (6, vU32 (2453635748 : UInt32)), (7, vU32 (2870763221 : UInt32)), (8, vU32 (3624381080 : UInt32)), (9, vU32 (310598401 : UInt32)), (10, vU32 (607225278 : UInt32)), (11, vU32 (1426881987 : UInt32)), (12, vU32 (1925078388 : UInt32)), (13, vU32 (2162078206 : UInt32)), (14, vU32 (2614888103 : UInt32)), (15, vU32 (3248222580 : UInt32)), (16, vU32 (3835390401 : UInt32)), (17, vU32 (4022224774 : UInt32)), (18, vU32 (264347078 : UInt32)), (19, vU32 (604807628 : UInt32)), (20, vU32 (770255983 : UInt32)), (21, vU32 (1249150122 : UInt32)), (22, vU32 (1555081692 : UInt32)), (23, vU32 (1996064986 : UInt32)), (24, vU32 (2554220882 : UInt32)), (25, vU32 (2821834349 : UInt32)), (26, vU32 (2952996808 : UInt32)), (27, vU32 (3210313671 : UInt32)), (28, vU32 (3336571891 : UInt32)), (29, vU32 (3584528711 : UInt32)), (30, vU32 (113926993 : UInt32)), (31, vU32 (338241895 : UInt32)), (32, vU32 (666307205 : UInt32)), (33, vU32 (773529912 : UInt32)), (34, vU32 (1294757372 : UInt32)), (35, vU32 (1396182291 : UInt32)), (36, vU32 (1695183700 : UInt32)), (37, vU32 (1986661051 : UInt32)), (38, vU32 (2177026350 : UInt32)), (39, vU32 (2456956037 : UInt32)), (40, vU32 (2730485921 : UInt32)), (41, vU32 (2820302411 : UInt32)), (42, vU32 (3259730800 : UInt32)), (43, vU32 (3345764771 : UInt32)), (44, vU32 (3516065817 : UInt32)), (45, vU32 (3600352804 : UInt32)), (46, vU32 (4094571909 : UInt32)), (47, vU32 (275423344 : UInt32)), (48, vU32 (430227734 : UInt32)), (49, vU32 (506948616 : UInt32)), (50, vU32 (659060556 : UInt32)), (51, vU32 (883997877 : UInt32)), (52, vU32 (958139571 : UInt32)), (53, vU32 (1322822218 : UInt32)), (54, vU32 (1537002063 : UInt32)), (55, vU32 (1747873779 : UInt32)), (56, vU32 (1955562222 : UInt32)), (57, vU32 (2024104815 : UInt32)), (58, vU32 (2227730452 : UInt32)), (59, vU32 (2361852424 : UInt32)), (60, vU32 (2428436474 : UInt32)), (61, vU32 (2756734187 : UInt32)), (62, vU32 (3204031479 : UInt32)), (63, vU32 (3329325298 : UInt32))] rfl ⟨rfl, (by kernel_rfl), rfl, (by kernel_rfl), rfl, (by kernel_rfl), rfl, (by kernel_rfl), rfl, (by kernel_rfl), rfl, (by kernel_rfl), rfl, (by kernel_rfl), rfl, (by kernel_rfl), rfl, (by kernel_rfl), rfl, (by kernel_rfl), rfl, (by kernel_rfl), rfl, (by kernel_rfl), rfl, (by kernel_rfl), rfl, (by kernel_rfl), rfl, (by kernel_rfl), rfl, (by kernel_rfl), rfl, (by kernel_rfl), rfl, (by kernel_rfl), rfl, (by kernel_rfl), rfl, (by kernel_rfl), rfl, (by kernel_rfl), rfl, (by kernel_rfl), rfl, (by kernel_rfl), rfl, (by kernel_rfl), rfl, (by kernel_rfl), rfl, (by kernel_rfl), rfl, (by kernel_rfl), rfl, (by kernel_rfl), rfl, (by kernel_rfl), rfl, (by kernel_rfl), rfl, (by kernel_rfl), rfl, (by kernel_rfl), rfl, (by kernel_rfl), rfl, (by kernel_rfl), rfl, (by kernel_rfl), rfl, (by kernel_rfl), rfl, (by kernel_rfl), rfl, (by kernel_rfl), rfl, (by kernel_rfl), rfl, (by kernel_rfl), rfl, (by kernel_rfl), rfl, (by kernel_rfl), rfl, (by kernel_rfl), rfl, (by kernel_rfl), rfl, (by kernel_rfl), rfl, (by kernel_rfl), rfl, (by kernel_rfl), rfl, (by kernel_rfl), rfl, (by kernel_rfl), rfl, (by kernel_rfl), rfl, (by kernel_rfl), rfl, (by kernel_rfl), rfl, (by kernel_rfl), rfl, (by kernel_rfl), rfl, (by kernel_rfl), rfl, (by kernel_rfl), rfl, (by kernel_rfl), rfl, (by kernel_rfl), rfl, (by kernel_rfl), rfl, (by kernel_rfl), rfl, (by kernel_rfl), rfl, (by kernel_rfl), rfl, (by kernel_rfl), rfl, (by kernel_rfl), trivial⟩ (fun _ => by kernel_rfl) rfl (by decide) ?_); intro v_ w_ c_ o s
  replace o : Ow E63 12 w_ c_ v_ l1 := by rw [hl1]; exact o
  refine WR.k rfl rfl rfl (OS.assign (v := v_) rfl rfl ?_)
  refine WR.nil ?_
  refine WC.ret ?_
  repeat first | refine thenQ_ret ?_ | refine blkQ_ret ?_
  cases hp
  obtain ⟨c_1, s1, o1⟩ := o.recol 2
  exact fnQ.l1 (fn := Try.f35) rfl (.inl ⟨_, rfl, rfl⟩) ⟨_, _, rfl, (s.t s1).entry (by decide), o1⟩

-- holdfast/holdfastref07.turn
set_option maxHeartbeats 4000000 in
theorem W36 (K : Nat) (w0 : World) {x : UInt32} {n1 : Int} {r : UInt32} (hp : holdfastref07_turn K x n1 = some r) :
    Calls Try.prog 36 [vU32 x, vI n1].toArray w0 fun e w1 => ∃ (d : Col), e = .returned (vU32 r) ∧ St [] w0 c0 w1 d := by
  refine calls_intro Try.func36 rfl Try.ntmps36 rfl ?_
  unfold holdfastref07_turn at hp
  refine WC.seq (WC.region ?_)
  refine WR.k rfl rfl rfl (OS.assign (v := vU32 (0 : UInt32)) rfl (by kernel_rfl) ?_)
  refine WR.nil ?_
  obtain ⟨k1, hk1, hp⟩ := bind_some hp
  obtain ⟨ha, hk1⟩ := shc_some hk1
  obtain ⟨k2, hk2, hp⟩ := bind_some hp
  obtain ⟨ha1, hk2⟩ := shc_some hk2
  refine WC.seq (WC.draw (c := c0) ⟨7, [[1], [1], [1], [1], [1], [1], [1]], [[], [], [], [], [], [], []], [], [[], [], [0, 1], [], [], [4], [3, 5]], [2, 6]⟩ [fun v w c => v = vU32 x, fun v w c => v = vI n1, fun v w c => v = vU32 (shr32 x (n1).toNat), fun v w c => v = vU32 x, fun v w c => v = vI n1, fun v w c => v = vI (W ((32 : Int) - n1)), fun v w c => v = vU32 (shl32 x (W ((32 : Int) - n1)).toNat)] hmix (by kernel_rfl) (by kernel_rfl) ⟨?_, ?_, ?_, ?_, ?_, ?_, ?_, trivial⟩ ⟨fun _ _ _ _ _ _ h _ _ => h, fun _ _ _ _ _ _ h _ _ => h, fun _ _ _ _ _ _ h _ _ => h, fun _ _ _ _ _ _ h _ _ => h, fun _ _ _ _ _ _ h _ _ => h, fun _ _ _ _ _ _ h _ _ => h, fun _ _ _ _ _ _ h _ _ => h, trivial⟩ ?_)
  · rintro f_ w_ c_ hB hs1 ⟨-⟩ o ho; obtain rfl : _ = o := Option.some.inj ho
    exact OS.move (v := vU32 x) rfl ((hB 0 (by kernel_rfl)).trans rfl) ⟨_, St.refl, rfl⟩
  · rintro f_1 w_1 c_1 hB1 hs2 ⟨-⟩ o ho; obtain rfl : _ = o := Option.some.inj ho
    exact OS.move (v := vI n1) rfl ((hB1 1 (by kernel_rfl)).trans rfl) ⟨_, St.refl, rfl⟩
  · rintro f_2 w_2 c_2 hB2 hs3 ⟨g, g1, -⟩ o ho; obtain rfl : _ = o := Option.some.inj ho
    replace g : (f_2 5) = vU32 x := g
    replace g1 : (f_2 6) = vI n1 := g1
    exact OS.bin (a := vU32 x) (b := vI n1) rfl g g1 (b32_shr ha) ⟨_, St.refl, rfl⟩
  · rintro f_3 w_3 c_3 hB3 hs4 ⟨-⟩ o ho; obtain rfl : _ = o := Option.some.inj ho
    exact OS.move (v := vU32 x) rfl ((hB3 0 (by kernel_rfl)).trans rfl) ⟨_, St.refl, rfl⟩
  · rintro f_4 w_4 c_4 hB4 hs5 ⟨-⟩ o ho; obtain rfl : _ = o := Option.some.inj ho
    exact OS.move (v := vI n1) rfl ((hB4 1 (by kernel_rfl)).trans rfl) ⟨_, St.refl, rfl⟩
  · rintro f_5 w_5 c_5 hB5 hs6 ⟨g2, -⟩ o ho; obtain rfl : _ = o := Option.some.inj ho
    replace g2 : (f_5 9) = vI n1 := g2
    exact OS.bin (a := vI (32 : Int)) (b := vI n1) rfl rfl g2 bI_sub ⟨_, St.refl, rfl⟩
  · rintro f_6 w_6 c_6 hB6 hs7 ⟨g3, g4, -⟩ o ho; obtain rfl : _ = o := Option.some.inj ho
    replace g3 : (f_6 8) = vU32 x := g3
    replace g4 : (f_6 10) = vI (W ((32 : Int) - n1)) := g4
    exact OS.bin (a := vU32 x) (b := vI (W ((32 : Int) - n1))) rfl g3 g4 (b32_shl ha1) ⟨_, St.refl, rfl⟩
  · rintro f_7 w_7 c_7 hB7 hs8 ⟨g5, g6, -⟩
    replace g5 : (f_7 7) = vU32 (shr32 x (n1).toNat) := g5
    replace g6 : (f_7 11) = vU32 (shl32 x (W ((32 : Int) - n1)).toNat) := g6
    refine WR.k rfl rfl rfl (OS.bin (a := vU32 (shr32 x (n1).toNat)) (b := vU32 (shl32 x (W ((32 : Int) - n1)).toNat)) rfl g5 g6 b32_or ?_)
    refine WR.k rfl rfl rfl (OS.assign (v := vU32 ((shr32 x (n1).toNat) ||| (shl32 x (W ((32 : Int) - n1)).toNat))) rfl rfl ?_)
    refine WR.nil ?_
    refine WC.ret ?_
    repeat first | refine thenQ_ret ?_ | refine blkQ_ret ?_
    cases hp
    exact fnQ.l1 (fn := Try.f36) rfl (.inl ⟨_, rfl, rfl⟩) ⟨_, rfl, hs8.entry (by decide)⟩
end Go.Proofs.Ytbbenllkjpomdaa
