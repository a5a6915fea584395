import Derived.Test.YtbbenllkjpomdaaWalks1
namespace Go.Proofs.Ytbbenllkjpomdaa
open Go Go.Proofs L

-- holdfast/holdfastref07.Sum
set_option maxHeartbeats 4000000 in
theorem W32 (K : Nat) (w0 : World) {b : List UInt8} {r : (List UInt8)} (hp : holdfastref07_Sum K b = some r) {v_ : Value} (o : Vw E5 0 w0 c0 v_ b) :
    Calls Try.prog 32 [v_].toArray w0 fun e w1 => ∃ (d : Col), e = .returned (.agg (fl E5 r).toArray) ∧ St [] w0 c0 w1 d ∧ r.length = 32 := by
  refine calls_intro Try.func32 rfl Try.ntmps32 rfl ?_
  unfold holdfastref07_Sum at hp
  refine WC.seq (WC.region ?_)
  refine WR.k rfl rfl rfl (OS.allocArr (E := E5) (xs := (List.replicate 32 (0 : UInt8))) (c := c0) 12 rfl Try.zeroValue23 (by kernel_rfl) ?_); intro p_ w_ c_ o1 s
  refine WR.nil ?_
  refine WC.seq (WC.region ?_)
  obtain ⟨l1, hl1, hp⟩ := bind_some hp
  replace hl1 := (Option.some.inj hl1).symm
  refine WR.k rfl rfl rfl (OS.bslice (E := E63) (c := c_) 13 ([(1779033703 : UInt32), (3144134277 : UInt32), (1013904242 : UInt32), (2773480762 : UInt32), (1359893119 : UInt32), (2600822924 : UInt32), (528734635 : UInt32), (1541459225 : UInt32)] : List UInt32) [(0, vU32 (1779033703 : UInt32)), (1, vU32 (3144134277 : UInt32)), (2, vU32 (1013904242 : UInt32)), (3, vU32 (2773480762 : UInt32)), (4, vU32 (1359893119 : UInt32)), (5, vU32 (2600822924 : UInt32)), (6, vU32 (528734635 : UInt32)), (7, vU32 (1541459225 : UInt32))] rfl ⟨rfl, (by kernel_rfl), rfl, (by kernel_rfl), rfl, (by kernel_rfl), rfl, (by kernel_rfl), rfl, (by kernel_rfl), rfl, (by kernel_rfl), rfl, (by kernel_rfl), rfl, (by kernel_rfl), trivial⟩ (fun _ => by kernel_rfl) rfl (by decide) ?_); intro v_1 w_1 c_1 o2 s1
  replace o2 : Ow E63 13 w_1 c_1 v_1 l1 := by rw [hl1]; exact o2
  refine WR.k rfl rfl rfl (OS.assign (v := v_1) rfl rfl ?_)
  refine WR.nil ?_
  refine WC.seq (WC.region ?_)
  obtain ⟨r_, hr_, hp⟩ := bind_some hp
  refine WR.k rfl rfl rfl (OS.callF (vs := []) rfl trivial Try.call35 ((W35 K w_1 hr_).mono ?_))
  rintro _ w_2 ⟨v_2, d, rfl, s2, o3⟩
  refine ⟨_, rfl, ?_⟩
  obtain ⟨c_2, s3, o3⟩ : ∃ c_2, St [] w_1 c_1 w_2 c_2 ∧ Ow E63 15 w_2 c_2 v_2 r_ := ⟨_, s2.merge (fun x => x + 13), o3.merge (fun x => x + 13) s2 (by decide)⟩
  refine WR.k rfl rfl rfl (OS.assign (v := v_2) rfl rfl ?_)
  refine WR.nil ?_
  refine WC.seq (WC.region ?_)
  refine WR.k rfl rfl rfl (OS.assign (v := (.slice none 0 0)) rfl rfl ?_)
  refine WR.nil ?_
  refine WC.seq (WC.region ?_)
  refine WR.k rfl rfl rfl (OS.move (v := (.slice none 0 0)) rfl rfl ?_)
  refine WR.k rfl rfl rfl (OS.move (v := v_) rfl rfl ?_)
  have o4 := o.keep ((s.t s1).t s3) (by decide)
  obtain ⟨xs, hxs, hp⟩ := bind_some hp
  obtain ⟨ha, hxs⟩ := app_some hxs
  refine WR.k rfl rfl rfl (OS.append (E := E5) (c := c_2) (i := 17) (xs := ([] : List UInt8)) (ys := b) rfl Try.underlying25 Try.underlying25 (.inl rfl) I5 rfl rfl rfl rfl rfl Ow.nil o4.src (lim_bytes (by decide) ha) (lim_max (b := 1) (by decide) ha) ?_); intro v_3 w_3 c_3 o5 s4
  replace o5 : Ow E5 17 w_3 c_3 v_3 xs := by rw [hxs]; exact o5
  obtain ⟨l2, hl2, hp⟩ := bind_some hp
  replace hl2 := (Option.some.inj hl2).symm
  refine WR.k rfl rfl rfl (OS.bslice (E := E5) (c := c_3) 18 ([(128 : UInt8)] : List UInt8) [(0, vU8 (128 : UInt8))] rfl ⟨rfl, (by kernel_rfl), trivial⟩ (fun _ => by kernel_rfl) rfl (by decide) ?_); intro v_4 w_4 c_4 o6 s5
  replace o6 : Ow E5 18 w_4 c_4 v_4 l2 := by rw [hl2]; exact o6
  have o7 := o5.keep s5 (by decide)
  obtain ⟨xs1, hxs1, hp⟩ := bind_some hp
  obtain ⟨ha1, hxs1⟩ := app_some hxs1
  refine WR.k rfl rfl rfl (OS.append (E := E5) (c := c_4) (i := 17) (xs := xs) (ys := l2) rfl Try.underlying25 Try.underlying25 (.inl rfl) I5 rfl rfl rfl rfl rfl o7 o6.vw.src (lim_bytes (by decide) ha1) (lim_max (b := 1) (by decide) ha1) ?_); intro v_5 w_5 c_5 o8 s6
  replace o8 : Ow E5 17 w_5 c_5 v_5 xs1 := by rw [hxs1]; exact o8
  refine WR.k rfl rfl rfl (OS.assign (v := v_5) rfl rfl ?_)
  refine WR.nil ?_
  refine WC.seq ?_
  obtain ⟨q, hl, hp⟩ := bind_some hp
  obtain ⟨m1, hx⟩ : ∃ z, z = q := ⟨_, rfl⟩; subst hx
  refine WC.blockJ2 (fun f_ w_6 => ∃ (v_7 : Value) (c_6 : Col), f_ 0 = v_ ∧ f_ 2 = p_ ∧ f_ 3 = v_1 ∧ f_ 4 = v_2 ∧ f_ 5 = v_7 ∧ Ow E5 17 w_6 c_6 v_7 m1 ∧ St [17] w_5 c_5 w_6 c_6) ?_ ?_
  · refine WC.loop (fun n => fun f_1 w_7 => ∃ (m : List UInt8) (v_6 : Value) (c_7 : Col), holdfastref07_Sum.l1 n m = some m1 ∧ f_1 0 = v_ ∧ f_1 2 = p_ ∧ f_1 3 = v_1 ∧ f_1 4 = v_2 ∧ f_1 5 = v_6 ∧ Ow E5 17 w_7 c_7 v_6 m ∧ St [17] w_5 c_5 w_7 c_7) K ⟨_, _, _, hl, rfl, rfl, rfl, rfl, rfl, o8, St.refl.mono (by decide)⟩ ?_
    rintro n f_1 w_7 ⟨m, v_6, c_7, hl, h, h1, h2, h3, h4, o9, s7⟩
    cases n with
    | zero => exact absurd hl (by simp [holdfastref07_Sum.l1])
    | succ k =>
    rw [holdfastref07_Sum.l1] at hl
    refine WC.seq ?_
    refine WC.seq (WC.region ?_)
    refine WR.k rfl rfl rfl (OS.move (v := v_6) rfl h4 ?_)
    refine WR.k rfl rfl rfl (OS.lenSl rfl Try.runUnderlying25 rfl o9.isSl ?_)
    refine WR.k rfl rfl rfl (OS.bin (a := vI (m.length : Int)) (b := vI (64 : Int)) rfl rfl rfl (bI_rem (by decide)) ?_)
    refine WR.k rfl rfl rfl (OS.bin (a := vI ((m.length : Int).tmod (64 : Int))) (b := vI (56 : Int)) rfl rfl rfl bI_neq ?_)
    refine WR.nil ?_
    refine WC.cond (!decide ((m.length : Int).tmod (64 : Int) = (56 : Int))) rfl (fun hb => ?_) (fun hb => ?_)
    · rw [if_pos hb] at hl
      refine WC.skip ?_
      refine WC.block ?_
      refine WC.region ?_
      refine WR.k rfl rfl rfl (OS.move (v := v_6) rfl h4 ?_)
      obtain ⟨l3, hl3, hl⟩ := bind_some hl
      replace hl3 := (Option.some.inj hl3).symm
      refine WR.k rfl rfl rfl (OS.bslice (E := E5) (c := c_7) 24 ([(0 : UInt8)] : List UInt8) [(0, vU8 (0 : UInt8))] rfl ⟨rfl, (by kernel_rfl), trivial⟩ (fun _ => by kernel_rfl) rfl (by decide) ?_); intro v_8 w_8 c_8 o11 s8
      replace o11 : Ow E5 24 w_8 c_8 v_8 l3 := by rw [hl3]; exact o11
      have o12 := o9.keep s8 (by decide)
      obtain ⟨m2, hm2, hl⟩ := bind_some hl
      obtain ⟨ha2, hm2⟩ := app_some hm2
      refine WR.k rfl rfl rfl (OS.append (E := E5) (c := c_8) (i := 17) (xs := m) (ys := l3) rfl Try.underlying25 Try.underlying25 (.inl rfl) I5 rfl rfl rfl rfl rfl o12 o11.vw.src (lim_bytes (by decide) ha2) (lim_max (b := 1) (by decide) ha2) ?_); intro v_9 w_9 c_9 o13 s9
      replace o13 : Ow E5 17 w_9 c_9 v_9 m2 := by rw [hm2]; exact o13
      refine WR.k rfl rfl rfl (OS.assign (v := v_9) rfl rfl ?_)
      refine WR.nil ?_
      exact ⟨k, by omega, _, _, _, hl, h, h1, h2, h3, rfl, o13, ((s7.t s8).t s9).mono (by decide)⟩
    · rw [if_neg (nt hb)] at hl
      refine WC.exit ?_
      cases hl
      exact ⟨_, _, h, h1, h2, h3, h4, o9, s7.mono (by decide)⟩
  · rintro f_ w_6 ⟨v_7, c_6, h5, h6, h7, h8, h9, o10, s10⟩
    refine WC.seq (WC.region ?_)
    refine WR.k rfl rfl rfl (OS.move (v := v_) rfl h5 ?_)
    have o14 := o4.keep (((s4.t s5).t s6).t s10) (by decide)
    refine WR.k rfl rfl rfl (OS.lenSl rfl Try.runUnderlying25 rfl o14.isSl ?_)
    refine WR.k rfl rfl rfl (OS.conv rfl Try.runUnderlying3 Try.runUnderlying24 rfl (cv_i64 _) ?_)
    refine WR.k rfl rfl rfl (OS.bin (a := vU64 (iU64 (b.length : Int))) (b := vU64 (8 : UInt64)) rfl rfl (by kernel_rfl) b64_mul ?_)
    refine WR.k rfl rfl rfl (OS.assign (v := vU64 ((iU64 (b.length : Int)) * (8 : UInt64))) rfl rfl ?_)
    refine WR.nil ?_
    refine WC.seq ?_
    refine WC.seq (WC.region ?_)
    refine WR.k rfl rfl rfl (OS.assign (v := vI (0 : Int)) rfl rfl ?_)
    refine WR.nil ?_
    obtain ⟨q1, hl4, hp⟩ := bind_some hp
    obtain ⟨m4, hx⟩ : ∃ z, z = q1 := ⟨_, rfl⟩; subst hx
    refine WC.blockJ2 (fun f_2 w_10 => ∃ (v_11 : Value) (c_10 : Col), f_2 2 = p_ ∧ f_2 3 = v_1 ∧ f_2 4 = v_2 ∧ f_2 5 = v_11 ∧ Ow E5 17 w_10 c_10 v_11 m4 ∧ St [17] w_6 c_6 w_10 c_10) ?_ ?_
    · refine WC.loop (fun n => fun f_3 w_11 => ∃ (m3 : List UInt8) (i : Int) (v_10 : Value) (c_11 : Col), holdfastref07_Sum.l2 n b m3 i = some m4 ∧ f_3 2 = p_ ∧ f_3 3 = v_1 ∧ f_3 4 = v_2 ∧ f_3 5 = v_10 ∧ Ow E5 17 w_11 c_11 v_10 m3 ∧ f_3 6 = vU64 ((iU64 (b.length : Int)) * (8 : UInt64)) ∧ f_3 7 = vI i ∧ St [17] w_6 c_6 w_11 c_11) K ⟨_, _, _, _, hl4, h6, h7, h8, h9, o10, rfl, rfl, St.refl.mono (by decide)⟩ ?_
      rintro n f_3 w_11 ⟨m3, i, v_10, c_11, hl4, h10, h11, h12, h13, o15, h14, h15, s11⟩
      cases n with
      | zero => exact absurd hl4 (by simp [holdfastref07_Sum.l2])
      | succ k =>
      rw [holdfastref07_Sum.l2] at hl4
      refine WC.seq ?_
      refine WC.seq (WC.region ?_)
      refine WR.k rfl rfl rfl (OS.move (v := vI i) rfl h15 ?_)
      refine WR.k rfl rfl rfl (OS.bin (a := vI i) (b := vI (8 : Int)) rfl rfl rfl bI_lss ?_)
      refine WR.nil ?_
      refine WC.cond (decide (i < (8 : Int))) rfl (fun hb1 => ?_) (fun hb1 => ?_)
      · rw [if_pos hb1] at hl4
        refine WC.skip ?_
        refine WC.seq ?_
        refine WC.block ?_
        refine WC.region ?_
        refine WR.k rfl rfl rfl (OS.move (v := v_10) rfl h13 ?_)
        refine WR.k rfl rfl rfl (OS.move (v := vU64 ((iU64 (b.length : Int)) * (8 : UInt64))) rfl h14 ?_)
        refine WR.k rfl rfl rfl (OS.move (v := vI i) rfl h15 ?_)
        refine WR.k rfl rfl rfl (OS.bin (a := vI (8 : Int)) (b := vI i) rfl rfl rfl bI_mul ?_)
        refine WR.k rfl rfl rfl (OS.bin (a := vI (56 : Int)) (b := vI (W ((8 : Int) * i))) rfl rfl rfl bI_sub ?_)
        obtain ⟨k1, hk1, hl4⟩ := bind_some hl4
        obtain ⟨ha3, hk1⟩ := shc_some hk1
        refine WR.k rfl rfl rfl (OS.bin (a := vU64 ((iU64 (b.length : Int)) * (8 : UInt64))) (b := vI (W ((56 : Int) - (W ((8 : Int) * i))))) rfl rfl rfl (b64_shr ha3) ?_)
        refine WR.k rfl rfl rfl (OS.conv rfl Try.runUnderlying24 Try.runUnderlying5 rfl (cv_64_8 _) ?_)
        obtain ⟨l5, hl5, hl4⟩ := bind_some hl4
        replace hl5 := (Option.some.inj hl5).symm
        refine WR.k rfl rfl rfl (OS.bslice (E := E5) (c := c_11) 30 ([(shr64 ((iU64 (b.length : Int)) * (8 : UInt64)) (W ((56 : Int) - (W ((8 : Int) * i)))).toNat).toUInt8] : List UInt8) [(0, vU8 ((shr64 ((iU64 (b.length : Int)) * (8 : UInt64)) (W ((56 : Int) - (W ((8 : Int) * i)))).toNat).toUInt8))] rfl ⟨rfl, rfl, trivial⟩ (fun _ => by kernel_rfl) rfl (by decide) ?_); intro v_12 w_12 c_12 o17 s12
        replace o17 : Ow E5 30 w_12 c_12 v_12 l5 := by rw [hl5]; exact o17
        have o18 := o15.keep s12 (by decide)
        obtain ⟨m5, hm5, hl4⟩ := bind_some hl4
        obtain ⟨ha4, hm5⟩ := app_some hm5
        refine WR.k rfl rfl rfl (OS.append (E := E5) (c := c_12) (i := 17) (xs := m3) (ys := l5) rfl Try.underlying25 Try.underlying25 (.inl rfl) I5 rfl rfl rfl rfl rfl o18 o17.vw.src (lim_bytes (by decide) ha4) (lim_max (b := 1) (by decide) ha4) ?_); intro v_13 w_13 c_13 o19 s13
        replace o19 : Ow E5 17 w_13 c_13 v_13 m5 := by rw [hm5]; exact o19
        refine WR.k rfl rfl rfl (OS.assign (v := v_13) rfl rfl ?_)
        refine WR.nil ?_
        refine WC.region ?_
        refine WR.k rfl rfl rfl (OS.move (v := vI i) rfl h15 ?_)
        refine WR.k rfl rfl rfl (OS.bin (a := vI i) (b := vI (1 : Int)) rfl rfl rfl bI_add ?_)
        refine WR.k rfl rfl rfl (OS.assign (v := vI (W (i + (1 : Int)))) rfl rfl ?_)
        refine WR.nil ?_
        exact ⟨k, by omega, _, _, _, _, hl4, h10, h11, h12, rfl, o19, h14, rfl, ((s11.t s12).t s13).mono (by decide)⟩
      · rw [if_neg (nt hb1)] at hl4
        refine WC.exit ?_
        cases hl4
        exact ⟨_, _, h10, h11, h12, h13, o15, s11.mono (by decide)⟩
    · rintro f_2 w_10 ⟨v_11, c_10, h16, h17, h18, h19, o16, s14⟩
      refine WC.seq ?_
      refine WC.seq (WC.region ?_)
      refine WR.k rfl rfl rfl (OS.assign (v := vI (0 : Int)) rfl rfl ?_)
      refine WR.nil ?_
      obtain ⟨q2, hl6, hp⟩ := bind_some hp
      obtain ⟨h21, hx⟩ : ∃ z, z = q2 := ⟨_, rfl⟩; subst hx
      refine WC.blockJ2 (fun f_4 w_14 => ∃ (c_14 : Col), f_4 2 = p_ ∧ f_4 3 = v_1 ∧ Ow E63 13 w_14 c_14 v_1 h21 ∧ St [13, 31, 47, 52, 60, 76, 81, 92, 108, 113, 117] w_10 c_10 w_14 c_14) ?_ ?_
      · have o22 := o2.keep (((((s3.t s4).t s5).t s6).t s10).t s14) (by decide)
        refine WC.loop (fun n => fun f_5 w_15 => ∃ (h20 : List UInt32) (at_ : Int) (c_15 : Col), holdfastref07_Sum.l3 K n m4 r_ h20 at_ = some h21 ∧ f_5 2 = p_ ∧ f_5 3 = v_1 ∧ Ow E63 13 w_15 c_15 v_1 h20 ∧ f_5 4 = v_2 ∧ f_5 5 = v_11 ∧ f_5 8 = vI at_ ∧ St [13, 31, 47, 52, 60, 76, 81, 92, 108, 113, 117] w_10 c_10 w_15 c_15) K ⟨_, _, _, hl6, h16, h17, o22, h18, h19, rfl, St.refl.mono (by decide)⟩ ?_
        rintro n f_5 w_15 ⟨h20, at_, c_15, hl6, h22, h23, o20, h24, h25, h26, s15⟩
        cases n with
        | zero => exact absurd hl6 (by simp [holdfastref07_Sum.l3])
        | succ k =>
        rw [holdfastref07_Sum.l3] at hl6
        refine WC.seq ?_
        refine WC.seq (WC.region ?_)
        refine WR.k rfl rfl rfl (OS.move (v := vI at_) rfl h26 ?_)
        refine WR.k rfl rfl rfl (OS.move (v := v_11) rfl h25 ?_)
        have o23 := o16.keep s15 (by decide)
        refine WR.k rfl rfl rfl (OS.lenSl rfl Try.runUnderlying25 rfl o23.isSl ?_)
        refine WR.k rfl rfl rfl (OS.bin (a := vI at_) (b := vI (m4.length : Int)) rfl rfl rfl bI_lss ?_)
        refine WR.nil ?_
        refine WC.cond (decide (at_ < (m4.length : Int))) rfl (fun hb2 => ?_) (fun hb2 => ?_)
        · rw [if_pos hb2] at hl6
          refine WC.skip ?_
          refine WC.seq ?_
          refine WC.block ?_
          refine WC.seq (WC.region ?_)
          obtain ⟨w_16, hw_16, hl6⟩ := bind_some hl6
          replace hw_16 := (Option.some.inj hw_16).symm
          refine WR.k rfl rfl rfl (OS.make (E := E63) (c := c_15) (z0 := (0 : UInt32)) 92 rfl Try.underlying64 I63 rfl rfl rfl rfl rfl (by decide) (by decide) (by decide) (by decide) ?_); intro v_14 w_17 c_16 o24 s16
          replace o24 : Ow E63 92 w_17 c_16 v_14 w_16 := by rw [hw_16]; exact o24
          refine WR.k rfl rfl rfl (OS.assign (v := v_14) rfl rfl ?_)
          refine WR.nil ?_
          refine WC.seq ?_
          refine WC.seq (WC.region ?_)
          refine WR.k rfl rfl rfl (OS.assign (v := vI (0 : Int)) rfl rfl ?_)
          refine WR.nil ?_
          obtain ⟨q3, hl7, hl6⟩ := bind_some hl6
          obtain ⟨w_19, hx⟩ : ∃ z, z = q3 := ⟨_, rfl⟩; subst hx
          refine WC.blockJ2 (fun f_6 w_20 => ∃ (c_17 : Col), f_6 2 = p_ ∧ f_6 3 = v_1 ∧ f_6 4 = v_2 ∧ f_6 5 = v_11 ∧ f_6 8 = vI at_ ∧ f_6 9 = v_14 ∧ Ow E63 92 w_20 c_17 v_14 w_19 ∧ St [92] w_17 c_16 w_20 c_17) ?_ ?_
          · refine WC.loop (fun n => fun f_7 w_21 => ∃ (w_18 : List UInt32) (i1 : Int) (c_18 : Col), holdfastref07_Sum.l4 K n m4 at_ w_18 i1 = some w_19 ∧ f_7 2 = p_ ∧ f_7 3 = v_1 ∧ f_7 4 = v_2 ∧ f_7 5 = v_11 ∧ f_7 8 = vI at_ ∧ f_7 9 = v_14 ∧ Ow E63 92 w_21 c_18 v_14 w_18 ∧ f_7 10 = vI i1 ∧ St [92] w_17 c_16 w_21 c_18) K ⟨_, _, _, hl7, h22, h23, h24, h25, h26, rfl, o24, rfl, St.refl.mono (by decide)⟩ ?_
            rintro n f_7 w_21 ⟨w_18, i1, c_18, hl7, h27, h28, h29, h30, h31, h32, o25, h33, s17⟩
            cases n with
            | zero => exact absurd hl7 (by simp [holdfastref07_Sum.l4])
            | succ k =>
            rw [holdfastref07_Sum.l4] at hl7
            refine WC.seq ?_
            refine WC.seq (WC.region ?_)
            refine WR.k rfl rfl rfl (OS.move (v := vI i1) rfl h33 ?_)
            refine WR.k rfl rfl rfl (OS.bin (a := vI i1) (b := vI (16 : Int)) rfl rfl rfl bI_lss ?_)
            refine WR.nil ?_
            refine WC.cond (decide (i1 < (16 : Int))) rfl (fun hb3 => ?_) (fun hb3 => ?_)
            · rw [if_pos hb3] at hl7
              refine WC.skip ?_
              refine WC.seq ?_
              refine WC.block ?_
              refine WC.seq (WC.region ?_)
              refine WR.k rfl rfl rfl (OS.assign (v := vI (0 : Int)) rfl rfl ?_)
              refine WR.nil ?_
              obtain ⟨q4, hl8, hl7⟩ := bind_some hl7
              obtain ⟨w_23, hx⟩ : ∃ z, z = q4 := ⟨_, rfl⟩; subst hx
              refine WC.blockJ2 (fun f_8 w_24 => ∃ (c_19 : Col), f_8 2 = p_ ∧ f_8 3 = v_1 ∧ f_8 4 = v_2 ∧ f_8 5 = v_11 ∧ f_8 8 = vI at_ ∧ f_8 9 = v_14 ∧ Ow E63 92 w_24 c_19 v_14 w_23 ∧ f_8 10 = vI i1 ∧ St [92] w_21 c_18 w_24 c_19) ?_ ?_
              · refine WC.loop (fun n => fun f_9 w_25 => ∃ (w_22 : List UInt32) (j : Int) (c_20 : Col), holdfastref07_Sum.l5 n i1 m4 at_ w_22 j = some w_23 ∧ f_9 2 = p_ ∧ f_9 3 = v_1 ∧ f_9 4 = v_2 ∧ f_9 5 = v_11 ∧ f_9 8 = vI at_ ∧ f_9 9 = v_14 ∧ Ow E63 92 w_25 c_20 v_14 w_22 ∧ f_9 10 = vI i1 ∧ f_9 11 = vI j ∧ St [92] w_21 c_18 w_25 c_20) K ⟨_, _, _, hl8, h27, h28, h29, h30, h31, h32, o25, h33, rfl, St.refl.mono (by decide)⟩ ?_
                rintro n f_9 w_25 ⟨w_22, j, c_20, hl8, h34, h35, h36, h37, h38, h39, o27, h40, h41, s18⟩
                cases n with
                | zero => exact absurd hl8 (by simp [holdfastref07_Sum.l5])
                | succ k =>
                rw [holdfastref07_Sum.l5] at hl8
                refine WC.seq ?_
                refine WC.seq (WC.region ?_)
                refine WR.k rfl rfl rfl (OS.move (v := vI j) rfl h41 ?_)
                refine WR.k rfl rfl rfl (OS.bin (a := vI j) (b := vI (4 : Int)) rfl rfl rfl bI_lss ?_)
                refine WR.nil ?_
                refine WC.cond (decide (j < (4 : Int))) rfl (fun hb4 => ?_) (fun hb4 => ?_)
                · rw [if_pos hb4] at hl8
                  refine WC.skip ?_
                  refine WC.seq ?_
                  refine WC.block ?_
                  obtain ⟨e, he, hl8⟩ := bind_some hl8
                  obtain ⟨ha5, hb5, hc⟩ := gt_some he
                  have o29 := o23.keep ((s16.t s17).t s18) (by decide)
                  obtain ⟨e1, he1, hl8⟩ := bind_some hl8
                  obtain ⟨ha6, hb6, hc1⟩ := gt_some he1
                  refine WC.draw (c := c_20) ⟨18, [[1], [1], [1], [1], [1], [1], [1], [1], [1], [1], [1], [1], [1], [1], [1], [1], [1], [1]], [[], [], [], [], [], [], [], [], [], [], [], [], [], [], [], [], [], []], [], [[], [], [], [], [2, 3], [4], [5], [], [], [], [9], [8, 10], [], [11, 12], [7, 13], [14], [15], [6, 16]], [0, 1, 17]⟩ [fun v w c => v = v_14, fun v w c => v = vI i1, fun v w c => v = v_14, fun v w c => v = vI i1, fun v w c => Adr v_14 (i1).toNat 1 v, fun v w c => v = vU32 e, fun v w c => v = vU32 (shl32 e 8), fun v w c => v = v_11, fun v w c => v = vI at_, fun v w c => v = vI i1, fun v w c => v = vI (W ((4 : Int) * i1)), fun v w c => v = vI (W (at_ + (W ((4 : Int) * i1)))), fun v w c => v = vI j, fun v w c => v = vI (W ((W (at_ + (W ((4 : Int) * i1)))) + j)), fun v w c => Adr v_11 (W ((W (at_ + (W ((4 : Int) * i1)))) + j)).toNat 1 v, fun v w c => v = vU8 e1, fun v w c => v = vU32 e1.toUInt32, fun v w c => v = vU32 ((shl32 e 8) ||| e1.toUInt32)] hmix (by kernel_rfl) (by kernel_rfl) ⟨?_, ?_, ?_, ?_, ?_, ?_, ?_, ?_, ?_, ?_, ?_, ?_, ?_, ?_, ?_, ?_, ?_, ?_, trivial⟩ ⟨fun _ _ _ _ _ _ h _ _ => h, fun _ _ _ _ _ _ h _ _ => h, fun _ _ _ _ _ _ h _ _ => h, fun _ _ _ _ _ _ h _ _ => h, fun _ _ _ _ _ _ h _ _ => h, fun _ _ _ _ _ _ h _ _ => h, fun _ _ _ _ _ _ h _ _ => h, fun _ _ _ _ _ _ h _ _ => h, fun _ _ _ _ _ _ h _ _ => h, fun _ _ _ _ _ _ h _ _ => h, fun _ _ _ _ _ _ h _ _ => h, fun _ _ _ _ _ _ h _ _ => h, fun _ _ _ _ _ _ h _ _ => h, fun _ _ _ _ _ _ h _ _ => h, fun _ _ _ _ _ _ h _ _ => h, fun _ _ _ _ _ _ h _ _ => h, fun _ _ _ _ _ _ h _ _ => h, fun _ _ _ _ _ _ h _ _ => h, trivial⟩ ?_
                  · rintro f_10 w_26 c_21 hB hs1 ⟨-⟩ o ho; obtain rfl : _ = o := Option.some.inj ho
                    exact OS.move (v := v_14) rfl ((hB 9 (by kernel_rfl)).trans h39) ⟨_, St.refl, rfl⟩
                  · rintro f_11 w_27 c_22 hB1 hs2 ⟨-⟩ o ho; obtain rfl : _ = o := Option.some.inj ho
                    exact OS.move (v := vI i1) rfl ((hB1 10 (by kernel_rfl)).trans h40) ⟨_, St.refl, rfl⟩
                  · rintro f_12 w_28 c_23 hB2 hs3 ⟨-⟩ o ho; obtain rfl : _ = o := Option.some.inj ho
                    exact OS.move (v := v_14) rfl ((hB2 9 (by kernel_rfl)).trans h39) ⟨_, St.refl, rfl⟩
                  · rintro f_13 w_29 c_24 hB3 hs4 ⟨-⟩ o ho; obtain rfl : _ = o := Option.some.inj ho
                    exact OS.move (v := vI i1) rfl ((hB3 10 (by kernel_rfl)).trans h40) ⟨_, St.refl, rfl⟩
                  · rintro f_14 w_30 c_25 hB4 hs5 ⟨g, g1, -⟩ o ho; obtain rfl : _ = o := Option.some.inj ho
                    replace g : (f_14 73) = v_14 := g
                    replace g1 : (f_14 74) = vI i1 := g1
                    have o30 := o27.keep hs5 (by decide)
                    exact OS.idx rfl Try.runUnderlying64 Try.sizeOf63 g o30.isSl g1 ha5 hb5 (fun _ h => ⟨_, St.refl, h⟩)
                  · rintro f_15 w_31 c_26 hB5 hs6 ⟨g2, -⟩ o ho; obtain rfl : _ = o := Option.some.inj ho
                    replace g2 : Adr v_14 (i1).toNat 1 (f_15 75) := g2
                    have o31 := o27.keep hs6 (by decide)
                    exact OS.ld1 (u := vU32 e) rfl Try.isAgg63 rfl (o31.ld g2 hc) ⟨_, St.refl, rfl⟩
                  · rintro f_16 w_32 c_27 hB6 hs7 ⟨g3, -⟩ o ho; obtain rfl : _ = o := Option.some.inj ho
                    replace g3 : (f_16 76) = vU32 e := g3
                    exact OS.bin (a := vU32 e) (b := vU64 (8 : UInt64)) rfl g3 (by kernel_rfl) (b32_shl (by decide)) ⟨_, St.refl, rfl⟩
                  · rintro f_17 w_33 c_28 hB7 hs8 ⟨-⟩ o ho; obtain rfl : _ = o := Option.some.inj ho
                    exact OS.move (v := v_11) rfl ((hB7 5 (by kernel_rfl)).trans h37) ⟨_, St.refl, rfl⟩
                  · rintro f_18 w_34 c_29 hB8 hs9 ⟨-⟩ o ho; obtain rfl : _ = o := Option.some.inj ho
                    exact OS.move (v := vI at_) rfl ((hB8 8 (by kernel_rfl)).trans h38) ⟨_, St.refl, rfl⟩
                  · rintro f_19 w_35 c_30 hB9 hs10 ⟨-⟩ o ho; obtain rfl : _ = o := Option.some.inj ho
                    exact OS.move (v := vI i1) rfl ((hB9 10 (by kernel_rfl)).trans h40) ⟨_, St.refl, rfl⟩
                  · rintro f_20 w_36 c_31 hB10 hs11 ⟨g4, -⟩ o ho; obtain rfl : _ = o := Option.some.inj ho
                    replace g4 : (f_20 80) = vI i1 := g4
                    exact OS.bin (a := vI (4 : Int)) (b := vI i1) rfl rfl g4 bI_mul ⟨_, St.refl, rfl⟩
                  · rintro f_21 w_37 c_32 hB11 hs12 ⟨g5, g6, -⟩ o ho; obtain rfl : _ = o := Option.some.inj ho
                    replace g5 : (f_21 79) = vI at_ := g5
                    replace g6 : (f_21 81) = vI (W ((4 : Int) * i1)) := g6
                    exact OS.bin (a := vI at_) (b := vI (W ((4 : Int) * i1))) rfl g5 g6 bI_add ⟨_, St.refl, rfl⟩
                  · rintro f_22 w_38 c_33 hB12 hs13 ⟨-⟩ o ho; obtain rfl : _ = o := Option.some.inj ho
                    exact OS.move (v := vI j) rfl ((hB12 11 (by kernel_rfl)).trans h41) ⟨_, St.refl, rfl⟩
                  · rintro f_23 w_39 c_34 hB13 hs14 ⟨g7, g8, -⟩ o ho; obtain rfl : _ = o := Option.some.inj ho
                    replace g7 : (f_23 82) = vI (W (at_ + (W ((4 : Int) * i1)))) := g7
                    replace g8 : (f_23 83) = vI j := g8
                    exact OS.bin (a := vI (W (at_ + (W ((4 : Int) * i1))))) (b := vI j) rfl g7 g8 bI_add ⟨_, St.refl, rfl⟩
                  · rintro f_24 w_40 c_35 hB14 hs15 ⟨g9, g10, -⟩ o ho; obtain rfl : _ = o := Option.some.inj ho
                    replace g9 : (f_24 78) = v_11 := g9
                    replace g10 : (f_24 84) = vI (W ((W (at_ + (W ((4 : Int) * i1)))) + j)) := g10
                    have o32 := o23.keep (((s16.t s17).t s18).t hs15) (by decide)
                    exact OS.idx rfl Try.runUnderlying25 Try.sizeOf5 g9 o32.isSl g10 ha6 hb6 (fun _ h => ⟨_, St.refl, h⟩)
                  · rintro f_25 w_41 c_36 hB15 hs16 ⟨g11, -⟩ o ho; obtain rfl : _ = o := Option.some.inj ho
                    replace g11 : Adr v_11 (W ((W (at_ + (W ((4 : Int) * i1)))) + j)).toNat 1 (f_25 85) := g11
                    have o33 := o23.keep (((s16.t s17).t s18).t hs16) (by decide)
                    exact OS.ld1 (u := vU8 e1) rfl Try.isAgg5 rfl (o33.ld g11 hc1) ⟨_, St.refl, rfl⟩
                  · rintro f_26 w_42 c_37 hB16 hs17 ⟨g12, -⟩ o ho; obtain rfl : _ = o := Option.some.inj ho
                    replace g12 : (f_26 86) = vU8 e1 := g12
                    exact OS.conv rfl Try.runUnderlying5 Try.runUnderlying63 g12 (cv_8_32 _) ⟨_, St.refl, rfl⟩
                  · rintro f_27 w_43 c_38 hB17 hs18 ⟨g13, g14, -⟩ o ho; obtain rfl : _ = o := Option.some.inj ho
                    replace g13 : (f_27 77) = vU32 (shl32 e 8) := g13
                    replace g14 : (f_27 87) = vU32 e1.toUInt32 := g14
                    exact OS.bin (a := vU32 (shl32 e 8)) (b := vU32 e1.toUInt32) rfl g13 g14 b32_or ⟨_, St.refl, rfl⟩
                  · rintro f_28 w_44 c_39 hB18 hs19 ⟨g15, g16, g17, -⟩
                    have h42 := (hB18 2 (by kernel_rfl)).trans h34
                    have h43 := (hB18 3 (by kernel_rfl)).trans h35
                    have h44 := (hB18 4 (by kernel_rfl)).trans h36
                    have h45 := (hB18 5 (by kernel_rfl)).trans h37
                    have h46 := (hB18 8 (by kernel_rfl)).trans h38
                    have h47 := (hB18 9 (by kernel_rfl)).trans h39
                    have h48 := (hB18 10 (by kernel_rfl)).trans h40
                    have h49 := (hB18 11 (by kernel_rfl)).trans h41
                    replace g15 : (f_28 71) = v_14 := g15
                    replace g16 : (f_28 72) = vI i1 := g16
                    replace g17 : (f_28 88) = vU32 ((shl32 e 8) ||| e1.toUInt32) := g17
                    have o34 := o27.keep hs19 (by decide)
                    obtain ⟨u, hu, hl8⟩ := bind_some hl8
                    obtain ⟨ha7, hb7⟩ := req_some hu
                    refine WR.k rfl rfl rfl (OS.idx rfl Try.runUnderlying64 Try.sizeOf63 g15 o34.isSl g16 ha7 hb7 ?_); intro p_1 a3
                    obtain ⟨w_45, hw_45, hl8⟩ := bind_some hl8
                    replace hw_45 := (Option.some.inj hw_45).symm
                    refine WR.k0 rfl rfl (OS.stOwn (q := (shl32 e 8) ||| e1.toUInt32) (u := vU32 ((shl32 e 8) ||| e1.toUInt32)) rfl Try.sizeOf63 rfl g17 o34 rfl a3 (by omega) rfl ?_); intro w_46 o35 s19
                    replace o35 : Ow E63 92 w_46 c_39 v_14 w_45 := by rw [hw_45]; exact o35
                    refine WR.nil ?_
                    refine WC.region ?_
                    refine WR.k rfl rfl rfl (OS.move (v := vI j) rfl h49 ?_)
                    refine WR.k rfl rfl rfl (OS.bin (a := vI j) (b := vI (1 : Int)) rfl rfl rfl bI_add ?_)
                    refine WR.k rfl rfl rfl (OS.assign (v := vI (W (j + (1 : Int)))) rfl rfl ?_)
                    refine WR.nil ?_
                    exact ⟨k, by omega, _, _, _, hl8, h42, h43, h44, h45, h46, h47, o35, h48, rfl, ((s18.t hs19).t s19).mono (by decide)⟩
                · rw [if_neg (nt hb4)] at hl8
                  refine WC.exit ?_
                  cases hl8
                  exact ⟨_, h34, h35, h36, h37, h38, h39, o27, h40, s18.mono (by decide)⟩
              · rintro f_8 w_24 ⟨c_19, h50, h51, h52, h53, h54, h55, o28, h56, s20⟩
                refine WC.region ?_
                refine WR.k rfl rfl rfl (OS.move (v := vI i1) rfl h56 ?_)
                refine WR.k rfl rfl rfl (OS.bin (a := vI i1) (b := vI (1 : Int)) rfl rfl rfl bI_add ?_)
                refine WR.k rfl rfl rfl (OS.assign (v := vI (W (i1 + (1 : Int)))) rfl rfl ?_)
                refine WR.nil ?_
                exact ⟨k, by omega, _, _, _, hl7, h50, h51, h52, h53, h54, h55, o28, rfl, (s17.t s20).mono (by decide)⟩
            · rw [if_neg (nt hb3)] at hl7
              refine WC.exit ?_
              cases hl7
              exact ⟨_, h27, h28, h29, h30, h31, h32, o25, s17.mono (by decide)⟩
          · rintro f_6 w_20 ⟨c_17, h57, h58, h59, h60, h61, h62, o26, s21⟩
            refine WC.seq ?_
            refine WC.seq (WC.region ?_)
            refine WR.k rfl rfl rfl (OS.assign (v := vI (16 : Int)) rfl rfl ?_)
            refine WR.nil ?_
            obtain ⟨q5, hl9, hl6⟩ := bind_some hl6
            obtain ⟨w_48, hx⟩ : ∃ z, z = q5 := ⟨_, rfl⟩; subst hx
            refine WC.blockJ2 (fun f_29 w_49 => ∃ (c_40 : Col), f_29 2 = p_ ∧ f_29 3 = v_1 ∧ f_29 4 = v_2 ∧ f_29 5 = v_11 ∧ f_29 8 = vI at_ ∧ f_29 9 = v_14 ∧ Ow E63 92 w_49 c_40 v_14 w_48 ∧ St [92] w_20 c_17 w_49 c_40) ?_ ?_
            · refine WC.loop (fun n => fun f_30 w_50 => ∃ (w_47 : List UInt32) (i2 : Int) (c_41 : Col), holdfastref07_Sum.l6 K n w_47 i2 = some w_48 ∧ f_30 2 = p_ ∧ f_30 3 = v_1 ∧ f_30 4 = v_2 ∧ f_30 5 = v_11 ∧ f_30 8 = vI at_ ∧ f_30 9 = v_14 ∧ Ow E63 92 w_50 c_41 v_14 w_47 ∧ f_30 12 = vI i2 ∧ St [92] w_20 c_17 w_50 c_41) K ⟨_, _, _, hl9, h57, h58, h59, h60, h61, h62, o26, rfl, St.refl.mono (by decide)⟩ ?_
              rintro n f_30 w_50 ⟨w_47, i2, c_41, hl9, h63, h64, h65, h66, h67, h68, o36, h69, s22⟩
              cases n with
              | zero => exact absurd hl9 (by simp [holdfastref07_Sum.l6])
              | succ k =>
              rw [holdfastref07_Sum.l6] at hl9
              refine WC.seq ?_
              refine WC.seq (WC.region ?_)
              refine WR.k rfl rfl rfl (OS.move (v := vI i2) rfl h69 ?_)
              refine WR.k rfl rfl rfl (OS.bin (a := vI i2) (b := vI (64 : Int)) rfl rfl rfl bI_lss ?_)
              refine WR.nil ?_
              refine WC.cond (decide (i2 < (64 : Int))) rfl (fun hb8 => ?_) (fun hb8 => ?_)
              · rw [if_pos hb8] at hl9
                refine WC.skip ?_
                refine WC.seq ?_
                refine WC.block ?_
                obtain ⟨e2, he2, hl9⟩ := bind_some hl9
                obtain ⟨ha8, hb9, hc2⟩ := gt_some he2
                obtain ⟨e3, he3, hl9⟩ := bind_some hl9
                obtain ⟨ha9, hb10, hc3⟩ := gt_some he3
                refine WC.seq (WC.draw (c := c_41) ⟨11, [[1], [1], [1], [1], [1], [1], [1], [1], [1], [1], [1]], [[], [], [], [], [], [], [], [], [], [], []], [], [[], [], [1], [0, 2], [3], [], [], [6], [5, 7], [8], [4]], [9, 10]⟩ [fun v w c => v = v_14, fun v w c => v = vI i2, fun v w c => v = vI (W (i2 - (15 : Int))), fun v w c => Adr v_14 (W (i2 - (15 : Int))).toNat 1 v, fun v w c => v = vU32 e2, fun v w c => v = v_14, fun v w c => v = vI i2, fun v w c => v = vI (W (i2 - (2 : Int))), fun v w c => Adr v_14 (W (i2 - (2 : Int))).toNat 1 v, fun v w c => v = vU32 e3, fun v w c => v = vU32 e2] hmix (by kernel_rfl) (by kernel_rfl) ⟨?_, ?_, ?_, ?_, ?_, ?_, ?_, ?_, ?_, ?_, ?_, trivial⟩ ⟨fun _ _ _ _ _ _ h _ _ => h, fun _ _ _ _ _ _ h _ _ => h, fun _ _ _ _ _ _ h _ _ => h, fun _ _ _ _ _ _ h _ _ => h, fun _ _ _ _ _ _ h _ _ => h, fun _ _ _ _ _ _ h _ _ => h, fun _ _ _ _ _ _ h _ _ => h, fun _ _ _ _ _ _ h _ _ => h, fun _ _ _ _ _ _ h _ _ => h, fun _ _ _ _ _ _ h _ _ => h, fun _ _ _ _ _ _ h _ _ => h, trivial⟩ ?_)
                · rintro f_31 w_51 c_42 hB19 hs20 ⟨-⟩ o ho; obtain rfl : _ = o := Option.some.inj ho
                  exact OS.move (v := v_14) rfl ((hB19 9 (by kernel_rfl)).trans h68) ⟨_, St.refl, rfl⟩
                · rintro f_32 w_52 c_43 hB20 hs21 ⟨-⟩ o ho; obtain rfl : _ = o := Option.some.inj ho
                  exact OS.move (v := vI i2) rfl ((hB20 12 (by kernel_rfl)).trans h69) ⟨_, St.refl, rfl⟩
                · rintro f_33 w_53 c_44 hB21 hs22 ⟨g18, -⟩ o ho; obtain rfl : _ = o := Option.some.inj ho
                  replace g18 : (f_33 95) = vI i2 := g18
                  exact OS.bin (a := vI i2) (b := vI (15 : Int)) rfl g18 rfl bI_sub ⟨_, St.refl, rfl⟩
                · rintro f_34 w_54 c_45 hB22 hs23 ⟨g19, g20, -⟩ o ho; obtain rfl : _ = o := Option.some.inj ho
                  replace g19 : (f_34 94) = v_14 := g19
                  replace g20 : (f_34 96) = vI (W (i2 - (15 : Int))) := g20
                  have o38 := o36.keep hs23 (by decide)
                  exact OS.idx rfl Try.runUnderlying64 Try.sizeOf63 g19 o38.isSl g20 ha8 hb9 (fun _ h => ⟨_, St.refl, h⟩)
                · rintro f_35 w_55 c_46 hB23 hs24 ⟨g21, -⟩ o ho; obtain rfl : _ = o := Option.some.inj ho
                  replace g21 : Adr v_14 (W (i2 - (15 : Int))).toNat 1 (f_35 97) := g21
                  have o39 := o36.keep hs24 (by decide)
                  exact OS.ld1 (u := vU32 e2) rfl Try.isAgg63 rfl (o39.ld g21 hc2) ⟨_, St.refl, rfl⟩
                · rintro f_36 w_56 c_47 hB24 hs25 ⟨-⟩ o ho; obtain rfl : _ = o := Option.some.inj ho
                  exact OS.move (v := v_14) rfl ((hB24 9 (by kernel_rfl)).trans h68) ⟨_, St.refl, rfl⟩
                · rintro f_37 w_57 c_48 hB25 hs26 ⟨-⟩ o ho; obtain rfl : _ = o := Option.some.inj ho
                  exact OS.move (v := vI i2) rfl ((hB25 12 (by kernel_rfl)).trans h69) ⟨_, St.refl, rfl⟩
                · rintro f_38 w_58 c_49 hB26 hs27 ⟨g22, -⟩ o ho; obtain rfl : _ = o := Option.some.inj ho
                  replace g22 : (f_38 100) = vI i2 := g22
                  exact OS.bin (a := vI i2) (b := vI (2 : Int)) rfl g22 rfl bI_sub ⟨_, St.refl, rfl⟩
                · rintro f_39 w_59 c_50 hB27 hs28 ⟨g23, g24, -⟩ o ho; obtain rfl : _ = o := Option.some.inj ho
                  replace g23 : (f_39 99) = v_14 := g23
                  replace g24 : (f_39 101) = vI (W (i2 - (2 : Int))) := g24
                  have o40 := o36.keep hs28 (by decide)
                  exact OS.idx rfl Try.runUnderlying64 Try.sizeOf63 g23 o40.isSl g24 ha9 hb10 (fun _ h => ⟨_, St.refl, h⟩)
                · rintro f_40 w_60 c_51 hB28 hs29 ⟨g25, -⟩ o ho; obtain rfl : _ = o := Option.some.inj ho
                  replace g25 : Adr v_14 (W (i2 - (2 : Int))).toNat 1 (f_40 102) := g25
                  have o41 := o36.keep hs29 (by decide)
                  exact OS.ld1 (u := vU32 e3) rfl Try.isAgg63 rfl (o41.ld g25 hc3) ⟨_, St.refl, rfl⟩
                · rintro f_41 w_61 c_52 hB29 hs30 ⟨g26, -⟩ o ho; obtain rfl : _ = o := Option.some.inj ho
                  replace g26 : (f_41 98) = vU32 e2 := g26
                  exact OS.assign (v := vU32 e2) rfl g26 ⟨_, St.refl, rfl⟩
                · rintro f_42 w_62 c_53 hB30 hs31 ⟨g27, g28, -⟩
                  have h70 := (hB30 2 (by kernel_rfl)).trans h63
                  have h71 := (hB30 3 (by kernel_rfl)).trans h64
                  have h72 := (hB30 4 (by kernel_rfl)).trans h65
                  have h73 := (hB30 5 (by kernel_rfl)).trans h66
                  have h74 := (hB30 8 (by kernel_rfl)).trans h67
                  have h75 := (hB30 9 (by kernel_rfl)).trans h68
                  have h76 := (hB30 12 (by kernel_rfl)).trans h69
                  replace g27 : (f_42 103) = vU32 e3 := g27
                  replace g28 : (f_42 13) = vU32 e2 := g28
                  refine WR.k rfl rfl rfl (OS.assign (v := vU32 e3) rfl g27 ?_)
                  refine WR.nil ?_
                  have o42 := o36.keep hs31 (by decide)
                  obtain ⟨e4, he4, hl9⟩ := bind_some hl9
                  obtain ⟨ha10, hb11, hc4⟩ := gt_some he4
                  obtain ⟨r_1, hr_1, hl9⟩ := bind_some hl9
                  obtain ⟨r_2, hr_2, hl9⟩ := bind_some hl9
                  obtain ⟨e5, he5, hl9⟩ := bind_some hl9
                  obtain ⟨ha11, hb12, hc5⟩ := gt_some he5
                  obtain ⟨r_3, hr_3, hl9⟩ := bind_some hl9
                  obtain ⟨r_4, hr_4, hl9⟩ := bind_some hl9
                  refine WC.draw (c := c_53) ⟨31, [[1], [1], [1], [1], [1], [1], [1], [1], [1], [1], [1], [1], [1], [1], [1], [1], [1], [1], [1], [1], [1], [1], [1], [1], [1], [1], [1], [1], [1], [1], [1]], [[], [], [], [], [], [], [], [], [], [], [], [], [], [], [], [], [], [], [], [], [], [], [], [], [], [], [], [], [], [], []], [], [[], [], [], [], [3], [2, 4], [5], [], [7], [], [9], [8, 10], [], [12], [11, 13], [6, 14], [], [], [17], [16, 18], [19], [15, 20], [], [22], [], [24], [23, 25], [], [27], [26, 28], [21, 29]], [0, 1, 30]⟩ [fun v w c => v = v_14, fun v w c => v = vI i2, fun v w c => v = v_14, fun v w c => v = vI i2, fun v w c => v = vI (W (i2 - (16 : Int))), fun v w c => Adr v_14 (W (i2 - (16 : Int))).toNat 1 v, fun v w c => v = vU32 e4, fun v w c => v = vU32 e2, fun v w c => v = vU32 r_1, fun v w c => v = vU32 e2, fun v w c => v = vU32 r_2, fun v w c => v = vU32 (r_1 ^^^ r_2), fun v w c => v = vU32 e2, fun v w c => v = vU32 (shr32 e2 3), fun v w c => v = vU32 ((r_1 ^^^ r_2) ^^^ (shr32 e2 3)), fun v w c => v = vU32 (e4 + ((r_1 ^^^ r_2) ^^^ (shr32 e2 3))), fun v w c => v = v_14, fun v w c => v = vI i2, fun v w c => v = vI (W (i2 - (7 : Int))), fun v w c => Adr v_14 (W (i2 - (7 : Int))).toNat 1 v, fun v w c => v = vU32 e5, fun v w c => v = vU32 ((e4 + ((r_1 ^^^ r_2) ^^^ (shr32 e2 3))) + e5), fun v w c => v = vU32 e3, fun v w c => v = vU32 r_3, fun v w c => v = vU32 e3, fun v w c => v = vU32 r_4, fun v w c => v = vU32 (r_3 ^^^ r_4), fun v w c => v = vU32 e3, fun v w c => v = vU32 (shr32 e3 10), fun v w c => v = vU32 ((r_3 ^^^ r_4) ^^^ (shr32 e3 10)), fun v w c => v = vU32 (((e4 + ((r_1 ^^^ r_2) ^^^ (shr32 e2 3))) + e5) + ((r_3 ^^^ r_4) ^^^ (shr32 e3 10)))] hmix (by kernel_rfl) (by kernel_rfl) ⟨?_, ?_, ?_, ?_, ?_, ?_, ?_, ?_, ?_, ?_, ?_, ?_, ?_, ?_, ?_, ?_, ?_, ?_, ?_, ?_, ?_, ?_, ?_, ?_, ?_, ?_, ?_, ?_, ?_, ?_, ?_, trivial⟩ ⟨fun _ _ _ _ _ _ h _ _ => h, fun _ _ _ _ _ _ h _ _ => h, fun _ _ _ _ _ _ h _ _ => h, fun _ _ _ _ _ _ h _ _ => h, fun _ _ _ _ _ _ h _ _ => h, fun _ _ _ _ _ _ h _ _ => h, fun _ _ _ _ _ _ h _ _ => h, fun _ _ _ _ _ _ h _ _ => h, fun _ _ _ _ _ _ h _ _ => h, fun _ _ _ _ _ _ h _ _ => h, fun _ _ _ _ _ _ h _ _ => h, fun _ _ _ _ _ _ h _ _ => h, fun _ _ _ _ _ _ h _ _ => h, fun _ _ _ _ _ _ h _ _ => h, fun _ _ _ _ _ _ h _ _ => h, fun _ _ _ _ _ _ h _ _ => h, fun _ _ _ _ _ _ h _ _ => h, fun _ _ _ _ _ _ h _ _ => h, fun _ _ _ _ _ _ h _ _ => h, fun _ _ _ _ _ _ h _ _ => h, fun _ _ _ _ _ _ h _ _ => h, fun _ _ _ _ _ _ h _ _ => h, fun _ _ _ _ _ _ h _ _ => h, fun _ _ _ _ _ _ h _ _ => h, fun _ _ _ _ _ _ h _ _ => h, fun _ _ _ _ _ _ h _ _ => h, fun _ _ _ _ _ _ h _ _ => h, fun _ _ _ _ _ _ h _ _ => h, fun _ _ _ _ _ _ h _ _ => h, fun _ _ _ _ _ _ h _ _ => h, fun _ _ _ _ _ _ h _ _ => h, trivial⟩ ?_
                  · rintro f_43 w_63 c_54 hB31 hs32 ⟨-⟩ o ho; obtain rfl : _ = o := Option.some.inj ho
                    exact OS.move (v := v_14) rfl ((hB31 9 (by kernel_rfl)).trans h75) ⟨_, St.refl, rfl⟩
                  · rintro f_44 w_64 c_55 hB32 hs33 ⟨-⟩ o ho; obtain rfl : _ = o := Option.some.inj ho
                    exact OS.move (v := vI i2) rfl ((hB32 12 (by kernel_rfl)).trans h76) ⟨_, St.refl, rfl⟩
                  · rintro f_45 w_65 c_56 hB33 hs34 ⟨-⟩ o ho; obtain rfl : _ = o := Option.some.inj ho
                    exact OS.move (v := v_14) rfl ((hB33 9 (by kernel_rfl)).trans h75) ⟨_, St.refl, rfl⟩
                  · rintro f_46 w_66 c_57 hB34 hs35 ⟨-⟩ o ho; obtain rfl : _ = o := Option.some.inj ho
                    exact OS.move (v := vI i2) rfl ((hB34 12 (by kernel_rfl)).trans h76) ⟨_, St.refl, rfl⟩
                  · rintro f_47 w_67 c_58 hB35 hs36 ⟨g29, -⟩ o ho; obtain rfl : _ = o := Option.some.inj ho
                    replace g29 : (f_47 107) = vI i2 := g29
                    exact OS.bin (a := vI i2) (b := vI (16 : Int)) rfl g29 rfl bI_sub ⟨_, St.refl, rfl⟩
                  · rintro f_48 w_68 c_59 hB36 hs37 ⟨g30, g31, -⟩ o ho; obtain rfl : _ = o := Option.some.inj ho
                    replace g30 : (f_48 106) = v_14 := g30
                    replace g31 : (f_48 108) = vI (W (i2 - (16 : Int))) := g31
                    have o43 := o36.keep (hs31.t hs37) (by decide)
                    exact OS.idx rfl Try.runUnderlying64 Try.sizeOf63 g30 o43.isSl g31 ha10 hb11 (fun _ h => ⟨_, St.refl, h⟩)
                  · rintro f_49 w_69 c_60 hB37 hs38 ⟨g32, -⟩ o ho; obtain rfl : _ = o := Option.some.inj ho
                    replace g32 : Adr v_14 (W (i2 - (16 : Int))).toNat 1 (f_49 109) := g32
                    have o44 := o36.keep (hs31.t hs38) (by decide)
                    exact OS.ld1 (u := vU32 e4) rfl Try.isAgg63 rfl (o44.ld g32 hc4) ⟨_, St.refl, rfl⟩
                  · rintro f_50 w_70 c_61 hB38 hs39 ⟨-⟩ o ho; obtain rfl : _ = o := Option.some.inj ho
                    exact OS.move (v := vU32 e2) rfl ((hB38 13 (by kernel_rfl)).trans g28) ⟨_, St.refl, rfl⟩
                  · rintro f_51 w_71 c_62 hB39 hs40 ⟨g33, -⟩ o ho; obtain rfl : _ = o := Option.some.inj ho
                    replace g33 : (f_51 111) = vU32 e2 := g33
                    refine OS.callF (vs := [vU32 e2, vI (7 : Int)]) rfl ⟨g33, rfl, trivial⟩ Try.call36 ((W36 K w_71 hr_1).mono ?_)
                    rintro _ w ⟨d, rfl, s⟩
                    exact ⟨_, rfl, _, s.merge id, rfl⟩
                  · rintro f_52 w_72 c_63 hB40 hs41 ⟨-⟩ o ho; obtain rfl : _ = o := Option.some.inj ho
                    exact OS.move (v := vU32 e2) rfl ((hB40 13 (by kernel_rfl)).trans g28) ⟨_, St.refl, rfl⟩
                  · rintro f_53 w_73 c_64 hB41 hs42 ⟨g34, -⟩ o ho; obtain rfl : _ = o := Option.some.inj ho
                    replace g34 : (f_53 113) = vU32 e2 := g34
                    refine OS.callF (vs := [vU32 e2, vI (18 : Int)]) rfl ⟨g34, rfl, trivial⟩ Try.call36 ((W36 K w_73 hr_2).mono ?_)
                    rintro _ w ⟨d, rfl, s⟩
                    exact ⟨_, rfl, _, s.merge id, rfl⟩
                  · rintro f_54 w_74 c_65 hB42 hs43 ⟨g35, g36, -⟩ o ho; obtain rfl : _ = o := Option.some.inj ho
                    replace g35 : (f_54 112) = vU32 r_1 := g35
                    replace g36 : (f_54 114) = vU32 r_2 := g36
                    exact OS.bin (a := vU32 r_1) (b := vU32 r_2) rfl g35 g36 b32_xor ⟨_, St.refl, rfl⟩
                  · rintro f_55 w_75 c_66 hB43 hs44 ⟨-⟩ o ho; obtain rfl : _ = o := Option.some.inj ho
                    exact OS.move (v := vU32 e2) rfl ((hB43 13 (by kernel_rfl)).trans g28) ⟨_, St.refl, rfl⟩
                  · rintro f_56 w_76 c_67 hB44 hs45 ⟨g37, -⟩ o ho; obtain rfl : _ = o := Option.some.inj ho
                    replace g37 : (f_56 116) = vU32 e2 := g37
                    exact OS.bin (a := vU32 e2) (b := vU64 (3 : UInt64)) rfl g37 (by kernel_rfl) (b32_shr (by decide)) ⟨_, St.refl, rfl⟩
                  · rintro f_57 w_77 c_68 hB45 hs46 ⟨g38, g39, -⟩ o ho; obtain rfl : _ = o := Option.some.inj ho
                    replace g38 : (f_57 115) = vU32 (r_1 ^^^ r_2) := g38
                    replace g39 : (f_57 117) = vU32 (shr32 e2 3) := g39
                    exact OS.bin (a := vU32 (r_1 ^^^ r_2)) (b := vU32 (shr32 e2 3)) rfl g38 g39 b32_xor ⟨_, St.refl, rfl⟩
                  · rintro f_58 w_78 c_69 hB46 hs47 ⟨g40, g41, -⟩ o ho; obtain rfl : _ = o := Option.some.inj ho
                    replace g40 : (f_58 110) = vU32 e4 := g40
                    replace g41 : (f_58 118) = vU32 ((r_1 ^^^ r_2) ^^^ (shr32 e2 3)) := g41
                    exact OS.bin (a := vU32 e4) (b := vU32 ((r_1 ^^^ r_2) ^^^ (shr32 e2 3))) rfl g40 g41 b32_add ⟨_, St.refl, rfl⟩
                  · rintro f_59 w_79 c_70 hB47 hs48 ⟨-⟩ o ho; obtain rfl : _ = o := Option.some.inj ho
                    exact OS.move (v := v_14) rfl ((hB47 9 (by kernel_rfl)).trans h75) ⟨_, St.refl, rfl⟩
                  · rintro f_60 w_80 c_71 hB48 hs49 ⟨-⟩ o ho; obtain rfl : _ = o := Option.some.inj ho
                    exact OS.move (v := vI i2) rfl ((hB48 12 (by kernel_rfl)).trans h76) ⟨_, St.refl, rfl⟩
                  · rintro f_61 w_81 c_72 hB49 hs50 ⟨g42, -⟩ o ho; obtain rfl : _ = o := Option.some.inj ho
                    replace g42 : (f_61 121) = vI i2 := g42
                    exact OS.bin (a := vI i2) (b := vI (7 : Int)) rfl g42 rfl bI_sub ⟨_, St.refl, rfl⟩
                  · rintro f_62 w_82 c_73 hB50 hs51 ⟨g43, g44, -⟩ o ho; obtain rfl : _ = o := Option.some.inj ho
                    replace g43 : (f_62 120) = v_14 := g43
                    replace g44 : (f_62 122) = vI (W (i2 - (7 : Int))) := g44
                    have o45 := o36.keep (hs31.t hs51) (by decide)
                    exact OS.idx rfl Try.runUnderlying64 Try.sizeOf63 g43 o45.isSl g44 ha11 hb12 (fun _ h => ⟨_, St.refl, h⟩)
                  · rintro f_63 w_83 c_74 hB51 hs52 ⟨g45, -⟩ o ho; obtain rfl : _ = o := Option.some.inj ho
                    replace g45 : Adr v_14 (W (i2 - (7 : Int))).toNat 1 (f_63 123) := g45
                    have o46 := o36.keep (hs31.t hs52) (by decide)
                    exact OS.ld1 (u := vU32 e5) rfl Try.isAgg63 rfl (o46.ld g45 hc5) ⟨_, St.refl, rfl⟩
                  · rintro f_64 w_84 c_75 hB52 hs53 ⟨g46, g47, -⟩ o ho; obtain rfl : _ = o := Option.some.inj ho
                    replace g46 : (f_64 119) = vU32 (e4 + ((r_1 ^^^ r_2) ^^^ (shr32 e2 3))) := g46
                    replace g47 : (f_64 124) = vU32 e5 := g47
                    exact OS.bin (a := vU32 (e4 + ((r_1 ^^^ r_2) ^^^ (shr32 e2 3)))) (b := vU32 e5) rfl g46 g47 b32_add ⟨_, St.refl, rfl⟩
                  · rintro f_65 w_85 c_76 hB53 hs54 ⟨-⟩ o ho; obtain rfl : _ = o := Option.some.inj ho
                    exact OS.move (v := vU32 e3) rfl ((hB53 14 (by kernel_rfl)).trans rfl) ⟨_, St.refl, rfl⟩
                  · rintro f_66 w_86 c_77 hB54 hs55 ⟨g48, -⟩ o ho; obtain rfl : _ = o := Option.some.inj ho
                    replace g48 : (f_66 126) = vU32 e3 := g48
                    refine OS.callF (vs := [vU32 e3, vI (17 : Int)]) rfl ⟨g48, rfl, trivial⟩ Try.call36 ((W36 K w_86 hr_3).mono ?_)
                    rintro _ w ⟨d, rfl, s⟩
                    exact ⟨_, rfl, _, s.merge id, rfl⟩
                  · rintro f_67 w_87 c_78 hB55 hs56 ⟨-⟩ o ho; obtain rfl : _ = o := Option.some.inj ho
                    exact OS.move (v := vU32 e3) rfl ((hB55 14 (by kernel_rfl)).trans rfl) ⟨_, St.refl, rfl⟩
                  · rintro f_68 w_88 c_79 hB56 hs57 ⟨g49, -⟩ o ho; obtain rfl : _ = o := Option.some.inj ho
                    replace g49 : (f_68 128) = vU32 e3 := g49
                    refine OS.callF (vs := [vU32 e3, vI (19 : Int)]) rfl ⟨g49, rfl, trivial⟩ Try.call36 ((W36 K w_88 hr_4).mono ?_)
                    rintro _ w ⟨d, rfl, s⟩
                    exact ⟨_, rfl, _, s.merge id, rfl⟩
                  · rintro f_69 w_89 c_80 hB57 hs58 ⟨g50, g51, -⟩ o ho; obtain rfl : _ = o := Option.some.inj ho
                    replace g50 : (f_69 127) = vU32 r_3 := g50
                    replace g51 : (f_69 129) = vU32 r_4 := g51
                    exact OS.bin (a := vU32 r_3) (b := vU32 r_4) rfl g50 g51 b32_xor ⟨_, St.refl, rfl⟩
                  · rintro f_70 w_90 c_81 hB58 hs59 ⟨-⟩ o ho; obtain rfl : _ = o := Option.some.inj ho
                    exact OS.move (v := vU32 e3) rfl ((hB58 14 (by kernel_rfl)).trans rfl) ⟨_, St.refl, rfl⟩
                  · rintro f_71 w_91 c_82 hB59 hs60 ⟨g52, -⟩ o ho; obtain rfl : _ = o := Option.some.inj ho
                    replace g52 : (f_71 131) = vU32 e3 := g52
                    exact OS.bin (a := vU32 e3) (b := vU64 (10 : UInt64)) rfl g52 (by kernel_rfl) (b32_shr (by decide)) ⟨_, St.refl, rfl⟩
                  · rintro f_72 w_92 c_83 hB60 hs61 ⟨g53, g54, -⟩ o ho; obtain rfl : _ = o := Option.some.inj ho
                    replace g53 : (f_72 130) = vU32 (r_3 ^^^ r_4) := g53
                    replace g54 : (f_72 132) = vU32 (shr32 e3 10) := g54
                    exact OS.bin (a := vU32 (r_3 ^^^ r_4)) (b := vU32 (shr32 e3 10)) rfl g53 g54 b32_xor ⟨_, St.refl, rfl⟩
                  · rintro f_73 w_93 c_84 hB61 hs62 ⟨g55, g56, -⟩ o ho; obtain rfl : _ = o := Option.some.inj ho
                    replace g55 : (f_73 125) = vU32 ((e4 + ((r_1 ^^^ r_2) ^^^ (shr32 e2 3))) + e5) := g55
                    replace g56 : (f_73 133) = vU32 ((r_3 ^^^ r_4) ^^^ (shr32 e3 10)) := g56
                    exact OS.bin (a := vU32 ((e4 + ((r_1 ^^^ r_2) ^^^ (shr32 e2 3))) + e5)) (b := vU32 ((r_3 ^^^ r_4) ^^^ (shr32 e3 10))) rfl g55 g56 b32_add ⟨_, St.refl, rfl⟩
                  · rintro f_74 w_94 c_85 hB62 hs63 ⟨g57, g58, g59, -⟩
                    have h77 := (hB62 2 (by kernel_rfl)).trans h70
                    have h78 := (hB62 3 (by kernel_rfl)).trans h71
                    have h79 := (hB62 4 (by kernel_rfl)).trans h72
                    have h80 := (hB62 5 (by kernel_rfl)).trans h73
                    have h81 := (hB62 8 (by kernel_rfl)).trans h74
                    have h82 := (hB62 9 (by kernel_rfl)).trans h75
                    have h83 := (hB62 12 (by kernel_rfl)).trans h76
                    replace g57 : (f_74 104) = v_14 := g57
                    replace g58 : (f_74 105) = vI i2 := g58
                    replace g59 : (f_74 134) = vU32 (((e4 + ((r_1 ^^^ r_2) ^^^ (shr32 e2 3))) + e5) + ((r_3 ^^^ r_4) ^^^ (shr32 e3 10))) := g59
                    have o47 := o36.keep (hs31.t hs63) (by decide)
                    obtain ⟨u1, hu1, hl9⟩ := bind_some hl9
                    obtain ⟨ha12, hb13⟩ := req_some hu1
                    refine WR.k rfl rfl rfl (OS.idx rfl Try.runUnderlying64 Try.sizeOf63 g57 o47.isSl g58 ha12 hb13 ?_); intro p_2 a8
                    obtain ⟨w_95, hw_95, hl9⟩ := bind_some hl9
                    replace hw_95 := (Option.some.inj hw_95).symm
                    refine WR.k0 rfl rfl (OS.stOwn (q := ((e4 + ((r_1 ^^^ r_2) ^^^ (shr32 e2 3))) + e5) + ((r_3 ^^^ r_4) ^^^ (shr32 e3 10))) (u := vU32 (((e4 + ((r_1 ^^^ r_2) ^^^ (shr32 e2 3))) + e5) + ((r_3 ^^^ r_4) ^^^ (shr32 e3 10)))) rfl Try.sizeOf63 rfl g59 o47 rfl a8 (by omega) rfl ?_); intro w_96 o48 s23
                    replace o48 : Ow E63 92 w_96 c_85 v_14 w_95 := by rw [hw_95]; exact o48
                    refine WR.nil ?_
                    refine WC.region ?_
                    refine WR.k rfl rfl rfl (OS.move (v := vI i2) rfl h83 ?_)
                    refine WR.k rfl rfl rfl (OS.bin (a := vI i2) (b := vI (1 : Int)) rfl rfl rfl bI_add ?_)
                    refine WR.k rfl rfl rfl (OS.assign (v := vI (W (i2 + (1 : Int)))) rfl rfl ?_)
                    refine WR.nil ?_
                    exact ⟨k, by omega, _, _, _, hl9, h77, h78, h79, h80, h81, h82, o48, rfl, (((s22.t hs31).t hs63).t s23).mono (by decide)⟩
              · rw [if_neg (nt hb8)] at hl9
                refine WC.exit ?_
                cases hl9
                exact ⟨_, h63, h64, h65, h66, h67, h68, o36, s22.mono (by decide)⟩
            · rintro f_29 w_49 ⟨c_40, h84, h85, h86, h87, h88, h89, o37, s24⟩
              refine WC.seq (WC.region ?_)
              refine WR.k rfl rfl rfl (OS.assign (v := (.slice none 0 0)) rfl rfl ?_)
              refine WR.nil ?_
              refine WC.seq (WC.region ?_)
              refine WR.k rfl rfl rfl (OS.move (v := (.slice none 0 0)) rfl rfl ?_)
              refine WR.k rfl rfl rfl (OS.move (v := v_1) rfl h85 ?_)
              have o49 := o20.keep ((s16.t s21).t s24) (by decide)
              obtain ⟨xs2, hxs2, hl6⟩ := bind_some hl6
              obtain ⟨ha13, hxs2⟩ := app_some hxs2
              refine WR.k rfl rfl rfl (OS.append (E := E63) (c := c_40) (i := 108) (xs := ([] : List UInt32)) (ys := h20) rfl Try.underlying64 Try.underlying64 (.inl rfl) I63 rfl rfl rfl rfl rfl Ow.nil o49.vw.src (lim_bytes (by decide) ha13) (lim_max (b := 4) (by decide) ha13) ?_); intro v_15 w_97 c_86 o50 s25
              replace o50 : Ow E63 108 w_97 c_86 v_15 xs2 := by rw [hxs2]; exact o50
              refine WR.k rfl rfl rfl (OS.assign (v := v_15) rfl rfl ?_)
              refine WR.nil ?_
              refine WC.seq ?_
              refine WC.seq (WC.region ?_)
              refine WR.k rfl rfl rfl (OS.assign (v := vI (0 : Int)) rfl rfl ?_)
              refine WR.nil ?_
              obtain ⟨q6, hl10, hl6⟩ := bind_some hl6
              obtain ⟨v_18, hx⟩ : ∃ z, z = q6 := ⟨_, rfl⟩; subst hx
              refine WC.blockJ2 (fun f_75 w_98 => ∃ (v_19 : Value) (c_87 : Col), f_75 2 = p_ ∧ f_75 3 = v_1 ∧ f_75 4 = v_2 ∧ f_75 5 = v_11 ∧ f_75 8 = vI at_ ∧ f_75 15 = v_19 ∧ Ow E63 111 w_98 c_87 v_19 v_18 ∧ St [108, 113, 117] w_97 c_86 w_98 c_87) ?_ ?_
              · obtain ⟨c_89, s26, o53⟩ := o50.recol 113
                refine WC.loop (fun n => fun f_76 w_99 => ∃ (v_16 : List UInt32) (i3 : Int) (v_17 : Value) (c_88 : Col), holdfastref07_Sum.l7 K n r_ w_48 v_16 i3 = some v_18 ∧ f_76 2 = p_ ∧ f_76 3 = v_1 ∧ f_76 4 = v_2 ∧ f_76 5 = v_11 ∧ f_76 8 = vI at_ ∧ f_76 9 = v_14 ∧ f_76 15 = v_17 ∧ Ow E63 113 w_99 c_88 v_17 v_16 ∧ f_76 16 = vI i3 ∧ St [108, 117] w_97 c_86 w_99 c_88) K ⟨_, _, _, _, hl10, h84, h85, h86, h87, h88, h89, rfl, o53, rfl, s26.mono (by decide)⟩ ?_
                rintro n f_76 w_99 ⟨v_16, i3, v_17, c_88, hl10, h90, h91, h92, h93, h94, h95, h96, o51, h97, s27⟩
                cases n with
                | zero => exact absurd hl10 (by simp [holdfastref07_Sum.l7])
                | succ k =>
                rw [holdfastref07_Sum.l7] at hl10
                refine WC.seq ?_
                refine WC.seq (WC.region ?_)
                refine WR.k rfl rfl rfl (OS.move (v := vI i3) rfl h97 ?_)
                refine WR.k rfl rfl rfl (OS.bin (a := vI i3) (b := vI (64 : Int)) rfl rfl rfl bI_lss ?_)
                refine WR.nil ?_
                refine WC.cond (decide (i3 < (64 : Int))) rfl (fun hb14 => ?_) (fun hb14 => ?_)
                · rw [if_pos hb14] at hl10
                  refine WC.skip ?_
                  refine WC.seq ?_
                  refine WC.block ?_
                  obtain ⟨e6, he6, hl10⟩ := bind_some hl10
                  obtain ⟨ha14, hb15, hc6⟩ := gt_some he6
                  obtain ⟨r_5, hr_5, hl10⟩ := bind_some hl10
                  obtain ⟨e7, he7, hl10⟩ := bind_some hl10
                  obtain ⟨ha15, hb16, hc7⟩ := gt_some he7
                  obtain ⟨r_6, hr_6, hl10⟩ := bind_some hl10
                  obtain ⟨e8, he8, hl10⟩ := bind_some hl10
                  obtain ⟨ha16, hb17, hc8⟩ := gt_some he8
                  obtain ⟨r_7, hr_7, hl10⟩ := bind_some hl10
                  refine WC.seq (WC.draw (c := c_88) ⟨13, [[1], [1], [1], [1], [1], [1], [1], [1], [1], [1], [1], [1], [1]], [[], [], [], [], [], [], [], [], [], [], [], [], []], [], [[], [0], [1], [2], [], [4], [5], [6], [3, 7], [], [9], [10], [11]], [8, 12]⟩ [fun v w c => v = v_17, fun v w c => Adr v_17 ((4 : Int)).toNat 1 v, fun v w c => v = vU32 e6, fun v w c => v = vU32 r_5, fun v w c => v = v_17, fun v w c => Adr v_17 ((4 : Int)).toNat 1 v, fun v w c => v = vU32 e7, fun v w c => v = vU32 r_6, fun v w c => v = vU32 (r_5 ^^^ r_6), fun v w c => v = v_17, fun v w c => Adr v_17 ((4 : Int)).toNat 1 v, fun v w c => v = vU32 e8, fun v w c => v = vU32 r_7] hmix (by kernel_rfl) (by kernel_rfl) ⟨?_, ?_, ?_, ?_, ?_, ?_, ?_, ?_, ?_, ?_, ?_, ?_, ?_, trivial⟩ ⟨fun _ _ _ _ _ _ h _ _ => h, fun _ _ _ _ _ _ h _ _ => h, fun _ _ _ _ _ _ h _ _ => h, fun _ _ _ _ _ _ h _ _ => h, fun _ _ _ _ _ _ h _ _ => h, fun _ _ _ _ _ _ h _ _ => h, fun _ _ _ _ _ _ h _ _ => h, fun _ _ _ _ _ _ h _ _ => h, fun _ _ _ _ _ _ h _ _ => h, fun _ _ _ _ _ _ h _ _ => h, fun _ _ _ _ _ _ h _ _ => h, fun _ _ _ _ _ _ h _ _ => h, fun _ _ _ _ _ _ h _ _ => h, trivial⟩ ?_)
                  · rintro f_77 w_100 c_90 hB63 hs64 ⟨-⟩ o ho; obtain rfl : _ = o := Option.some.inj ho
                    exact OS.move (v := v_17) rfl ((hB63 15 (by kernel_rfl)).trans h96) ⟨_, St.refl, rfl⟩
                  · rintro f_78 w_101 c_91 hB64 hs65 ⟨g60, -⟩ o ho; obtain rfl : _ = o := Option.some.inj ho
                    replace g60 : (f_78 143) = v_17 := g60
                    have o54 := o51.keep hs65 (by decide)
                    exact OS.idx rfl Try.runUnderlying64 Try.sizeOf63 g60 o54.isSl rfl ha14 hb15 (fun _ h => ⟨_, St.refl, h⟩)
                  · rintro f_79 w_102 c_92 hB65 hs66 ⟨g61, -⟩ o ho; obtain rfl : _ = o := Option.some.inj ho
                    replace g61 : Adr v_17 ((4 : Int)).toNat 1 (f_79 144) := g61
                    have o55 := o51.keep hs66 (by decide)
                    exact OS.ld1 (u := vU32 e6) rfl Try.isAgg63 rfl (o55.ld g61 hc6) ⟨_, St.refl, rfl⟩
                  · rintro f_80 w_103 c_93 hB66 hs67 ⟨g62, -⟩ o ho; obtain rfl : _ = o := Option.some.inj ho
                    replace g62 : (f_80 145) = vU32 e6 := g62
                    refine OS.callF (vs := [vU32 e6, vI (6 : Int)]) rfl ⟨g62, rfl, trivial⟩ Try.call36 ((W36 K w_103 hr_5).mono ?_)
                    rintro _ w ⟨d, rfl, s⟩
                    exact ⟨_, rfl, _, s.merge id, rfl⟩
                  · rintro f_81 w_104 c_94 hB67 hs68 ⟨-⟩ o ho; obtain rfl : _ = o := Option.some.inj ho
                    exact OS.move (v := v_17) rfl ((hB67 15 (by kernel_rfl)).trans h96) ⟨_, St.refl, rfl⟩
                  · rintro f_82 w_105 c_95 hB68 hs69 ⟨g63, -⟩ o ho; obtain rfl : _ = o := Option.some.inj ho
                    replace g63 : (f_82 147) = v_17 := g63
                    have o56 := o51.keep hs69 (by decide)
                    exact OS.idx rfl Try.runUnderlying64 Try.sizeOf63 g63 o56.isSl rfl ha15 hb16 (fun _ h => ⟨_, St.refl, h⟩)
                  · rintro f_83 w_106 c_96 hB69 hs70 ⟨g64, -⟩ o ho; obtain rfl : _ = o := Option.some.inj ho
                    replace g64 : Adr v_17 ((4 : Int)).toNat 1 (f_83 148) := g64
                    have o57 := o51.keep hs70 (by decide)
                    exact OS.ld1 (u := vU32 e7) rfl Try.isAgg63 rfl (o57.ld g64 hc7) ⟨_, St.refl, rfl⟩
                  · rintro f_84 w_107 c_97 hB70 hs71 ⟨g65, -⟩ o ho; obtain rfl : _ = o := Option.some.inj ho
                    replace g65 : (f_84 149) = vU32 e7 := g65
                    refine OS.callF (vs := [vU32 e7, vI (11 : Int)]) rfl ⟨g65, rfl, trivial⟩ Try.call36 ((W36 K w_107 hr_6).mono ?_)
                    rintro _ w ⟨d, rfl, s⟩
                    exact ⟨_, rfl, _, s.merge id, rfl⟩
                  · rintro f_85 w_108 c_98 hB71 hs72 ⟨g66, g67, -⟩ o ho; obtain rfl : _ = o := Option.some.inj ho
                    replace g66 : (f_85 146) = vU32 r_5 := g66
                    replace g67 : (f_85 150) = vU32 r_6 := g67
                    exact OS.bin (a := vU32 r_5) (b := vU32 r_6) rfl g66 g67 b32_xor ⟨_, St.refl, rfl⟩
                  · rintro f_86 w_109 c_99 hB72 hs73 ⟨-⟩ o ho; obtain rfl : _ = o := Option.some.inj ho
                    exact OS.move (v := v_17) rfl ((hB72 15 (by kernel_rfl)).trans h96) ⟨_, St.refl, rfl⟩
                  · rintro f_87 w_110 c_100 hB73 hs74 ⟨g68, -⟩ o ho; obtain rfl : _ = o := Option.some.inj ho
                    replace g68 : (f_87 152) = v_17 := g68
                    have o58 := o51.keep hs74 (by decide)
                    exact OS.idx rfl Try.runUnderlying64 Try.sizeOf63 g68 o58.isSl rfl ha16 hb17 (fun _ h => ⟨_, St.refl, h⟩)
                  · rintro f_88 w_111 c_101 hB74 hs75 ⟨g69, -⟩ o ho; obtain rfl : _ = o := Option.some.inj ho
                    replace g69 : Adr v_17 ((4 : Int)).toNat 1 (f_88 153) := g69
                    have o59 := o51.keep hs75 (by decide)
                    exact OS.ld1 (u := vU32 e8) rfl Try.isAgg63 rfl (o59.ld g69 hc8) ⟨_, St.refl, rfl⟩
                  · rintro f_89 w_112 c_102 hB75 hs76 ⟨g70, -⟩ o ho; obtain rfl : _ = o := Option.some.inj ho
                    replace g70 : (f_89 154) = vU32 e8 := g70
                    refine OS.callF (vs := [vU32 e8, vI (25 : Int)]) rfl ⟨g70, rfl, trivial⟩ Try.call36 ((W36 K w_112 hr_7).mono ?_)
                    rintro _ w ⟨d, rfl, s⟩
                    exact ⟨_, rfl, _, s.merge id, rfl⟩
                  · rintro f_90 w_113 c_103 hB76 hs77 ⟨g71, g72, -⟩
                    have h98 := (hB76 2 (by kernel_rfl)).trans h90
                    have h99 := (hB76 3 (by kernel_rfl)).trans h91
                    have h100 := (hB76 4 (by kernel_rfl)).trans h92
                    have h101 := (hB76 5 (by kernel_rfl)).trans h93
                    have h102 := (hB76 8 (by kernel_rfl)).trans h94
                    have h103 := (hB76 9 (by kernel_rfl)).trans h95
                    have h104 := (hB76 15 (by kernel_rfl)).trans h96
                    have h105 := (hB76 16 (by kernel_rfl)).trans h97
                    replace g71 : (f_90 151) = vU32 (r_5 ^^^ r_6) := g71
                    replace g72 : (f_90 155) = vU32 r_7 := g72
                    refine WR.k rfl rfl rfl (OS.bin (a := vU32 (r_5 ^^^ r_6)) (b := vU32 r_7) rfl g71 g72 b32_xor ?_)
                    refine WR.k rfl rfl rfl (OS.assign (v := vU32 ((r_5 ^^^ r_6) ^^^ r_7)) rfl rfl ?_)
                    refine WR.nil ?_
                    have o60 := o51.keep hs77 (by decide)
                    obtain ⟨e9, he9, hl10⟩ := bind_some hl10
                    obtain ⟨ha17, hb18, hc9⟩ := gt_some he9
                    obtain ⟨e10, he10, hl10⟩ := bind_some hl10
                    obtain ⟨ha18, hb19, hc10⟩ := gt_some he10
                    obtain ⟨e11, he11, hl10⟩ := bind_some hl10
                    obtain ⟨ha19, hb20, hc11⟩ := gt_some he11
                    obtain ⟨e12, he12, hl10⟩ := bind_some hl10
                    obtain ⟨ha20, hb21, hc12⟩ := gt_some he12
                    refine WC.seq (WC.draw (c := c_103) ⟨15, [[1], [1], [1], [1], [1], [1], [1], [1], [1], [1], [1], [1], [1], [1], [1]], [[], [], [], [], [], [], [], [], [], [], [], [], [], [], []], [], [[], [0], [1], [], [3], [4], [2, 5], [], [7], [8], [9], [], [11], [12], [10, 13]], [6, 14]⟩ [fun v w c => v = v_17, fun v w c => Adr v_17 ((4 : Int)).toNat 1 v, fun v w c => v = vU32 e9, fun v w c => v = v_17, fun v w c => Adr v_17 ((5 : Int)).toNat 1 v, fun v w c => v = vU32 e10, fun v w c => v = vU32 (e9 &&& e10), fun v w c => v = v_17, fun v w c => Adr v_17 ((4 : Int)).toNat 1 v, fun v w c => v = vU32 e11, fun v w c => v = vU32 (~~~e11), fun v w c => v = v_17, fun v w c => Adr v_17 ((6 : Int)).toNat 1 v, fun v w c => v = vU32 e12, fun v w c => v = vU32 ((~~~e11) &&& e12)] hmix (by kernel_rfl) (by kernel_rfl) ⟨?_, ?_, ?_, ?_, ?_, ?_, ?_, ?_, ?_, ?_, ?_, ?_, ?_, ?_, ?_, trivial⟩ ⟨fun _ _ _ _ _ _ h _ _ => h, fun _ _ _ _ _ _ h _ _ => h, fun _ _ _ _ _ _ h _ _ => h, fun _ _ _ _ _ _ h _ _ => h, fun _ _ _ _ _ _ h _ _ => h, fun _ _ _ _ _ _ h _ _ => h, fun _ _ _ _ _ _ h _ _ => h, fun _ _ _ _ _ _ h _ _ => h, fun _ _ _ _ _ _ h _ _ => h, fun _ _ _ _ _ _ h _ _ => h, fun _ _ _ _ _ _ h _ _ => h, fun _ _ _ _ _ _ h _ _ => h, fun _ _ _ _ _ _ h _ _ => h, fun _ _ _ _ _ _ h _ _ => h, fun _ _ _ _ _ _ h _ _ => h, trivial⟩ ?_)
                    · rintro f_91 w_114 c_104 hB77 hs78 ⟨-⟩ o ho; obtain rfl : _ = o := Option.some.inj ho
                      exact OS.move (v := v_17) rfl ((hB77 15 (by kernel_rfl)).trans h104) ⟨_, St.refl, rfl⟩
                    · rintro f_92 w_115 c_105 hB78 hs79 ⟨g73, -⟩ o ho; obtain rfl : _ = o := Option.some.inj ho
                      replace g73 : (f_92 157) = v_17 := g73
                      have o61 := o51.keep (hs77.t hs79) (by decide)
                      exact OS.idx rfl Try.runUnderlying64 Try.sizeOf63 g73 o61.isSl rfl ha17 hb18 (fun _ h => ⟨_, St.refl, h⟩)
                    · rintro f_93 w_116 c_106 hB79 hs80 ⟨g74, -⟩ o ho; obtain rfl : _ = o := Option.some.inj ho
                      replace g74 : Adr v_17 ((4 : Int)).toNat 1 (f_93 158) := g74
                      have o62 := o51.keep (hs77.t hs80) (by decide)
                      exact OS.ld1 (u := vU32 e9) rfl Try.isAgg63 rfl (o62.ld g74 hc9) ⟨_, St.refl, rfl⟩
                    · rintro f_94 w_117 c_107 hB80 hs81 ⟨-⟩ o ho; obtain rfl : _ = o := Option.some.inj ho
                      exact OS.move (v := v_17) rfl ((hB80 15 (by kernel_rfl)).trans h104) ⟨_, St.refl, rfl⟩
                    · rintro f_95 w_118 c_108 hB81 hs82 ⟨g75, -⟩ o ho; obtain rfl : _ = o := Option.some.inj ho
                      replace g75 : (f_95 160) = v_17 := g75
                      have o63 := o51.keep (hs77.t hs82) (by decide)
                      exact OS.idx rfl Try.runUnderlying64 Try.sizeOf63 g75 o63.isSl rfl ha18 hb19 (fun _ h => ⟨_, St.refl, h⟩)
                    · rintro f_96 w_119 c_109 hB82 hs83 ⟨g76, -⟩ o ho; obtain rfl : _ = o := Option.some.inj ho
                      replace g76 : Adr v_17 ((5 : Int)).toNat 1 (f_96 161) := g76
                      have o64 := o51.keep (hs77.t hs83) (by decide)
                      exact OS.ld1 (u := vU32 e10) rfl Try.isAgg63 rfl (o64.ld g76 hc10) ⟨_, St.refl, rfl⟩
                    · rintro f_97 w_120 c_110 hB83 hs84 ⟨g77, g78, -⟩ o ho; obtain rfl : _ = o := Option.some.inj ho
                      replace g77 : (f_97 159) = vU32 e9 := g77
                      replace g78 : (f_97 162) = vU32 e10 := g78
                      exact OS.bin (a := vU32 e9) (b := vU32 e10) rfl g77 g78 b32_and ⟨_, St.refl, rfl⟩
                    · rintro f_98 w_121 c_111 hB84 hs85 ⟨-⟩ o ho; obtain rfl : _ = o := Option.some.inj ho
                      exact OS.move (v := v_17) rfl ((hB84 15 (by kernel_rfl)).trans h104) ⟨_, St.refl, rfl⟩
                    · rintro f_99 w_122 c_112 hB85 hs86 ⟨g79, -⟩ o ho; obtain rfl : _ = o := Option.some.inj ho
                      replace g79 : (f_99 164) = v_17 := g79
                      have o65 := o51.keep (hs77.t hs86) (by decide)
                      exact OS.idx rfl Try.runUnderlying64 Try.sizeOf63 g79 o65.isSl rfl ha19 hb20 (fun _ h => ⟨_, St.refl, h⟩)
                    · rintro f_100 w_123 c_113 hB86 hs87 ⟨g80, -⟩ o ho; obtain rfl : _ = o := Option.some.inj ho
                      replace g80 : Adr v_17 ((4 : Int)).toNat 1 (f_100 165) := g80
                      have o66 := o51.keep (hs77.t hs87) (by decide)
                      exact OS.ld1 (u := vU32 e11) rfl Try.isAgg63 rfl (o66.ld g80 hc11) ⟨_, St.refl, rfl⟩
                    · rintro f_101 w_124 c_114 hB87 hs88 ⟨g81, -⟩ o ho; obtain rfl : _ = o := Option.some.inj ho
                      replace g81 : (f_101 166) = vU32 e11 := g81
                      exact OS.xor32 rfl g81 ⟨_, St.refl, rfl⟩
                    · rintro f_102 w_125 c_115 hB88 hs89 ⟨-⟩ o ho; obtain rfl : _ = o := Option.some.inj ho
                      exact OS.move (v := v_17) rfl ((hB88 15 (by kernel_rfl)).trans h104) ⟨_, St.refl, rfl⟩
                    · rintro f_103 w_126 c_116 hB89 hs90 ⟨g82, -⟩ o ho; obtain rfl : _ = o := Option.some.inj ho
                      replace g82 : (f_103 168) = v_17 := g82
                      have o67 := o51.keep (hs77.t hs90) (by decide)
                      exact OS.idx rfl Try.runUnderlying64 Try.sizeOf63 g82 o67.isSl rfl ha20 hb21 (fun _ h => ⟨_, St.refl, h⟩)
                    · rintro f_104 w_127 c_117 hB90 hs91 ⟨g83, -⟩ o ho; obtain rfl : _ = o := Option.some.inj ho
                      replace g83 : Adr v_17 ((6 : Int)).toNat 1 (f_104 169) := g83
                      have o68 := o51.keep (hs77.t hs91) (by decide)
                      exact OS.ld1 (u := vU32 e12) rfl Try.isAgg63 rfl (o68.ld g83 hc12) ⟨_, St.refl, rfl⟩
                    · rintro f_105 w_128 c_118 hB91 hs92 ⟨g84, g85, -⟩ o ho; obtain rfl : _ = o := Option.some.inj ho
                      replace g84 : (f_105 167) = vU32 (~~~e11) := g84
                      replace g85 : (f_105 170) = vU32 e12 := g85
                      exact OS.bin (a := vU32 (~~~e11)) (b := vU32 e12) rfl g84 g85 b32_and ⟨_, St.refl, rfl⟩
                    · rintro f_106 w_129 c_119 hB92 hs93 ⟨g86, g87, -⟩
                      have h106 := (hB92 2 (by kernel_rfl)).trans h98
                      have h107 := (hB92 3 (by kernel_rfl)).trans h99
                      have h108 := (hB92 4 (by kernel_rfl)).trans h100
                      have h109 := (hB92 5 (by kernel_rfl)).trans h101
                      have h110 := (hB92 8 (by kernel_rfl)).trans h102
                      have h111 := (hB92 9 (by kernel_rfl)).trans h103
                      have h112 := (hB92 15 (by kernel_rfl)).trans h104
                      have h113 := (hB92 16 (by kernel_rfl)).trans h105
                      have h114 := (hB92 17 (by kernel_rfl)).trans (show _ = vU32 ((r_5 ^^^ r_6) ^^^ r_7) from rfl)
                      replace g86 : (f_106 163) = vU32 (e9 &&& e10) := g86
                      replace g87 : (f_106 171) = vU32 ((~~~e11) &&& e12) := g87
                      refine WR.k rfl rfl rfl (OS.bin (a := vU32 (e9 &&& e10)) (b := vU32 ((~~~e11) &&& e12)) rfl g86 g87 b32_xor ?_)
                      refine WR.k rfl rfl rfl (OS.assign (v := vU32 ((e9 &&& e10) ^^^ ((~~~e11) &&& e12))) rfl rfl ?_)
                      refine WR.nil ?_
                      have o69 := o51.keep (hs77.t hs93) (by decide)
                      obtain ⟨e13, he13, hl10⟩ := bind_some hl10
                      obtain ⟨ha21, hb22, hc13⟩ := gt_some he13
                      have o70 := o3.keep ((((((((((((s4.t s5).t s6).t s10).t s14).t s15).t s16).t s21).t s24).t s25).t s27).t hs77).t hs93) (by decide)
                      obtain ⟨e14, he14, hl10⟩ := bind_some hl10
                      obtain ⟨ha22, hb23, hc14⟩ := gt_some he14
                      have o71 := o37.keep (((s25.t s27).t hs77).t hs93) (by decide)
                      obtain ⟨e15, he15, hl10⟩ := bind_some hl10
                      obtain ⟨ha23, hb24, hc15⟩ := gt_some he15
                      refine WC.seq (WC.draw (c := c_119) ⟨16, [[1], [1], [1], [1], [1], [1], [1], [1], [1], [1], [1], [1], [1], [1], [1], [1]], [[], [], [], [], [], [], [], [], [], [], [], [], [], [], [], []], [], [[], [0], [1], [], [2, 3], [], [4, 5], [], [], [7, 8], [9], [6, 10], [], [], [12, 13], [14]], [11, 15]⟩ [fun v w c => v = v_17, fun v w c => Adr v_17 ((7 : Int)).toNat 1 v, fun v w c => v = vU32 e13, fun v w c => v = vU32 ((r_5 ^^^ r_6) ^^^ r_7), fun v w c => v = vU32 (e13 + ((r_5 ^^^ r_6) ^^^ r_7)), fun v w c => v = vU32 ((e9 &&& e10) ^^^ ((~~~e11) &&& e12)), fun v w c => v = vU32 ((e13 + ((r_5 ^^^ r_6) ^^^ r_7)) + ((e9 &&& e10) ^^^ ((~~~e11) &&& e12))), fun v w c => v = v_2, fun v w c => v = vI i3, fun v w c => Adr v_2 (i3).toNat 1 v, fun v w c => v = vU32 e14, fun v w c => v = vU32 (((e13 + ((r_5 ^^^ r_6) ^^^ r_7)) + ((e9 &&& e10) ^^^ ((~~~e11) &&& e12))) + e14), fun v w c => v = v_14, fun v w c => v = vI i3, fun v w c => Adr v_14 (i3).toNat 1 v, fun v w c => v = vU32 e15] hmix (by kernel_rfl) (by kernel_rfl) ⟨?_, ?_, ?_, ?_, ?_, ?_, ?_, ?_, ?_, ?_, ?_, ?_, ?_, ?_, ?_, ?_, trivial⟩ ⟨fun _ _ _ _ _ _ h _ _ => h, fun _ _ _ _ _ _ h _ _ => h, fun _ _ _ _ _ _ h _ _ => h, fun _ _ _ _ _ _ h _ _ => h, fun _ _ _ _ _ _ h _ _ => h, fun _ _ _ _ _ _ h _ _ => h, fun _ _ _ _ _ _ h _ _ => h, fun _ _ _ _ _ _ h _ _ => h, fun _ _ _ _ _ _ h _ _ => h, fun _ _ _ _ _ _ h _ _ => h, fun _ _ _ _ _ _ h _ _ => h, fun _ _ _ _ _ _ h _ _ => h, fun _ _ _ _ _ _ h _ _ => h, fun _ _ _ _ _ _ h _ _ => h, fun _ _ _ _ _ _ h _ _ => h, fun _ _ _ _ _ _ h _ _ => h, trivial⟩ ?_)
                      · rintro f_107 w_130 c_120 hB93 hs94 ⟨-⟩ o ho; obtain rfl : _ = o := Option.some.inj ho
                        exact OS.move (v := v_17) rfl ((hB93 15 (by kernel_rfl)).trans h112) ⟨_, St.refl, rfl⟩
                      · rintro f_108 w_131 c_121 hB94 hs95 ⟨g88, -⟩ o ho; obtain rfl : _ = o := Option.some.inj ho
                        replace g88 : (f_108 173) = v_17 := g88
                        have o72 := o51.keep ((hs77.t hs93).t hs95) (by decide)
                        exact OS.idx rfl Try.runUnderlying64 Try.sizeOf63 g88 o72.isSl rfl ha21 hb22 (fun _ h => ⟨_, St.refl, h⟩)
                      · rintro f_109 w_132 c_122 hB95 hs96 ⟨g89, -⟩ o ho; obtain rfl : _ = o := Option.some.inj ho
                        replace g89 : Adr v_17 ((7 : Int)).toNat 1 (f_109 174) := g89
                        have o73 := o51.keep ((hs77.t hs93).t hs96) (by decide)
                        exact OS.ld1 (u := vU32 e13) rfl Try.isAgg63 rfl (o73.ld g89 hc13) ⟨_, St.refl, rfl⟩
                      · rintro f_110 w_133 c_123 hB96 hs97 ⟨-⟩ o ho; obtain rfl : _ = o := Option.some.inj ho
                        exact OS.move (v := vU32 ((r_5 ^^^ r_6) ^^^ r_7)) rfl ((hB96 17 (by kernel_rfl)).trans h114) ⟨_, St.refl, rfl⟩
                      · rintro f_111 w_134 c_124 hB97 hs98 ⟨g90, g91, -⟩ o ho; obtain rfl : _ = o := Option.some.inj ho
                        replace g90 : (f_111 175) = vU32 e13 := g90
                        replace g91 : (f_111 176) = vU32 ((r_5 ^^^ r_6) ^^^ r_7) := g91
                        exact OS.bin (a := vU32 e13) (b := vU32 ((r_5 ^^^ r_6) ^^^ r_7)) rfl g90 g91 b32_add ⟨_, St.refl, rfl⟩
                      · rintro f_112 w_135 c_125 hB98 hs99 ⟨-⟩ o ho; obtain rfl : _ = o := Option.some.inj ho
                        exact OS.move (v := vU32 ((e9 &&& e10) ^^^ ((~~~e11) &&& e12))) rfl ((hB98 18 (by kernel_rfl)).trans rfl) ⟨_, St.refl, rfl⟩
                      · rintro f_113 w_136 c_126 hB99 hs100 ⟨g92, g93, -⟩ o ho; obtain rfl : _ = o := Option.some.inj ho
                        replace g92 : (f_113 177) = vU32 (e13 + ((r_5 ^^^ r_6) ^^^ r_7)) := g92
                        replace g93 : (f_113 178) = vU32 ((e9 &&& e10) ^^^ ((~~~e11) &&& e12)) := g93
                        exact OS.bin (a := vU32 (e13 + ((r_5 ^^^ r_6) ^^^ r_7))) (b := vU32 ((e9 &&& e10) ^^^ ((~~~e11) &&& e12))) rfl g92 g93 b32_add ⟨_, St.refl, rfl⟩
                      · rintro f_114 w_137 c_127 hB100 hs101 ⟨-⟩ o ho; obtain rfl : _ = o := Option.some.inj ho
                        exact OS.move (v := v_2) rfl ((hB100 4 (by kernel_rfl)).trans h108) ⟨_, St.refl, rfl⟩
                      · rintro f_115 w_138 c_128 hB101 hs102 ⟨-⟩ o ho; obtain rfl : _ = o := Option.some.inj ho
                        exact OS.move (v := vI i3) rfl ((hB101 16 (by kernel_rfl)).trans h113) ⟨_, St.refl, rfl⟩
                      · rintro f_116 w_139 c_129 hB102 hs103 ⟨g94, g95, -⟩ o ho; obtain rfl : _ = o := Option.some.inj ho
                        replace g94 : (f_116 180) = v_2 := g94
                        replace g95 : (f_116 181) = vI i3 := g95
                        have o74 := o3.keep (((((((((((((s4.t s5).t s6).t s10).t s14).t s15).t s16).t s21).t s24).t s25).t s27).t hs77).t hs93).t hs103) (by decide)
                        exact OS.idx rfl Try.runUnderlying64 Try.sizeOf63 g94 o74.isSl g95 ha22 hb23 (fun _ h => ⟨_, St.refl, h⟩)
                      · rintro f_117 w_140 c_130 hB103 hs104 ⟨g96, -⟩ o ho; obtain rfl : _ = o := Option.some.inj ho
                        replace g96 : Adr v_2 (i3).toNat 1 (f_117 182) := g96
                        have o75 := o3.keep (((((((((((((s4.t s5).t s6).t s10).t s14).t s15).t s16).t s21).t s24).t s25).t s27).t hs77).t hs93).t hs104) (by decide)
                        exact OS.ld1 (u := vU32 e14) rfl Try.isAgg63 rfl (o75.ld g96 hc14) ⟨_, St.refl, rfl⟩
                      · rintro f_118 w_141 c_131 hB104 hs105 ⟨g97, g98, -⟩ o ho; obtain rfl : _ = o := Option.some.inj ho
                        replace g97 : (f_118 179) = vU32 ((e13 + ((r_5 ^^^ r_6) ^^^ r_7)) + ((e9 &&& e10) ^^^ ((~~~e11) &&& e12))) := g97
                        replace g98 : (f_118 183) = vU32 e14 := g98
                        exact OS.bin (a := vU32 ((e13 + ((r_5 ^^^ r_6) ^^^ r_7)) + ((e9 &&& e10) ^^^ ((~~~e11) &&& e12)))) (b := vU32 e14) rfl g97 g98 b32_add ⟨_, St.refl, rfl⟩
                      · rintro f_119 w_142 c_132 hB105 hs106 ⟨-⟩ o ho; obtain rfl : _ = o := Option.some.inj ho
                        exact OS.move (v := v_14) rfl ((hB105 9 (by kernel_rfl)).trans h111) ⟨_, St.refl, rfl⟩
                      · rintro f_120 w_143 c_133 hB106 hs107 ⟨-⟩ o ho; obtain rfl : _ = o := Option.some.inj ho
                        exact OS.move (v := vI i3) rfl ((hB106 16 (by kernel_rfl)).trans h113) ⟨_, St.refl, rfl⟩
                      · rintro f_121 w_144 c_134 hB107 hs108 ⟨g99, g100, -⟩ o ho; obtain rfl : _ = o := Option.some.inj ho
                        replace g99 : (f_121 185) = v_14 := g99
                        replace g100 : (f_121 186) = vI i3 := g100
                        have o76 := o37.keep ((((s25.t s27).t hs77).t hs93).t hs108) (by decide)
                        exact OS.idx rfl Try.runUnderlying64 Try.sizeOf63 g99 o76.isSl g100 ha23 hb24 (fun _ h => ⟨_, St.refl, h⟩)
                      · rintro f_122 w_145 c_135 hB108 hs109 ⟨g101, -⟩ o ho; obtain rfl : _ = o := Option.some.inj ho
                        replace g101 : Adr v_14 (i3).toNat 1 (f_122 187) := g101
                        have o77 := o37.keep ((((s25.t s27).t hs77).t hs93).t hs109) (by decide)
                        exact OS.ld1 (u := vU32 e15) rfl Try.isAgg63 rfl (o77.ld g101 hc15) ⟨_, St.refl, rfl⟩
                      · rintro f_123 w_146 c_136 hB109 hs110 ⟨g102, g103, -⟩
                        have h115 := (hB109 2 (by kernel_rfl)).trans h106
                        have h116 := (hB109 3 (by kernel_rfl)).trans h107
                        have h117 := (hB109 4 (by kernel_rfl)).trans h108
                        have h118 := (hB109 5 (by kernel_rfl)).trans h109
                        have h119 := (hB109 8 (by kernel_rfl)).trans h110
                        have h120 := (hB109 9 (by kernel_rfl)).trans h111
                        have h121 := (hB109 15 (by kernel_rfl)).trans h112
                        have h122 := (hB109 16 (by kernel_rfl)).trans h113
                        replace g102 : (f_123 184) = vU32 (((e13 + ((r_5 ^^^ r_6) ^^^ r_7)) + ((e9 &&& e10) ^^^ ((~~~e11) &&& e12))) + e14) := g102
                        replace g103 : (f_123 188) = vU32 e15 := g103
                        refine WR.k rfl rfl rfl (OS.bin (a := vU32 (((e13 + ((r_5 ^^^ r_6) ^^^ r_7)) + ((e9 &&& e10) ^^^ ((~~~e11) &&& e12))) + e14)) (b := vU32 e15) rfl g102 g103 b32_add ?_)
                        refine WR.k rfl rfl rfl (OS.assign (v := vU32 ((((e13 + ((r_5 ^^^ r_6) ^^^ r_7)) + ((e9 &&& e10) ^^^ ((~~~e11) &&& e12))) + e14) + e15)) rfl rfl ?_)
                        refine WR.nil ?_
                        have o78 := o51.keep ((hs77.t hs93).t hs110) (by decide)
                        obtain ⟨e16, he16, hl10⟩ := bind_some hl10
                        obtain ⟨ha24, hb25, hc16⟩ := gt_some he16
                        obtain ⟨r_8, hr_8, hl10⟩ := bind_some hl10
                        obtain ⟨e17, he17, hl10⟩ := bind_some hl10
                        obtain ⟨ha25, hb26, hc17⟩ := gt_some he17
                        obtain ⟨r_9, hr_9, hl10⟩ := bind_some hl10
                        obtain ⟨e18, he18, hl10⟩ := bind_some hl10
                        obtain ⟨ha26, hb27, hc18⟩ := gt_some he18
                        obtain ⟨r_10, hr_10, hl10⟩ := bind_some hl10
                        refine WC.seq (WC.draw (c := c_136) ⟨13, [[1], [1], [1], [1], [1], [1], [1], [1], [1], [1], [1], [1], [1]], [[], [], [], [], [], [], [], [], [], [], [], [], []], [], [[], [0], [1], [2], [], [4], [5], [6], [3, 7], [], [9], [10], [11]], [8, 12]⟩ [fun v w c => v = v_17, fun v w c => Adr v_17 ((0 : Int)).toNat 1 v, fun v w c => v = vU32 e16, fun v w c => v = vU32 r_8, fun v w c => v = v_17, fun v w c => Adr v_17 ((0 : Int)).toNat 1 v, fun v w c => v = vU32 e17, fun v w c => v = vU32 r_9, fun v w c => v = vU32 (r_8 ^^^ r_9), fun v w c => v = v_17, fun v w c => Adr v_17 ((0 : Int)).toNat 1 v, fun v w c => v = vU32 e18, fun v w c => v = vU32 r_10] hmix (by kernel_rfl) (by kernel_rfl) ⟨?_, ?_, ?_, ?_, ?_, ?_, ?_, ?_, ?_, ?_, ?_, ?_, ?_, trivial⟩ ⟨fun _ _ _ _ _ _ h _ _ => h, fun _ _ _ _ _ _ h _ _ => h, fun _ _ _ _ _ _ h _ _ => h, fun _ _ _ _ _ _ h _ _ => h, fun _ _ _ _ _ _ h _ _ => h, fun _ _ _ _ _ _ h _ _ => h, fun _ _ _ _ _ _ h _ _ => h, fun _ _ _ _ _ _ h _ _ => h, fun _ _ _ _ _ _ h _ _ => h, fun _ _ _ _ _ _ h _ _ => h, fun _ _ _ _ _ _ h _ _ => h, fun _ _ _ _ _ _ h _ _ => h, fun _ _ _ _ _ _ h _ _ => h, trivial⟩ ?_)
                        · rintro f_124 w_147 c_137 hB110 hs111 ⟨-⟩ o ho; obtain rfl : _ = o := Option.some.inj ho
                          exact OS.move (v := v_17) rfl ((hB110 15 (by kernel_rfl)).trans h121) ⟨_, St.refl, rfl⟩
                        · rintro f_125 w_148 c_138 hB111 hs112 ⟨g104, -⟩ o ho; obtain rfl : _ = o := Option.some.inj ho
                          replace g104 : (f_125 190) = v_17 := g104
                          have o79 := o51.keep (((hs77.t hs93).t hs110).t hs112) (by decide)
                          exact OS.idx rfl Try.runUnderlying64 Try.sizeOf63 g104 o79.isSl rfl ha24 hb25 (fun _ h => ⟨_, St.refl, h⟩)
                        · rintro f_126 w_149 c_139 hB112 hs113 ⟨g105, -⟩ o ho; obtain rfl : _ = o := Option.some.inj ho
                          replace g105 : Adr v_17 ((0 : Int)).toNat 1 (f_126 191) := g105
                          have o80 := o51.keep (((hs77.t hs93).t hs110).t hs113) (by decide)
                          exact OS.ld1 (u := vU32 e16) rfl Try.isAgg63 rfl (o80.ld g105 hc16) ⟨_, St.refl, rfl⟩
                        · rintro f_127 w_150 c_140 hB113 hs114 ⟨g106, -⟩ o ho; obtain rfl : _ = o := Option.some.inj ho
                          replace g106 : (f_127 192) = vU32 e16 := g106
                          refine OS.callF (vs := [vU32 e16, vI (2 : Int)]) rfl ⟨g106, rfl, trivial⟩ Try.call36 ((W36 K w_150 hr_8).mono ?_)
                          rintro _ w ⟨d, rfl, s⟩
                          exact ⟨_, rfl, _, s.merge id, rfl⟩
                        · rintro f_128 w_151 c_141 hB114 hs115 ⟨-⟩ o ho; obtain rfl : _ = o := Option.some.inj ho
                          exact OS.move (v := v_17) rfl ((hB114 15 (by kernel_rfl)).trans h121) ⟨_, St.refl, rfl⟩
                        · rintro f_129 w_152 c_142 hB115 hs116 ⟨g107, -⟩ o ho; obtain rfl : _ = o := Option.some.inj ho
                          replace g107 : (f_129 194) = v_17 := g107
                          have o81 := o51.keep (((hs77.t hs93).t hs110).t hs116) (by decide)
                          exact OS.idx rfl Try.runUnderlying64 Try.sizeOf63 g107 o81.isSl rfl ha25 hb26 (fun _ h => ⟨_, St.refl, h⟩)
                        · rintro f_130 w_153 c_143 hB116 hs117 ⟨g108, -⟩ o ho; obtain rfl : _ = o := Option.some.inj ho
                          replace g108 : Adr v_17 ((0 : Int)).toNat 1 (f_130 195) := g108
                          have o82 := o51.keep (((hs77.t hs93).t hs110).t hs117) (by decide)
                          exact OS.ld1 (u := vU32 e17) rfl Try.isAgg63 rfl (o82.ld g108 hc17) ⟨_, St.refl, rfl⟩
                        · rintro f_131 w_154 c_144 hB117 hs118 ⟨g109, -⟩ o ho; obtain rfl : _ = o := Option.some.inj ho
                          replace g109 : (f_131 196) = vU32 e17 := g109
                          refine OS.callF (vs := [vU32 e17, vI (13 : Int)]) rfl ⟨g109, rfl, trivial⟩ Try.call36 ((W36 K w_154 hr_9).mono ?_)
                          rintro _ w ⟨d, rfl, s⟩
                          exact ⟨_, rfl, _, s.merge id, rfl⟩
                        · rintro f_132 w_155 c_145 hB118 hs119 ⟨g110, g111, -⟩ o ho; obtain rfl : _ = o := Option.some.inj ho
                          replace g110 : (f_132 193) = vU32 r_8 := g110
                          replace g111 : (f_132 197) = vU32 r_9 := g111
                          exact OS.bin (a := vU32 r_8) (b := vU32 r_9) rfl g110 g111 b32_xor ⟨_, St.refl, rfl⟩
                        · rintro f_133 w_156 c_146 hB119 hs120 ⟨-⟩ o ho; obtain rfl : _ = o := Option.some.inj ho
                          exact OS.move (v := v_17) rfl ((hB119 15 (by kernel_rfl)).trans h121) ⟨_, St.refl, rfl⟩
                        · rintro f_134 w_157 c_147 hB120 hs121 ⟨g112, -⟩ o ho; obtain rfl : _ = o := Option.some.inj ho
                          replace g112 : (f_134 199) = v_17 := g112
                          have o83 := o51.keep (((hs77.t hs93).t hs110).t hs121) (by decide)
                          exact OS.idx rfl Try.runUnderlying64 Try.sizeOf63 g112 o83.isSl rfl ha26 hb27 (fun _ h => ⟨_, St.refl, h⟩)
                        · rintro f_135 w_158 c_148 hB121 hs122 ⟨g113, -⟩ o ho; obtain rfl : _ = o := Option.some.inj ho
                          replace g113 : Adr v_17 ((0 : Int)).toNat 1 (f_135 200) := g113
                          have o84 := o51.keep (((hs77.t hs93).t hs110).t hs122) (by decide)
                          exact OS.ld1 (u := vU32 e18) rfl Try.isAgg63 rfl (o84.ld g113 hc18) ⟨_, St.refl, rfl⟩
                        · rintro f_136 w_159 c_149 hB122 hs123 ⟨g114, -⟩ o ho; obtain rfl : _ = o := Option.some.inj ho
                          replace g114 : (f_136 201) = vU32 e18 := g114
                          refine OS.callF (vs := [vU32 e18, vI (22 : Int)]) rfl ⟨g114, rfl, trivial⟩ Try.call36 ((W36 K w_159 hr_10).mono ?_)
                          rintro _ w ⟨d, rfl, s⟩
                          exact ⟨_, rfl, _, s.merge id, rfl⟩
                        · rintro f_137 w_160 c_150 hB123 hs124 ⟨g115, g116, -⟩
                          have h123 := (hB123 2 (by kernel_rfl)).trans h115
                          have h124 := (hB123 3 (by kernel_rfl)).trans h116
                          have h125 := (hB123 4 (by kernel_rfl)).trans h117
                          have h126 := (hB123 5 (by kernel_rfl)).trans h118
                          have h127 := (hB123 8 (by kernel_rfl)).trans h119
                          have h128 := (hB123 9 (by kernel_rfl)).trans h120
                          have h129 := (hB123 15 (by kernel_rfl)).trans h121
                          have h130 := (hB123 16 (by kernel_rfl)).trans h122
                          have h131 := (hB123 19 (by kernel_rfl)).trans (show _ = vU32 ((((e13 + ((r_5 ^^^ r_6) ^^^ r_7)) + ((e9 &&& e10) ^^^ ((~~~e11) &&& e12))) + e14) + e15) from rfl)
                          replace g115 : (f_137 198) = vU32 (r_8 ^^^ r_9) := g115
                          replace g116 : (f_137 202) = vU32 r_10 := g116
                          refine WR.k rfl rfl rfl (OS.bin (a := vU32 (r_8 ^^^ r_9)) (b := vU32 r_10) rfl g115 g116 b32_xor ?_)
                          refine WR.k rfl rfl rfl (OS.assign (v := vU32 ((r_8 ^^^ r_9) ^^^ r_10)) rfl rfl ?_)
                          refine WR.nil ?_
                          have o85 := o51.keep (((hs77.t hs93).t hs110).t hs124) (by decide)
                          obtain ⟨e19, he19, hl10⟩ := bind_some hl10
                          obtain ⟨ha27, hb28, hc19⟩ := gt_some he19
                          obtain ⟨e20, he20, hl10⟩ := bind_some hl10
                          obtain ⟨ha28, hb29, hc20⟩ := gt_some he20
                          obtain ⟨e21, he21, hl10⟩ := bind_some hl10
                          obtain ⟨ha29, hb30, hc21⟩ := gt_some he21
                          obtain ⟨e22, he22, hl10⟩ := bind_some hl10
                          obtain ⟨ha30, hb31, hc22⟩ := gt_some he22
                          obtain ⟨e23, he23, hl10⟩ := bind_some hl10
                          obtain ⟨ha31, hb32, hc23⟩ := gt_some he23
                          obtain ⟨e24, he24, hl10⟩ := bind_some hl10
                          obtain ⟨ha32, hb33, hc24⟩ := gt_some he24
                          refine WC.seq (WC.draw (c := c_150) ⟨22, [[1], [1], [1], [1], [1], [1], [1], [1], [1], [1], [1], [1], [1], [1], [1], [1], [1], [1], [1], [1], [1], [1]], [[], [], [], [], [], [], [], [], [], [], [], [], [], [], [], [], [], [], [], [], [], []], [], [[], [0], [1], [], [3], [4], [2, 5], [], [7], [8], [], [10], [11], [9, 12], [6, 13], [], [15], [16], [], [18], [19], [17, 20]], [14, 21]⟩ [fun v w c => v = v_17, fun v w c => Adr v_17 ((0 : Int)).toNat 1 v, fun v w c => v = vU32 e19, fun v w c => v = v_17, fun v w c => Adr v_17 ((1 : Int)).toNat 1 v, fun v w c => v = vU32 e20, fun v w c => v = vU32 (e19 &&& e20), fun v w c => v = v_17, fun v w c => Adr v_17 ((0 : Int)).toNat 1 v, fun v w c => v = vU32 e21, fun v w c => v = v_17, fun v w c => Adr v_17 ((2 : Int)).toNat 1 v, fun v w c => v = vU32 e22, fun v w c => v = vU32 (e21 &&& e22), fun v w c => v = vU32 ((e19 &&& e20) ^^^ (e21 &&& e22)), fun v w c => v = v_17, fun v w c => Adr v_17 ((1 : Int)).toNat 1 v, fun v w c => v = vU32 e23, fun v w c => v = v_17, fun v w c => Adr v_17 ((2 : Int)).toNat 1 v, fun v w c => v = vU32 e24, fun v w c => v = vU32 (e23 &&& e24)] hmix (by kernel_rfl) (by kernel_rfl) ⟨?_, ?_, ?_, ?_, ?_, ?_, ?_, ?_, ?_, ?_, ?_, ?_, ?_, ?_, ?_, ?_, ?_, ?_, ?_, ?_, ?_, ?_, trivial⟩ ⟨fun _ _ _ _ _ _ h _ _ => h, fun _ _ _ _ _ _ h _ _ => h, fun _ _ _ _ _ _ h _ _ => h, fun _ _ _ _ _ _ h _ _ => h, fun _ _ _ _ _ _ h _ _ => h, fun _ _ _ _ _ _ h _ _ => h, fun _ _ _ _ _ _ h _ _ => h, fun _ _ _ _ _ _ h _ _ => h, fun _ _ _ _ _ _ h _ _ => h, fun _ _ _ _ _ _ h _ _ => h, fun _ _ _ _ _ _ h _ _ => h, fun _ _ _ _ _ _ h _ _ => h, fun _ _ _ _ _ _ h _ _ => h, fun _ _ _ _ _ _ h _ _ => h, fun _ _ _ _ _ _ h _ _ => h, fun _ _ _ _ _ _ h _ _ => h, fun _ _ _ _ _ _ h _ _ => h, fun _ _ _ _ _ _ h _ _ => h, fun _ _ _ _ _ _ h _ _ => h, fun _ _ _ _ _ _ h _ _ => h, fun _ _ _ _ _ _ h _ _ => h, fun _ _ _ _ _ _ h _ _ => h, trivial⟩ ?_)
                          · rintro f_138 w_161 c_151 hB124 hs125 ⟨-⟩ o ho; obtain rfl : _ = o := Option.some.inj ho
                            exact OS.move (v := v_17) rfl ((hB124 15 (by kernel_rfl)).trans h129) ⟨_, St.refl, rfl⟩
                          · rintro f_139 w_162 c_152 hB125 hs126 ⟨g117, -⟩ o ho; obtain rfl : _ = o := Option.some.inj ho
                            replace g117 : (f_139 204) = v_17 := g117
                            have o86 := o51.keep ((((hs77.t hs93).t hs110).t hs124).t hs126) (by decide)
                            exact OS.idx rfl Try.runUnderlying64 Try.sizeOf63 g117 o86.isSl rfl ha27 hb28 (fun _ h => ⟨_, St.refl, h⟩)
                          · rintro f_140 w_163 c_153 hB126 hs127 ⟨g118, -⟩ o ho; obtain rfl : _ = o := Option.some.inj ho
                            replace g118 : Adr v_17 ((0 : Int)).toNat 1 (f_140 205) := g118
                            have o87 := o51.keep ((((hs77.t hs93).t hs110).t hs124).t hs127) (by decide)
                            exact OS.ld1 (u := vU32 e19) rfl Try.isAgg63 rfl (o87.ld g118 hc19) ⟨_, St.refl, rfl⟩
                          · rintro f_141 w_164 c_154 hB127 hs128 ⟨-⟩ o ho; obtain rfl : _ = o := Option.some.inj ho
                            exact OS.move (v := v_17) rfl ((hB127 15 (by kernel_rfl)).trans h129) ⟨_, St.refl, rfl⟩
                          · rintro f_142 w_165 c_155 hB128 hs129 ⟨g119, -⟩ o ho; obtain rfl : _ = o := Option.some.inj ho
                            replace g119 : (f_142 207) = v_17 := g119
                            have o88 := o51.keep ((((hs77.t hs93).t hs110).t hs124).t hs129) (by decide)
                            exact OS.idx rfl Try.runUnderlying64 Try.sizeOf63 g119 o88.isSl rfl ha28 hb29 (fun _ h => ⟨_, St.refl, h⟩)
                          · rintro f_143 w_166 c_156 hB129 hs130 ⟨g120, -⟩ o ho; obtain rfl : _ = o := Option.some.inj ho
                            replace g120 : Adr v_17 ((1 : Int)).toNat 1 (f_143 208) := g120
                            have o89 := o51.keep ((((hs77.t hs93).t hs110).t hs124).t hs130) (by decide)
                            exact OS.ld1 (u := vU32 e20) rfl Try.isAgg63 rfl (o89.ld g120 hc20) ⟨_, St.refl, rfl⟩
                          · rintro f_144 w_167 c_157 hB130 hs131 ⟨g121, g122, -⟩ o ho; obtain rfl : _ = o := Option.some.inj ho
                            replace g121 : (f_144 206) = vU32 e19 := g121
                            replace g122 : (f_144 209) = vU32 e20 := g122
                            exact OS.bin (a := vU32 e19) (b := vU32 e20) rfl g121 g122 b32_and ⟨_, St.refl, rfl⟩
                          · rintro f_145 w_168 c_158 hB131 hs132 ⟨-⟩ o ho; obtain rfl : _ = o := Option.some.inj ho
                            exact OS.move (v := v_17) rfl ((hB131 15 (by kernel_rfl)).trans h129) ⟨_, St.refl, rfl⟩
                          · rintro f_146 w_169 c_159 hB132 hs133 ⟨g123, -⟩ o ho; obtain rfl : _ = o := Option.some.inj ho
                            replace g123 : (f_146 211) = v_17 := g123
                            have o90 := o51.keep ((((hs77.t hs93).t hs110).t hs124).t hs133) (by decide)
                            exact OS.idx rfl Try.runUnderlying64 Try.sizeOf63 g123 o90.isSl rfl ha29 hb30 (fun _ h => ⟨_, St.refl, h⟩)
                          · rintro f_147 w_170 c_160 hB133 hs134 ⟨g124, -⟩ o ho; obtain rfl : _ = o := Option.some.inj ho
                            replace g124 : Adr v_17 ((0 : Int)).toNat 1 (f_147 212) := g124
                            have o91 := o51.keep ((((hs77.t hs93).t hs110).t hs124).t hs134) (by decide)
                            exact OS.ld1 (u := vU32 e21) rfl Try.isAgg63 rfl (o91.ld g124 hc21) ⟨_, St.refl, rfl⟩
                          · rintro f_148 w_171 c_161 hB134 hs135 ⟨-⟩ o ho; obtain rfl : _ = o := Option.some.inj ho
                            exact OS.move (v := v_17) rfl ((hB134 15 (by kernel_rfl)).trans h129) ⟨_, St.refl, rfl⟩
                          · rintro f_149 w_172 c_162 hB135 hs136 ⟨g125, -⟩ o ho; obtain rfl : _ = o := Option.some.inj ho
                            replace g125 : (f_149 214) = v_17 := g125
                            have o92 := o51.keep ((((hs77.t hs93).t hs110).t hs124).t hs136) (by decide)
                            exact OS.idx rfl Try.runUnderlying64 Try.sizeOf63 g125 o92.isSl rfl ha30 hb31 (fun _ h => ⟨_, St.refl, h⟩)
                          · rintro f_150 w_173 c_163 hB136 hs137 ⟨g126, -⟩ o ho; obtain rfl : _ = o := Option.some.inj ho
                            replace g126 : Adr v_17 ((2 : Int)).toNat 1 (f_150 215) := g126
                            have o93 := o51.keep ((((hs77.t hs93).t hs110).t hs124).t hs137) (by decide)
                            exact OS.ld1 (u := vU32 e22) rfl Try.isAgg63 rfl (o93.ld g126 hc22) ⟨_, St.refl, rfl⟩
                          · rintro f_151 w_174 c_164 hB137 hs138 ⟨g127, g128, -⟩ o ho; obtain rfl : _ = o := Option.some.inj ho
                            replace g127 : (f_151 213) = vU32 e21 := g127
                            replace g128 : (f_151 216) = vU32 e22 := g128
                            exact OS.bin (a := vU32 e21) (b := vU32 e22) rfl g127 g128 b32_and ⟨_, St.refl, rfl⟩
                          · rintro f_152 w_175 c_165 hB138 hs139 ⟨g129, g130, -⟩ o ho; obtain rfl : _ = o := Option.some.inj ho
                            replace g129 : (f_152 210) = vU32 (e19 &&& e20) := g129
                            replace g130 : (f_152 217) = vU32 (e21 &&& e22) := g130
                            exact OS.bin (a := vU32 (e19 &&& e20)) (b := vU32 (e21 &&& e22)) rfl g129 g130 b32_xor ⟨_, St.refl, rfl⟩
                          · rintro f_153 w_176 c_166 hB139 hs140 ⟨-⟩ o ho; obtain rfl : _ = o := Option.some.inj ho
                            exact OS.move (v := v_17) rfl ((hB139 15 (by kernel_rfl)).trans h129) ⟨_, St.refl, rfl⟩
                          · rintro f_154 w_177 c_167 hB140 hs141 ⟨g131, -⟩ o ho; obtain rfl : _ = o := Option.some.inj ho
                            replace g131 : (f_154 219) = v_17 := g131
                            have o94 := o51.keep ((((hs77.t hs93).t hs110).t hs124).t hs141) (by decide)
                            exact OS.idx rfl Try.runUnderlying64 Try.sizeOf63 g131 o94.isSl rfl ha31 hb32 (fun _ h => ⟨_, St.refl, h⟩)
                          · rintro f_155 w_178 c_168 hB141 hs142 ⟨g132, -⟩ o ho; obtain rfl : _ = o := Option.some.inj ho
                            replace g132 : Adr v_17 ((1 : Int)).toNat 1 (f_155 220) := g132
                            have o95 := o51.keep ((((hs77.t hs93).t hs110).t hs124).t hs142) (by decide)
                            exact OS.ld1 (u := vU32 e23) rfl Try.isAgg63 rfl (o95.ld g132 hc23) ⟨_, St.refl, rfl⟩
                          · rintro f_156 w_179 c_169 hB142 hs143 ⟨-⟩ o ho; obtain rfl : _ = o := Option.some.inj ho
                            exact OS.move (v := v_17) rfl ((hB142 15 (by kernel_rfl)).trans h129) ⟨_, St.refl, rfl⟩
                          · rintro f_157 w_180 c_170 hB143 hs144 ⟨g133, -⟩ o ho; obtain rfl : _ = o := Option.some.inj ho
                            replace g133 : (f_157 222) = v_17 := g133
                            have o96 := o51.keep ((((hs77.t hs93).t hs110).t hs124).t hs144) (by decide)
                            exact OS.idx rfl Try.runUnderlying64 Try.sizeOf63 g133 o96.isSl rfl ha32 hb33 (fun _ h => ⟨_, St.refl, h⟩)
                          · rintro f_158 w_181 c_171 hB144 hs145 ⟨g134, -⟩ o ho; obtain rfl : _ = o := Option.some.inj ho
                            replace g134 : Adr v_17 ((2 : Int)).toNat 1 (f_158 223) := g134
                            have o97 := o51.keep ((((hs77.t hs93).t hs110).t hs124).t hs145) (by decide)
                            exact OS.ld1 (u := vU32 e24) rfl Try.isAgg63 rfl (o97.ld g134 hc24) ⟨_, St.refl, rfl⟩
                          · rintro f_159 w_182 c_172 hB145 hs146 ⟨g135, g136, -⟩ o ho; obtain rfl : _ = o := Option.some.inj ho
                            replace g135 : (f_159 221) = vU32 e23 := g135
                            replace g136 : (f_159 224) = vU32 e24 := g136
                            exact OS.bin (a := vU32 e23) (b := vU32 e24) rfl g135 g136 b32_and ⟨_, St.refl, rfl⟩
                          · rintro f_160 w_183 c_173 hB146 hs147 ⟨g137, g138, -⟩
                            have h132 := (hB146 2 (by kernel_rfl)).trans h123
                            have h133 := (hB146 3 (by kernel_rfl)).trans h124
                            have h134 := (hB146 4 (by kernel_rfl)).trans h125
                            have h135 := (hB146 5 (by kernel_rfl)).trans h126
                            have h136 := (hB146 8 (by kernel_rfl)).trans h127
                            have h137 := (hB146 9 (by kernel_rfl)).trans h128
                            have h138 := (hB146 15 (by kernel_rfl)).trans h129
                            have h139 := (hB146 16 (by kernel_rfl)).trans h130
                            have h140 := (hB146 19 (by kernel_rfl)).trans h131
                            have h141 := (hB146 20 (by kernel_rfl)).trans (show _ = vU32 ((r_8 ^^^ r_9) ^^^ r_10) from rfl)
                            replace g137 : (f_160 218) = vU32 ((e19 &&& e20) ^^^ (e21 &&& e22)) := g137
                            replace g138 : (f_160 225) = vU32 (e23 &&& e24) := g138
                            refine WR.k rfl rfl rfl (OS.bin (a := vU32 ((e19 &&& e20) ^^^ (e21 &&& e22))) (b := vU32 (e23 &&& e24)) rfl g137 g138 b32_xor ?_)
                            refine WR.k rfl rfl rfl (OS.assign (v := vU32 (((e19 &&& e20) ^^^ (e21 &&& e22)) ^^^ (e23 &&& e24))) rfl rfl ?_)
                            refine WR.nil ?_
                            have o98 := o51.keep ((((hs77.t hs93).t hs110).t hs124).t hs147) (by decide)
                            obtain ⟨e25, he25, hl10⟩ := bind_some hl10
                            obtain ⟨ha33, hb34, hc25⟩ := gt_some he25
                            obtain ⟨e26, he26, hl10⟩ := bind_some hl10
                            obtain ⟨ha34, hb35, hc26⟩ := gt_some he26
                            obtain ⟨e27, he27, hl10⟩ := bind_some hl10
                            obtain ⟨ha35, hb36, hc27⟩ := gt_some he27
                            obtain ⟨e28, he28, hl10⟩ := bind_some hl10
                            obtain ⟨ha36, hb37, hc28⟩ := gt_some he28
                            obtain ⟨e29, he29, hl10⟩ := bind_some hl10
                            obtain ⟨ha37, hb38, hc29⟩ := gt_some he29
                            obtain ⟨e30, he30, hl10⟩ := bind_some hl10
                            obtain ⟨ha38, hb39, hc30⟩ := gt_some he30
                            obtain ⟨e31, he31, hl10⟩ := bind_some hl10
                            obtain ⟨ha39, hb40, hc31⟩ := gt_some he31
                            refine WC.draw (c := c_173) ⟨28, [[1], [1], [1], [1], [1], [1], [1], [1], [1], [1], [1], [1], [1], [1], [1], [1], [1], [1], [1], [1], [1], [1], [1], [1], [1], [1], [1], [1]], [[], [], [], [], [], [], [], [], [], [], [], [], [], [], [], [], [], [], [], [], [], [], [], [], [], [], [], []], [], [[], [], [0, 1], [], [2, 3], [], [5], [6], [], [8], [9], [], [11], [12], [], [14], [15], [], [16, 17], [], [19], [20], [], [22], [23], [], [25], [26]], [4, 7, 10, 13, 18, 21, 24, 27]⟩ [fun v w c => v = vU32 ((((e13 + ((r_5 ^^^ r_6) ^^^ r_7)) + ((e9 &&& e10) ^^^ ((~~~e11) &&& e12))) + e14) + e15), fun v w c => v = vU32 ((r_8 ^^^ r_9) ^^^ r_10), fun v w c => v = vU32 (((((e13 + ((r_5 ^^^ r_6) ^^^ r_7)) + ((e9 &&& e10) ^^^ ((~~~e11) &&& e12))) + e14) + e15) + ((r_8 ^^^ r_9) ^^^ r_10)), fun v w c => v = vU32 (((e19 &&& e20) ^^^ (e21 &&& e22)) ^^^ (e23 &&& e24)), fun v w c => v = vU32 ((((((e13 + ((r_5 ^^^ r_6) ^^^ r_7)) + ((e9 &&& e10) ^^^ ((~~~e11) &&& e12))) + e14) + e15) + ((r_8 ^^^ r_9) ^^^ r_10)) + (((e19 &&& e20) ^^^ (e21 &&& e22)) ^^^ (e23 &&& e24))), fun v w c => v = v_17, fun v w c => Adr v_17 ((0 : Int)).toNat 1 v, fun v w c => v = vU32 e25, fun v w c => v = v_17, fun v w c => Adr v_17 ((1 : Int)).toNat 1 v, fun v w c => v = vU32 e26, fun v w c => v = v_17, fun v w c => Adr v_17 ((2 : Int)).toNat 1 v, fun v w c => v = vU32 e27, fun v w c => v = v_17, fun v w c => Adr v_17 ((3 : Int)).toNat 1 v, fun v w c => v = vU32 e28, fun v w c => v = vU32 ((((e13 + ((r_5 ^^^ r_6) ^^^ r_7)) + ((e9 &&& e10) ^^^ ((~~~e11) &&& e12))) + e14) + e15), fun v w c => v = vU32 (e28 + ((((e13 + ((r_5 ^^^ r_6) ^^^ r_7)) + ((e9 &&& e10) ^^^ ((~~~e11) &&& e12))) + e14) + e15)), fun v w c => v = v_17, fun v w c => Adr v_17 ((4 : Int)).toNat 1 v, fun v w c => v = vU32 e29, fun v w c => v = v_17, fun v w c => Adr v_17 ((5 : Int)).toNat 1 v, fun v w c => v = vU32 e30, fun v w c => v = v_17, fun v w c => Adr v_17 ((6 : Int)).toNat 1 v, fun v w c => v = vU32 e31] hmix (by kernel_rfl) (by kernel_rfl) ⟨?_, ?_, ?_, ?_, ?_, ?_, ?_, ?_, ?_, ?_, ?_, ?_, ?_, ?_, ?_, ?_, ?_, ?_, ?_, ?_, ?_, ?_, ?_, ?_, ?_, ?_, ?_, ?_, trivial⟩ ⟨fun _ _ _ _ _ _ h _ _ => h, fun _ _ _ _ _ _ h _ _ => h, fun _ _ _ _ _ _ h _ _ => h, fun _ _ _ _ _ _ h _ _ => h, fun _ _ _ _ _ _ h _ _ => h, fun _ _ _ _ _ _ h _ _ => h, fun _ _ _ _ _ _ h _ _ => h, fun _ _ _ _ _ _ h _ _ => h, fun _ _ _ _ _ _ h _ _ => h, fun _ _ _ _ _ _ h _ _ => h, fun _ _ _ _ _ _ h _ _ => h, fun _ _ _ _ _ _ h _ _ => h, fun _ _ _ _ _ _ h _ _ => h, fun _ _ _ _ _ _ h _ _ => h, fun _ _ _ _ _ _ h _ _ => h, fun _ _ _ _ _ _ h _ _ => h, fun _ _ _ _ _ _ h _ _ => h, fun _ _ _ _ _ _ h _ _ => h, fun _ _ _ _ _ _ h _ _ => h, fun _ _ _ _ _ _ h _ _ => h, fun _ _ _ _ _ _ h _ _ => h, fun _ _ _ _ _ _ h _ _ => h, fun _ _ _ _ _ _ h _ _ => h, fun _ _ _ _ _ _ h _ _ => h, fun _ _ _ _ _ _ h _ _ => h, fun _ _ _ _ _ _ h _ _ => h, fun _ _ _ _ _ _ h _ _ => h, fun _ _ _ _ _ _ h _ _ => h, trivial⟩ ?_
                            · rintro f_161 w_184 c_174 hB147 hs148 ⟨-⟩ o ho; obtain rfl : _ = o := Option.some.inj ho
                              exact OS.move (v := vU32 ((((e13 + ((r_5 ^^^ r_6) ^^^ r_7)) + ((e9 &&& e10) ^^^ ((~~~e11) &&& e12))) + e14) + e15)) rfl ((hB147 19 (by kernel_rfl)).trans h140) ⟨_, St.refl, rfl⟩
                            · rintro f_162 w_185 c_175 hB148 hs149 ⟨-⟩ o ho; obtain rfl : _ = o := Option.some.inj ho
                              exact OS.move (v := vU32 ((r_8 ^^^ r_9) ^^^ r_10)) rfl ((hB148 20 (by kernel_rfl)).trans h141) ⟨_, St.refl, rfl⟩
                            · rintro f_163 w_186 c_176 hB149 hs150 ⟨g139, g140, -⟩ o ho; obtain rfl : _ = o := Option.some.inj ho
                              replace g139 : (f_163 227) = vU32 ((((e13 + ((r_5 ^^^ r_6) ^^^ r_7)) + ((e9 &&& e10) ^^^ ((~~~e11) &&& e12))) + e14) + e15) := g139
                              replace g140 : (f_163 228) = vU32 ((r_8 ^^^ r_9) ^^^ r_10) := g140
                              exact OS.bin (a := vU32 ((((e13 + ((r_5 ^^^ r_6) ^^^ r_7)) + ((e9 &&& e10) ^^^ ((~~~e11) &&& e12))) + e14) + e15)) (b := vU32 ((r_8 ^^^ r_9) ^^^ r_10)) rfl g139 g140 b32_add ⟨_, St.refl, rfl⟩
                            · rintro f_164 w_187 c_177 hB150 hs151 ⟨-⟩ o ho; obtain rfl : _ = o := Option.some.inj ho
                              exact OS.move (v := vU32 (((e19 &&& e20) ^^^ (e21 &&& e22)) ^^^ (e23 &&& e24))) rfl ((hB150 21 (by kernel_rfl)).trans rfl) ⟨_, St.refl, rfl⟩
                            · rintro f_165 w_188 c_178 hB151 hs152 ⟨g141, g142, -⟩ o ho; obtain rfl : _ = o := Option.some.inj ho
                              replace g141 : (f_165 229) = vU32 (((((e13 + ((r_5 ^^^ r_6) ^^^ r_7)) + ((e9 &&& e10) ^^^ ((~~~e11) &&& e12))) + e14) + e15) + ((r_8 ^^^ r_9) ^^^ r_10)) := g141
                              replace g142 : (f_165 230) = vU32 (((e19 &&& e20) ^^^ (e21 &&& e22)) ^^^ (e23 &&& e24)) := g142
                              exact OS.bin (a := vU32 (((((e13 + ((r_5 ^^^ r_6) ^^^ r_7)) + ((e9 &&& e10) ^^^ ((~~~e11) &&& e12))) + e14) + e15) + ((r_8 ^^^ r_9) ^^^ r_10))) (b := vU32 (((e19 &&& e20) ^^^ (e21 &&& e22)) ^^^ (e23 &&& e24))) rfl g141 g142 b32_add ⟨_, St.refl, rfl⟩
                            · rintro f_166 w_189 c_179 hB152 hs153 ⟨-⟩ o ho; obtain rfl : _ = o := Option.some.inj ho
                              exact OS.move (v := v_17) rfl ((hB152 15 (by kernel_rfl)).trans h138) ⟨_, St.refl, rfl⟩
                            · rintro f_167 w_190 c_180 hB153 hs154 ⟨g143, -⟩ o ho; obtain rfl : _ = o := Option.some.inj ho
                              replace g143 : (f_167 232) = v_17 := g143
                              have o99 := o51.keep (((((hs77.t hs93).t hs110).t hs124).t hs147).t hs154) (by decide)
                              exact OS.idx rfl Try.runUnderlying64 Try.sizeOf63 g143 o99.isSl rfl ha33 hb34 (fun _ h => ⟨_, St.refl, h⟩)
                            · rintro f_168 w_191 c_181 hB154 hs155 ⟨g144, -⟩ o ho; obtain rfl : _ = o := Option.some.inj ho
                              replace g144 : Adr v_17 ((0 : Int)).toNat 1 (f_168 233) := g144
                              have o100 := o51.keep (((((hs77.t hs93).t hs110).t hs124).t hs147).t hs155) (by decide)
                              exact OS.ld1 (u := vU32 e25) rfl Try.isAgg63 rfl (o100.ld g144 hc25) ⟨_, St.refl, rfl⟩
                            · rintro f_169 w_192 c_182 hB155 hs156 ⟨-⟩ o ho; obtain rfl : _ = o := Option.some.inj ho
                              exact OS.move (v := v_17) rfl ((hB155 15 (by kernel_rfl)).trans h138) ⟨_, St.refl, rfl⟩
                            · rintro f_170 w_193 c_183 hB156 hs157 ⟨g145, -⟩ o ho; obtain rfl : _ = o := Option.some.inj ho
                              replace g145 : (f_170 235) = v_17 := g145
                              have o101 := o51.keep (((((hs77.t hs93).t hs110).t hs124).t hs147).t hs157) (by decide)
                              exact OS.idx rfl Try.runUnderlying64 Try.sizeOf63 g145 o101.isSl rfl ha34 hb35 (fun _ h => ⟨_, St.refl, h⟩)
                            · rintro f_171 w_194 c_184 hB157 hs158 ⟨g146, -⟩ o ho; obtain rfl : _ = o := Option.some.inj ho
                              replace g146 : Adr v_17 ((1 : Int)).toNat 1 (f_171 236) := g146
                              have o102 := o51.keep (((((hs77.t hs93).t hs110).t hs124).t hs147).t hs158) (by decide)
                              exact OS.ld1 (u := vU32 e26) rfl Try.isAgg63 rfl (o102.ld g146 hc26) ⟨_, St.refl, rfl⟩
                            · rintro f_172 w_195 c_185 hB158 hs159 ⟨-⟩ o ho; obtain rfl : _ = o := Option.some.inj ho
                              exact OS.move (v := v_17) rfl ((hB158 15 (by kernel_rfl)).trans h138) ⟨_, St.refl, rfl⟩
                            · rintro f_173 w_196 c_186 hB159 hs160 ⟨g147, -⟩ o ho; obtain rfl : _ = o := Option.some.inj ho
                              replace g147 : (f_173 238) = v_17 := g147
                              have o103 := o51.keep (((((hs77.t hs93).t hs110).t hs124).t hs147).t hs160) (by decide)
                              exact OS.idx rfl Try.runUnderlying64 Try.sizeOf63 g147 o103.isSl rfl ha35 hb36 (fun _ h => ⟨_, St.refl, h⟩)
                            · rintro f_174 w_197 c_187 hB160 hs161 ⟨g148, -⟩ o ho; obtain rfl : _ = o := Option.some.inj ho
                              replace g148 : Adr v_17 ((2 : Int)).toNat 1 (f_174 239) := g148
                              have o104 := o51.keep (((((hs77.t hs93).t hs110).t hs124).t hs147).t hs161) (by decide)
                              exact OS.ld1 (u := vU32 e27) rfl Try.isAgg63 rfl (o104.ld g148 hc27) ⟨_, St.refl, rfl⟩
                            · rintro f_175 w_198 c_188 hB161 hs162 ⟨-⟩ o ho; obtain rfl : _ = o := Option.some.inj ho
                              exact OS.move (v := v_17) rfl ((hB161 15 (by kernel_rfl)).trans h138) ⟨_, St.refl, rfl⟩
                            · rintro f_176 w_199 c_189 hB162 hs163 ⟨g149, -⟩ o ho; obtain rfl : _ = o := Option.some.inj ho
                              replace g149 : (f_176 241) = v_17 := g149
                              have o105 := o51.keep (((((hs77.t hs93).t hs110).t hs124).t hs147).t hs163) (by decide)
                              exact OS.idx rfl Try.runUnderlying64 Try.sizeOf63 g149 o105.isSl rfl ha36 hb37 (fun _ h => ⟨_, St.refl, h⟩)
                            · rintro f_177 w_200 c_190 hB163 hs164 ⟨g150, -⟩ o ho; obtain rfl : _ = o := Option.some.inj ho
                              replace g150 : Adr v_17 ((3 : Int)).toNat 1 (f_177 242) := g150
                              have o106 := o51.keep (((((hs77.t hs93).t hs110).t hs124).t hs147).t hs164) (by decide)
                              exact OS.ld1 (u := vU32 e28) rfl Try.isAgg63 rfl (o106.ld g150 hc28) ⟨_, St.refl, rfl⟩
                            · rintro f_178 w_201 c_191 hB164 hs165 ⟨-⟩ o ho; obtain rfl : _ = o := Option.some.inj ho
                              exact OS.move (v := vU32 ((((e13 + ((r_5 ^^^ r_6) ^^^ r_7)) + ((e9 &&& e10) ^^^ ((~~~e11) &&& e12))) + e14) + e15)) rfl ((hB164 19 (by kernel_rfl)).trans h140) ⟨_, St.refl, rfl⟩
                            · rintro f_179 w_202 c_192 hB165 hs166 ⟨g151, g152, -⟩ o ho; obtain rfl : _ = o := Option.some.inj ho
                              replace g151 : (f_179 243) = vU32 e28 := g151
                              replace g152 : (f_179 244) = vU32 ((((e13 + ((r_5 ^^^ r_6) ^^^ r_7)) + ((e9 &&& e10) ^^^ ((~~~e11) &&& e12))) + e14) + e15) := g152
                              exact OS.bin (a := vU32 e28) (b := vU32 ((((e13 + ((r_5 ^^^ r_6) ^^^ r_7)) + ((e9 &&& e10) ^^^ ((~~~e11) &&& e12))) + e14) + e15)) rfl g151 g152 b32_add ⟨_, St.refl, rfl⟩
                            · rintro f_180 w_203 c_193 hB166 hs167 ⟨-⟩ o ho; obtain rfl : _ = o := Option.some.inj ho
                              exact OS.move (v := v_17) rfl ((hB166 15 (by kernel_rfl)).trans h138) ⟨_, St.refl, rfl⟩
                            · rintro f_181 w_204 c_194 hB167 hs168 ⟨g153, -⟩ o ho; obtain rfl : _ = o := Option.some.inj ho
                              replace g153 : (f_181 246) = v_17 := g153
                              have o107 := o51.keep (((((hs77.t hs93).t hs110).t hs124).t hs147).t hs168) (by decide)
                              exact OS.idx rfl Try.runUnderlying64 Try.sizeOf63 g153 o107.isSl rfl ha37 hb38 (fun _ h => ⟨_, St.refl, h⟩)
                            · rintro f_182 w_205 c_195 hB168 hs169 ⟨g154, -⟩ o ho; obtain rfl : _ = o := Option.some.inj ho
                              replace g154 : Adr v_17 ((4 : Int)).toNat 1 (f_182 247) := g154
                              have o108 := o51.keep (((((hs77.t hs93).t hs110).t hs124).t hs147).t hs169) (by decide)
                              exact OS.ld1 (u := vU32 e29) rfl Try.isAgg63 rfl (o108.ld g154 hc29) ⟨_, St.refl, rfl⟩
                            · rintro f_183 w_206 c_196 hB169 hs170 ⟨-⟩ o ho; obtain rfl : _ = o := Option.some.inj ho
                              exact OS.move (v := v_17) rfl ((hB169 15 (by kernel_rfl)).trans h138) ⟨_, St.refl, rfl⟩
                            · rintro f_184 w_207 c_197 hB170 hs171 ⟨g155, -⟩ o ho; obtain rfl : _ = o := Option.some.inj ho
                              replace g155 : (f_184 249) = v_17 := g155
                              have o109 := o51.keep (((((hs77.t hs93).t hs110).t hs124).t hs147).t hs171) (by decide)
                              exact OS.idx rfl Try.runUnderlying64 Try.sizeOf63 g155 o109.isSl rfl ha38 hb39 (fun _ h => ⟨_, St.refl, h⟩)
                            · rintro f_185 w_208 c_198 hB171 hs172 ⟨g156, -⟩ o ho; obtain rfl : _ = o := Option.some.inj ho
                              replace g156 : Adr v_17 ((5 : Int)).toNat 1 (f_185 250) := g156
                              have o110 := o51.keep (((((hs77.t hs93).t hs110).t hs124).t hs147).t hs172) (by decide)
                              exact OS.ld1 (u := vU32 e30) rfl Try.isAgg63 rfl (o110.ld g156 hc30) ⟨_, St.refl, rfl⟩
                            · rintro f_186 w_209 c_199 hB172 hs173 ⟨-⟩ o ho; obtain rfl : _ = o := Option.some.inj ho
                              exact OS.move (v := v_17) rfl ((hB172 15 (by kernel_rfl)).trans h138) ⟨_, St.refl, rfl⟩
                            · rintro f_187 w_210 c_200 hB173 hs174 ⟨g157, -⟩ o ho; obtain rfl : _ = o := Option.some.inj ho
                              replace g157 : (f_187 252) = v_17 := g157
                              have o111 := o51.keep (((((hs77.t hs93).t hs110).t hs124).t hs147).t hs174) (by decide)
                              exact OS.idx rfl Try.runUnderlying64 Try.sizeOf63 g157 o111.isSl rfl ha39 hb40 (fun _ h => ⟨_, St.refl, h⟩)
                            · rintro f_188 w_211 c_201 hB174 hs175 ⟨g158, -⟩ o ho; obtain rfl : _ = o := Option.some.inj ho
                              replace g158 : Adr v_17 ((6 : Int)).toNat 1 (f_188 253) := g158
                              have o112 := o51.keep (((((hs77.t hs93).t hs110).t hs124).t hs147).t hs175) (by decide)
                              exact OS.ld1 (u := vU32 e31) rfl Try.isAgg63 rfl (o112.ld g158 hc31) ⟨_, St.refl, rfl⟩
                            · rintro f_189 w_212 c_202 hB175 hs176 ⟨g159, g160, g161, g162, g163, g164, g165, g166, -⟩
                              have h142 := (hB175 2 (by kernel_rfl)).trans h132
                              have h143 := (hB175 3 (by kernel_rfl)).trans h133
                              have h144 := (hB175 4 (by kernel_rfl)).trans h134
                              have h145 := (hB175 5 (by kernel_rfl)).trans h135
                              have h146 := (hB175 8 (by kernel_rfl)).trans h136
                              have h147 := (hB175 9 (by kernel_rfl)).trans h137
                              have h148 := (hB175 16 (by kernel_rfl)).trans h139
                              replace g159 : (f_189 231) = vU32 ((((((e13 + ((r_5 ^^^ r_6) ^^^ r_7)) + ((e9 &&& e10) ^^^ ((~~~e11) &&& e12))) + e14) + e15) + ((r_8 ^^^ r_9) ^^^ r_10)) + (((e19 &&& e20) ^^^ (e21 &&& e22)) ^^^ (e23 &&& e24))) := g159
                              replace g160 : (f_189 234) = vU32 e25 := g160
                              replace g161 : (f_189 237) = vU32 e26 := g161
                              replace g162 : (f_189 240) = vU32 e27 := g162
                              replace g163 : (f_189 245) = vU32 (e28 + ((((e13 + ((r_5 ^^^ r_6) ^^^ r_7)) + ((e9 &&& e10) ^^^ ((~~~e11) &&& e12))) + e14) + e15)) := g163
                              replace g164 : (f_189 248) = vU32 e29 := g164
                              replace g165 : (f_189 251) = vU32 e30 := g165
                              replace g166 : (f_189 254) = vU32 e31 := g166
                              obtain ⟨l11, hl11, hl10⟩ := bind_some hl10
                              replace hl11 := (Option.some.inj hl11).symm
                              refine WR.k rfl rfl rfl (OS.bslice (E := E63) (c := c_202) 117 ([(((((e13 + ((r_5 ^^^ r_6) ^^^ r_7)) + ((e9 &&& e10) ^^^ ((~~~e11) &&& e12))) + e14) + e15) + ((r_8 ^^^ r_9) ^^^ r_10)) + (((e19 &&& e20) ^^^ (e21 &&& e22)) ^^^ (e23 &&& e24)), e25, e26, e27, e28 + ((((e13 + ((r_5 ^^^ r_6) ^^^ r_7)) + ((e9 &&& e10) ^^^ ((~~~e11) &&& e12))) + e14) + e15), e29, e30, e31] : List UInt32) [(0, vU32 ((((((e13 + ((r_5 ^^^ r_6) ^^^ r_7)) + ((e9 &&& e10) ^^^ ((~~~e11) &&& e12))) + e14) + e15) + ((r_8 ^^^ r_9) ^^^ r_10)) + (((e19 &&& e20) ^^^ (e21 &&& e22)) ^^^ (e23 &&& e24)))), (1, vU32 e25), (2, vU32 e26), (3, vU32 e27), (4, vU32 (e28 + ((((e13 + ((r_5 ^^^ r_6) ^^^ r_7)) + ((e9 &&& e10) ^^^ ((~~~e11) &&& e12))) + e14) + e15))), (5, vU32 e29), (6, vU32 e30), (7, vU32 e31)] rfl ⟨rfl, g159, rfl, g160, rfl, g161, rfl, g162, rfl, g163, rfl, g164, rfl, g165, rfl, g166, trivial⟩ (fun _ => by kernel_rfl) rfl (by decide) ?_); intro v_20 w_213 c_203 o113 s28
                              replace o113 : Ow E63 117 w_213 c_203 v_20 l11 := by rw [hl11]; exact o113
                              refine WR.k rfl rfl rfl (OS.assign (v := v_20) rfl rfl ?_)
                              refine WR.nil ?_
                              refine WC.region ?_
                              refine WR.k rfl rfl rfl (OS.move (v := vI i3) rfl h148 ?_)
                              refine WR.k rfl rfl rfl (OS.bin (a := vI i3) (b := vI (1 : Int)) rfl rfl rfl bI_add ?_)
                              refine WR.k rfl rfl rfl (OS.assign (v := vI (W (i3 + (1 : Int)))) rfl rfl ?_)
                              refine WR.nil ?_
                              obtain ⟨c_204, s29, o114⟩ := o113.recol 113
                              exact ⟨k, by omega, _, _, _, _, hl10, h142, h143, h144, h145, h146, h147, rfl, o114, rfl, ((((((((s27.t hs77).t hs93).t hs110).t hs124).t hs147).t hs176).t s28).t s29).mono (by decide)⟩
                · rw [if_neg (nt hb14)] at hl10
                  refine WC.exit ?_
                  cases hl10
                  obtain ⟨c_205, s30, o115⟩ := o51.recol 111
                  exact ⟨_, _, h90, h91, h92, h93, h94, h96, o115, (s27.t s30).mono (by decide)⟩
              · rintro f_75 w_98 ⟨v_19, c_87, h149, h150, h151, h152, h153, h154, o52, s31⟩
                refine WC.seq (WC.region ?_)
                refine WR.k rfl rfl rfl (OS.assign (v := vI (0 : Int)) rfl rfl ?_)
                refine WR.nil ?_
                obtain ⟨q7, hl12, hl6⟩ := bind_some hl6
                obtain ⟨h156, hx⟩ : ∃ z, z = q7 := ⟨_, rfl⟩; subst hx
                refine WC.blockJ2 (fun f_190 w_214 => ∃ (c_206 : Col), f_190 2 = p_ ∧ f_190 3 = v_1 ∧ Ow E63 13 w_214 c_206 v_1 h156 ∧ f_190 4 = v_2 ∧ f_190 5 = v_11 ∧ f_190 8 = vI at_ ∧ St [13] w_98 c_87 w_214 c_206) ?_ ?_
                · have o118 := o49.keep (s25.t s31) (by decide)
                  refine WC.loop (fun n => fun f_191 w_215 => ∃ (h155 : List UInt32) (i4 : Int) (c_207 : Col), holdfastref07_Sum.l8 n v_18 h155 i4 = some h156 ∧ f_191 2 = p_ ∧ f_191 3 = v_1 ∧ Ow E63 13 w_215 c_207 v_1 h155 ∧ f_191 4 = v_2 ∧ f_191 5 = v_11 ∧ f_191 8 = vI at_ ∧ f_191 15 = v_19 ∧ f_191 22 = vI i4 ∧ St [13] w_98 c_87 w_215 c_207) K ⟨_, _, _, hl12, h149, h150, o118, h151, h152, h153, h154, rfl, St.refl.mono (by decide)⟩ ?_
                  rintro n f_191 w_215 ⟨h155, i4, c_207, hl12, h157, h158, o116, h159, h160, h161, h162, h163, s32⟩
                  cases n with
                  | zero => exact absurd hl12 (by simp [holdfastref07_Sum.l8])
                  | succ k =>
                  rw [holdfastref07_Sum.l8] at hl12
                  refine WC.seq ?_
                  refine WC.seq (WC.region ?_)
                  refine WR.k rfl rfl rfl (OS.move (v := vI i4) rfl h163 ?_)
                  refine WR.k rfl rfl rfl (OS.bin (a := vI i4) (b := vI (8 : Int)) rfl rfl rfl bI_lss ?_)
                  refine WR.nil ?_
                  refine WC.cond (decide (i4 < (8 : Int))) rfl (fun hb41 => ?_) (fun hb41 => ?_)
                  · rw [if_pos hb41] at hl12
                    refine WC.skip ?_
                    refine WC.seq ?_
                    refine WC.block ?_
                    obtain ⟨e32, he32, hl12⟩ := bind_some hl12
                    obtain ⟨ha40, hb42, hc32⟩ := gt_some he32
                    have o119 := o52.keep s32 (by decide)
                    obtain ⟨e33, he33, hl12⟩ := bind_some hl12
                    obtain ⟨ha41, hb43, hc33⟩ := gt_some he33
                    refine WC.draw (c := c_207) ⟨8, [[1], [1], [1], [1], [1], [1], [1], [1]], [[], [], [], [], [], [], [], []], [], [[], [], [0, 1], [2], [], [], [4, 5], [6]], [0, 1, 3, 7]⟩ [fun v w c => v = v_1, fun v w c => v = vI i4, fun v w c => Adr v_1 (i4).toNat 1 v, fun v w c => v = vU32 e32, fun v w c => v = v_19, fun v w c => v = vI i4, fun v w c => Adr v_19 (i4).toNat 1 v, fun v w c => v = vU32 e33] hmix (by kernel_rfl) (by kernel_rfl) ⟨?_, ?_, ?_, ?_, ?_, ?_, ?_, ?_, trivial⟩ ⟨fun _ _ _ _ _ _ h _ _ => h, fun _ _ _ _ _ _ h _ _ => h, fun _ _ _ _ _ _ h _ _ => h, fun _ _ _ _ _ _ h _ _ => h, fun _ _ _ _ _ _ h _ _ => h, fun _ _ _ _ _ _ h _ _ => h, fun _ _ _ _ _ _ h _ _ => h, fun _ _ _ _ _ _ h _ _ => h, trivial⟩ ?_
                    · rintro f_192 w_216 c_208 hB176 hs177 ⟨-⟩ o ho; obtain rfl : _ = o := Option.some.inj ho
                      exact OS.move (v := v_1) rfl ((hB176 3 (by kernel_rfl)).trans h158) ⟨_, St.refl, rfl⟩
                    · rintro f_193 w_217 c_209 hB177 hs178 ⟨-⟩ o ho; obtain rfl : _ = o := Option.some.inj ho
                      exact OS.move (v := vI i4) rfl ((hB177 22 (by kernel_rfl)).trans h163) ⟨_, St.refl, rfl⟩
                    · rintro f_194 w_218 c_210 hB178 hs179 ⟨g167, g168, -⟩ o ho; obtain rfl : _ = o := Option.some.inj ho
                      replace g167 : (f_194 260) = v_1 := g167
                      replace g168 : (f_194 261) = vI i4 := g168
                      have o120 := o116.keep hs179 (by decide)
                      exact OS.idx rfl Try.runUnderlying64 Try.sizeOf63 g167 o120.isSl g168 ha40 hb42 (fun _ h => ⟨_, St.refl, h⟩)
                    · rintro f_195 w_219 c_211 hB179 hs180 ⟨g169, -⟩ o ho; obtain rfl : _ = o := Option.some.inj ho
                      replace g169 : Adr v_1 (i4).toNat 1 (f_195 262) := g169
                      have o121 := o116.keep hs180 (by decide)
                      exact OS.ld1 (u := vU32 e32) rfl Try.isAgg63 rfl (o121.ld g169 hc32) ⟨_, St.refl, rfl⟩
                    · rintro f_196 w_220 c_212 hB180 hs181 ⟨-⟩ o ho; obtain rfl : _ = o := Option.some.inj ho
                      exact OS.move (v := v_19) rfl ((hB180 15 (by kernel_rfl)).trans h162) ⟨_, St.refl, rfl⟩
                    · rintro f_197 w_221 c_213 hB181 hs182 ⟨-⟩ o ho; obtain rfl : _ = o := Option.some.inj ho
                      exact OS.move (v := vI i4) rfl ((hB181 22 (by kernel_rfl)).trans h163) ⟨_, St.refl, rfl⟩
                    · rintro f_198 w_222 c_214 hB182 hs183 ⟨g170, g171, -⟩ o ho; obtain rfl : _ = o := Option.some.inj ho
                      replace g170 : (f_198 264) = v_19 := g170
                      replace g171 : (f_198 265) = vI i4 := g171
                      have o122 := o52.keep (s32.t hs183) (by decide)
                      exact OS.idx rfl Try.runUnderlying64 Try.sizeOf63 g170 o122.isSl g171 ha41 hb43 (fun _ h => ⟨_, St.refl, h⟩)
                    · rintro f_199 w_223 c_215 hB183 hs184 ⟨g172, -⟩ o ho; obtain rfl : _ = o := Option.some.inj ho
                      replace g172 : Adr v_19 (i4).toNat 1 (f_199 266) := g172
                      have o123 := o52.keep (s32.t hs184) (by decide)
                      exact OS.ld1 (u := vU32 e33) rfl Try.isAgg63 rfl (o123.ld g172 hc33) ⟨_, St.refl, rfl⟩
                    · rintro f_200 w_224 c_216 hB184 hs185 ⟨g173, g174, g175, g176, -⟩
                      have h164 := (hB184 2 (by kernel_rfl)).trans h157
                      have h165 := (hB184 3 (by kernel_rfl)).trans h158
                      have h166 := (hB184 4 (by kernel_rfl)).trans h159
                      have h167 := (hB184 5 (by kernel_rfl)).trans h160
                      have h168 := (hB184 8 (by kernel_rfl)).trans h161
                      have h169 := (hB184 15 (by kernel_rfl)).trans h162
                      have h170 := (hB184 22 (by kernel_rfl)).trans h163
                      replace g173 : (f_200 260) = v_1 := g173
                      replace g174 : (f_200 261) = vI i4 := g174
                      replace g175 : (f_200 263) = vU32 e32 := g175
                      replace g176 : (f_200 267) = vU32 e33 := g176
                      refine WR.k rfl rfl rfl (OS.bin (a := vU32 e32) (b := vU32 e33) rfl g175 g176 b32_add ?_)
                      have o124 := o116.keep hs185 (by decide)
                      obtain ⟨u2, hu2, hl12⟩ := bind_some hl12
                      obtain ⟨ha42, hb44⟩ := req_some hu2
                      refine WR.k rfl rfl rfl (OS.idx rfl Try.runUnderlying64 Try.sizeOf63 g173 o124.isSl g174 ha42 hb44 ?_); intro p_3 a37
                      obtain ⟨h171, hh171, hl12⟩ := bind_some hl12
                      replace hh171 := (Option.some.inj hh171).symm
                      refine WR.k0 rfl rfl (OS.stOwn (q := e32 + e33) (u := vU32 (e32 + e33)) rfl Try.sizeOf63 rfl rfl o124 rfl a37 (by omega) rfl ?_); intro w_225 o125 s33
                      replace o125 : Ow E63 13 w_225 c_216 v_1 h171 := by rw [hh171]; exact o125
                      refine WR.nil ?_
                      refine WC.region ?_
                      refine WR.k rfl rfl rfl (OS.move (v := vI i4) rfl h170 ?_)
                      refine WR.k rfl rfl rfl (OS.bin (a := vI i4) (b := vI (1 : Int)) rfl rfl rfl bI_add ?_)
                      refine WR.k rfl rfl rfl (OS.assign (v := vI (W (i4 + (1 : Int)))) rfl rfl ?_)
                      refine WR.nil ?_
                      exact ⟨k, by omega, _, _, _, hl12, h164, h165, o125, h166, h167, h168, h169, rfl, ((s32.t hs185).t s33).mono (by decide)⟩
                  · rw [if_neg (nt hb41)] at hl12
                    refine WC.exit ?_
                    cases hl12
                    exact ⟨_, h157, h158, o116, h159, h160, h161, s32.mono (by decide)⟩
                · rintro f_190 w_214 ⟨c_206, h172, h173, o117, h174, h175, h176, s34⟩
                  refine WC.region ?_
                  refine WR.k rfl rfl rfl (OS.move (v := vI at_) rfl h176 ?_)
                  refine WR.k rfl rfl rfl (OS.bin (a := vI at_) (b := vI (64 : Int)) rfl rfl rfl bI_add ?_)
                  refine WR.k rfl rfl rfl (OS.assign (v := vI (W (at_ + (64 : Int)))) rfl rfl ?_)
                  refine WR.nil ?_
                  exact ⟨k, by omega, _, _, _, hl6, h172, h173, o117, h174, h175, rfl, ((((((s15.t s16).t s21).t s24).t s25).t s31).t s34).mono (by decide)⟩
        · rw [if_neg (nt hb2)] at hl6
          refine WC.exit ?_
          cases hl6
          exact ⟨_, h22, h23, o20, s15.mono (by decide)⟩
      · rintro f_4 w_14 ⟨c_14, h177, h178, o21, s35⟩
        refine WC.seq (WC.region ?_)
        refine WR.k rfl rfl rfl (OS.allocArr (E := E5) (xs := (List.replicate 32 (0 : UInt8))) (c := c_14) 121 rfl Try.zeroValue23 (by kernel_rfl) ?_); intro p_4 w_226 c_217 o126 s36
        refine WR.nil ?_
        refine WC.seq ?_
        refine WC.seq (WC.region ?_)
        refine WR.k rfl rfl rfl (OS.assign (v := vI (0 : Int)) rfl rfl ?_)
        refine WR.nil ?_
        obtain ⟨q8, hl15, hp⟩ := bind_some hp
        obtain ⟨xs4, hx⟩ : ∃ z, z = q8 := ⟨_, rfl⟩; subst hx
        refine WC.blockJ2 (fun f_201 w_227 => ∃ (c_218 : Col), f_201 2 = p_ ∧ f_201 23 = p_4 ∧ Arr E5 121 w_227 c_218 p_4 xs4 ∧ xs4.length = 32 ∧ St [121] w_226 c_217 w_227 c_218) ?_ ?_
        · refine WC.loop (fun n => fun f_202 w_228 => ∃ (xs3 : List UInt8) (i5 : Int) (c_219 : Col), holdfastref07_Sum.l9 n h21 xs3 i5 = some xs4 ∧ f_202 2 = p_ ∧ f_202 3 = v_1 ∧ f_202 23 = p_4 ∧ Arr E5 121 w_228 c_219 p_4 xs3 ∧ xs3.length = 32 ∧ f_202 24 = vI i5 ∧ St [121] w_226 c_217 w_228 c_219) K ⟨_, _, _, hl15, h177, h178, rfl, o126, (List.length_replicate (n := 32) (a := (0 : UInt8))), rfl, St.refl.mono (by decide)⟩ ?_
          rintro n f_202 w_228 ⟨xs3, i5, c_219, hl15, h179, h180, h181, o127, hl13, h182, s37⟩
          cases n with
          | zero => exact absurd hl15 (by simp [holdfastref07_Sum.l9])
          | succ k =>
          rw [holdfastref07_Sum.l9] at hl15
          refine WC.seq ?_
          refine WC.seq (WC.region ?_)
          refine WR.k rfl rfl rfl (OS.move (v := vI i5) rfl h182 ?_)
          refine WR.k rfl rfl rfl (OS.bin (a := vI i5) (b := vI (32 : Int)) rfl rfl rfl bI_lss ?_)
          refine WR.nil ?_
          refine WC.cond (decide (i5 < (32 : Int))) rfl (fun hb45 => ?_) (fun hb45 => ?_)
          · rw [if_pos hb45] at hl15
            refine WC.skip ?_
            refine WC.seq ?_
            refine WC.block ?_
            refine WC.region ?_
            refine WR.k rfl rfl rfl (OS.move (v := vI i5) rfl h182 ?_)
            refine WR.k rfl rfl rfl (OS.move (v := v_1) rfl h180 ?_)
            refine WR.k rfl rfl rfl (OS.move (v := vI i5) rfl h182 ?_)
            refine WR.k rfl rfl rfl (OS.bin (a := vI i5) (b := vI (4 : Int)) rfl rfl rfl (bI_quo (by decide)) ?_)
            have o129 := o21.keep (s36.t s37) (by decide)
            obtain ⟨e34, he34, hl15⟩ := bind_some hl15
            obtain ⟨ha43, hb46, hc34⟩ := gt_some he34
            refine WR.k rfl rfl rfl (OS.idx rfl Try.runUnderlying64 Try.sizeOf63 rfl o129.isSl rfl ha43 hb46 ?_); intro p_5 a38
            refine WR.k rfl rfl rfl (OS.ld1 (u := vU32 e34) rfl Try.isAgg63 rfl (o129.ld a38 hc34) ?_)
            refine WR.k rfl rfl rfl (OS.move (v := vI i5) rfl h182 ?_)
            refine WR.k rfl rfl rfl (OS.bin (a := vI i5) (b := vI (4 : Int)) rfl rfl rfl (bI_rem (by decide)) ?_)
            refine WR.k rfl rfl rfl (OS.bin (a := vI (8 : Int)) (b := vI (i5.tmod (4 : Int))) rfl rfl rfl bI_mul ?_)
            refine WR.k rfl rfl rfl (OS.bin (a := vI (24 : Int)) (b := vI (W ((8 : Int) * (i5.tmod (4 : Int))))) rfl rfl rfl bI_sub ?_)
            obtain ⟨k2, hk2, hl15⟩ := bind_some hl15
            obtain ⟨ha44, hk2⟩ := shc_some hk2
            refine WR.k rfl rfl rfl (OS.bin (a := vU32 e34) (b := vI (W ((24 : Int) - (W ((8 : Int) * (i5.tmod (4 : Int))))))) rfl rfl rfl (b32_shr ha44) ?_)
            refine WR.k rfl rfl rfl (OS.conv rfl Try.runUnderlying63 Try.runUnderlying5 rfl (cv_32_8 _) ?_)
            obtain ⟨u3, hu3, hl15⟩ := bind_some hl15
            obtain ⟨ha45, hb47⟩ := req_some hu3
            refine WR.k rfl rfl rfl (OS.idxArr rfl Try.runUnderlying23 Try.sizeOf5 h181 o127 rfl ha45 (by have := hb47; rw [hl13] at this; exact this) ?_); intro p_6 a39
            obtain ⟨xs5, hxs5, hl15⟩ := bind_some hl15
            replace hxs5 := (Option.some.inj hxs5).symm
            refine WR.k0 rfl rfl (OS.stArr (q := (shr32 e34 (W ((24 : Int) - (W ((8 : Int) * (i5.tmod (4 : Int)))))).toNat).toUInt8) (u := vU8 ((shr32 e34 (W ((24 : Int) - (W ((8 : Int) * (i5.tmod (4 : Int)))))).toNat).toUInt8)) rfl Try.sizeOf5 rfl rfl o127 rfl a39 (by have h1 := (by have := hb47; rw [hl13] at this; exact this); rw [hl13]; omega) rfl ?_); intro w_229 o130 s38
            replace o130 : Arr E5 121 w_229 c_219 p_4 xs5 := by rw [hxs5]; exact o130
            have hl16 : xs5.length = 32 := (by rw [hxs5, List.length_set]; exact hl13)
            refine WR.nil ?_
            refine WC.region ?_
            refine WR.k rfl rfl rfl (OS.move (v := vI i5) rfl h182 ?_)
            refine WR.k rfl rfl rfl (OS.bin (a := vI i5) (b := vI (1 : Int)) rfl rfl rfl bI_add ?_)
            refine WR.k rfl rfl rfl (OS.assign (v := vI (W (i5 + (1 : Int)))) rfl rfl ?_)
            refine WR.nil ?_
            exact ⟨k, by omega, _, _, _, hl15, h179, h180, h181, o130, hl16, rfl, (s37.t s38).mono (by decide)⟩
          · rw [if_neg (nt hb45)] at hl15
            refine WC.exit ?_
            cases hl15
            exact ⟨_, h179, h181, o127, hl13, s37.mono (by decide)⟩
        · rintro f_201 w_227 ⟨c_218, h183, h184, o128, hl14, s39⟩
          refine WC.seq (WC.region ?_)
          refine WR.k rfl rfl rfl (OS.ldN rfl Try.isAgg23 Try.sizeOf23 h184 o128.ldAll (by rw [fl_length, hl14]; rfl) ?_)
          have o131 := o1.keep (((((((((s1.t s3).t s4).t s5).t s6).t s10).t s14).t s35).t s36).t s39) (by decide)
          refine WR.k0 rfl rfl (OS.stArrAll rfl Try.sizeOf23 h183 rfl o131 (by rw [fl_length, hl14]; rfl) (Eq.trans (List.length_replicate (n := 32) (a := (0 : UInt8))) (Eq.symm hl14)) ?_); intro w_230 o132 s40
          have hl17 : xs4.length = 32 := hl14
          refine WR.nil ?_
          refine WC.ret ?_
          repeat first | refine thenQ_ret ?_ | refine blkQ_ret ?_
          cases hp
          exact fnQ.l1 (fn := Try.f32) rfl (.inr ⟨_, _, _, _, rfl, ⟨_, h183, Try.isAgg23, Try.sizeOf23, o132.ldAll, (by rw [fl_length, hl17]; rfl)⟩, rfl⟩) ⟨_, rfl, (((((((((((s.t s1).t s3).t s4).t s5).t s6).t s10).t s14).t s35).t s36).t s39).t s40).entry (by decide), hl17⟩

-- holdfast/holdfastref07.Tag
set_option maxHeartbeats 4000000 in
theorem W27 (K : Nat) (w0 : World) {key : List UInt8} {b : List UInt8} {r : (List UInt8)} (hp : holdfastref07_Tag K key b = some r) {v_ : Value} (o : Vw E5 0 w0 c0 v_ key) {v_1 : Value} (o1 : Vw E5 0 w0 c0 v_1 b) :
    Calls Try.prog 27 [v_, v_1].toArray w0 fun e w1 => ∃ (d : Col), e = .returned (.agg (fl E5 r).toArray) ∧ St [] w0 c0 w1 d ∧ r.length = 32 := by
  refine calls_intro Try.func27 rfl Try.ntmps27 rfl ?_
  unfold holdfastref07_Tag at hp
  refine WC.seq (WC.region ?_)
  refine WR.k rfl rfl rfl (OS.allocArr (E := E5) (xs := (List.replicate 32 (0 : UInt8))) (c := c0) 12 rfl Try.zeroValue23 (by kernel_rfl) ?_); intro p_ w_ c_ o2 s
  refine WR.nil ?_
  refine WC.seq (WC.region ?_)
  refine WR.k rfl rfl rfl (OS.assign (v := (.slice none 0 0)) rfl rfl ?_)
  refine WR.nil ?_
  refine WC.seq (WC.region ?_)
  refine WR.k rfl rfl rfl (OS.move (v := (.slice none 0 0)) rfl rfl ?_)
  refine WR.k rfl rfl rfl (OS.move (v := v_) rfl rfl ?_)
  have o3 := o.keep s (by decide)
  obtain ⟨xs, hxs, hp⟩ := bind_some hp
  obtain ⟨ha, hxs⟩ := app_some hxs
  refine WR.k rfl rfl rfl (OS.append (E := E5) (c := c_) (i := 13) (xs := ([] : List UInt8)) (ys := key) rfl Try.underlying25 Try.underlying25 (.inl rfl) I5 rfl rfl rfl rfl rfl Ow.nil o3.src (lim_bytes (by decide) ha) (lim_max (b := 1) (by decide) ha) ?_); intro v_2 w_1 c_1 o4 s1
  replace o4 : Ow E5 13 w_1 c_1 v_2 xs := by rw [hxs]; exact o4
  refine WR.k rfl rfl rfl (OS.assign (v := v_2) rfl rfl ?_)
  refine WR.nil ?_
  refine WC.seq ?_
  refine WC.seq (WC.region ?_)
  refine WR.k rfl rfl rfl (OS.move (v := v_2) rfl rfl ?_)
  refine WR.k rfl rfl rfl (OS.lenSl rfl Try.runUnderlying25 rfl o4.isSl ?_)
  refine WR.k rfl rfl rfl (OS.bin (a := vI (xs.length : Int)) (b := vI (64 : Int)) rfl rfl rfl bI_gtr ?_)
  refine WR.nil ?_
  refine WC.endJ (fun f_ w_2 => ∃ (k1 : List UInt8) (v_3 : Value) (c_2 : Col), holdfastref07_Tag.j1 K b k1 = some r ∧ f_ 1 = v_1 ∧ f_ 4 = p_ ∧ f_ 5 = v_3 ∧ Ow E5 19 w_2 c_2 v_3 k1 ∧ St [13, 23] w_1 c_1 w_2 c_2) ?_ ?_
  · refine WC.cond (decide ((64 : Int) < (xs.length : Int))) rfl (fun hb => ?_) (fun hb => ?_)
    · rw [if_pos hb] at hp
      refine WC.region ?_
      refine WR.k rfl rfl rfl (OS.move (v := v_) rfl rfl ?_)
      have o6 := o3.keep s1 (by decide)
      obtain ⟨r_, hr_, hp⟩ := bind_some hp
      refine WR.k rfl rfl rfl (OS.callF (vs := [v_]) rfl ⟨rfl, trivial⟩ Try.call32 ((W32 K w_1 hr_ o6.forget).mono ?_))
      rintro _ w_3 ⟨d, rfl, s2, hl⟩
      refine ⟨_, rfl, ?_⟩
      obtain ⟨c_3, s3⟩ : ∃ c_3, St [] w_1 c_1 w_3 c_3 := ⟨_, s2.merge (fun x => x + 19)⟩
      obtain ⟨r_1, hr_1, hp⟩ := bind_some hp
      refine WR.k rfl rfl rfl (OS.callF (vs := [.agg (fl E5 r_).toArray]) rfl ⟨rfl, trivial⟩ Try.call31 ((W31 K w_3 hr_1 hl).mono ?_))
      rintro _ w_4 ⟨v_4, d1, rfl, s4, o7⟩
      refine ⟨_, rfl, ?_⟩
      obtain ⟨c_4, s5, o7⟩ : ∃ c_4, St [] w_3 c_3 w_4 c_4 ∧ Ow E5 23 w_4 c_4 v_4 r_1 := ⟨_, s4.merge (fun x => x + 21), o7.merge (fun x => x + 21) s4 (by decide)⟩
      refine WR.k rfl rfl rfl (OS.assign (v := v_4) rfl rfl ?_)
      refine WR.nil ?_
      obtain ⟨c_5, s6, o8⟩ := o7.recol 19
      exact ⟨_, _, _, hp, rfl, rfl, rfl, o8, ((s3.t s5).t s6).mono (by decide)⟩
    · rw [if_neg (nt hb)] at hp
      refine WC.skip ?_
      obtain ⟨c_6, s7, o9⟩ := o4.recol 19
      exact ⟨_, _, _, hp, rfl, rfl, rfl, o9, s7.mono (by decide)⟩
  · rintro f_ w_2 ⟨k1, v_3, c_2, hp, h, h1, h2, o5, s8⟩
    unfold holdfastref07_Tag.j1 at hp
    refine WC.seq ?_
    obtain ⟨q, hl1, hp⟩ := bind_some hp
    obtain ⟨k3, hx⟩ : ∃ z, z = q := ⟨_, rfl⟩; subst hx
    refine WC.blockJ2 (fun f_1 w_5 => ∃ (v_6 : Value) (c_7 : Col), f_1 1 = v_1 ∧ f_1 4 = p_ ∧ f_1 5 = v_6 ∧ Ow E5 19 w_5 c_7 v_6 k3 ∧ St [19] w_2 c_2 w_5 c_7) ?_ ?_
    · refine WC.loop (fun n => fun f_2 w_6 => ∃ (k2 : List UInt8) (v_5 : Value) (c_8 : Col), holdfastref07_Tag.l1 n k2 = some k3 ∧ f_2 1 = v_1 ∧ f_2 4 = p_ ∧ f_2 5 = v_5 ∧ Ow E5 19 w_6 c_8 v_5 k2 ∧ St [19] w_2 c_2 w_6 c_8) K ⟨_, _, _, hl1, h, h1, h2, o5, St.refl.mono (by decide)⟩ ?_
      rintro n f_2 w_6 ⟨k2, v_5, c_8, hl1, h3, h4, h5, o10, s9⟩
      cases n with
      | zero => exact absurd hl1 (by simp [holdfastref07_Tag.l1])
      | succ k =>
      rw [holdfastref07_Tag.l1] at hl1
      refine WC.seq ?_
      refine WC.seq (WC.region ?_)
      refine WR.k rfl rfl rfl (OS.move (v := v_5) rfl h5 ?_)
      refine WR.k rfl rfl rfl (OS.lenSl rfl Try.runUnderlying25 rfl o10.isSl ?_)
      refine WR.k rfl rfl rfl (OS.bin (a := vI (k2.length : Int)) (b := vI (64 : Int)) rfl rfl rfl bI_lss ?_)
      refine WR.nil ?_
      refine WC.cond (decide ((k2.length : Int) < (64 : Int))) rfl (fun hb1 => ?_) (fun hb1 => ?_)
      · rw [if_pos hb1] at hl1
        refine WC.skip ?_
        refine WC.block ?_
        refine WC.region ?_
        refine WR.k rfl rfl rfl (OS.move (v := v_5) rfl h5 ?_)
        obtain ⟨l2, hl2, hl1⟩ := bind_some hl1
        replace hl2 := (Option.some.inj hl2).symm
        refine WR.k rfl rfl rfl (OS.bslice (E := E5) (c := c_8) 30 ([(0 : UInt8)] : List UInt8) [(0, vU8 (0 : UInt8))] rfl ⟨rfl, (by kernel_rfl), trivial⟩ (fun _ => by kernel_rfl) rfl (by decide) ?_); intro v_7 w_7 c_9 o12 s10
        replace o12 : Ow E5 30 w_7 c_9 v_7 l2 := by rw [hl2]; exact o12
        have o13 := o10.keep s10 (by decide)
        obtain ⟨k4, hk4, hl1⟩ := bind_some hl1
        obtain ⟨ha1, hk4⟩ := app_some hk4
        refine WR.k rfl rfl rfl (OS.append (E := E5) (c := c_9) (i := 19) (xs := k2) (ys := l2) rfl Try.underlying25 Try.underlying25 (.inl rfl) I5 rfl rfl rfl rfl rfl o13 o12.vw.src (lim_bytes (by decide) ha1) (lim_max (b := 1) (by decide) ha1) ?_); intro v_8 w_8 c_10 o14 s11
        replace o14 : Ow E5 19 w_8 c_10 v_8 k4 := by rw [hk4]; exact o14
        refine WR.k rfl rfl rfl (OS.assign (v := v_8) rfl rfl ?_)
        refine WR.nil ?_
        exact ⟨k, by omega, _, _, _, hl1, h3, h4, rfl, o14, ((s9.t s10).t s11).mono (by decide)⟩
      · rw [if_neg (nt hb1)] at hl1
        refine WC.exit ?_
        cases hl1
        exact ⟨_, _, h3, h4, h5, o10, s9.mono (by decide)⟩
    · rintro f_1 w_5 ⟨v_6, c_7, h6, h7, h8, o11, s12⟩
      refine WC.seq (WC.region ?_)
      refine WR.k rfl rfl rfl (OS.assign (v := (.slice none 0 0)) rfl rfl ?_)
      refine WR.k rfl rfl rfl (OS.assign (v := (.slice none 0 0)) rfl rfl ?_)
      refine WR.nil ?_
      refine WC.seq ?_
      refine WC.seq (WC.region ?_)
      refine WR.k rfl rfl rfl (OS.assign (v := vI (0 : Int)) rfl rfl ?_)
      refine WR.nil ?_
      obtain ⟨q1, hl3, hp⟩ := bind_some hp
      obtain ⟨in_1, out1⟩ := q1; dsimp only at hp
      refine WC.blockJ2 (fun f_3 w_9 => ∃ (v_11 : Value) (v_12 : Value) (c_11 : Col), f_3 1 = v_1 ∧ f_3 4 = p_ ∧ f_3 6 = v_11 ∧ Ow E5 31 w_9 c_11 v_11 in_1 ∧ f_3 7 = v_12 ∧ Ow E5 32 w_9 c_11 v_12 out1 ∧ St [31, 32] w_5 c_7 w_9 c_11) ?_ ?_
      · refine WC.loop (fun n => fun f_4 w_10 => ∃ (in_ : List UInt8) (out : List UInt8) (i : Int) (v_9 : Value) (v_10 : Value) (c_12 : Col), holdfastref07_Tag.l2 n k3 in_ out i = some (in_1, out1) ∧ f_4 1 = v_1 ∧ f_4 4 = p_ ∧ f_4 5 = v_6 ∧ f_4 6 = v_9 ∧ Ow E5 31 w_10 c_12 v_9 in_ ∧ f_4 7 = v_10 ∧ Ow E5 32 w_10 c_12 v_10 out ∧ f_4 8 = vI i ∧ St [31, 32] w_5 c_7 w_10 c_12) K ⟨_, _, _, _, _, _, hl3, h6, h7, h8, rfl, Ow.nil, rfl, Ow.nil, rfl, St.refl.mono (by decide)⟩ ?_
        rintro n f_4 w_10 ⟨in_, out, i, v_9, v_10, c_12, hl3, h9, h10, h11, h12, o15, h13, o16, h14, s13⟩
        cases n with
        | zero => exact absurd hl3 (by simp [holdfastref07_Tag.l2])
        | succ k =>
        rw [holdfastref07_Tag.l2] at hl3
        refine WC.seq ?_
        refine WC.seq (WC.region ?_)
        refine WR.k rfl rfl rfl (OS.move (v := vI i) rfl h14 ?_)
        refine WR.k rfl rfl rfl (OS.bin (a := vI i) (b := vI (64 : Int)) rfl rfl rfl bI_lss ?_)
        refine WR.nil ?_
        refine WC.cond (decide (i < (64 : Int))) rfl (fun hb2 => ?_) (fun hb2 => ?_)
        · rw [if_pos hb2] at hl3
          refine WC.skip ?_
          refine WC.seq ?_
          refine WC.block ?_
          refine WC.seq (WC.region ?_)
          refine WR.k rfl rfl rfl (OS.move (v := v_9) rfl h12 ?_)
          refine WR.k rfl rfl rfl (OS.move (v := v_6) rfl h11 ?_)
          refine WR.k rfl rfl rfl (OS.move (v := vI i) rfl h14 ?_)
          have o19 := o11.keep s13 (by decide)
          obtain ⟨e, he, hl3⟩ := bind_some hl3
          obtain ⟨ha2, hb3, hc⟩ := gt_some he
          refine WR.k rfl rfl rfl (OS.idx rfl Try.runUnderlying25 Try.sizeOf5 rfl o19.isSl rfl ha2 hb3 ?_); intro p_1 a1
          refine WR.k rfl rfl rfl (OS.ld1 (u := vU8 e) rfl Try.isAgg5 rfl (o19.ld a1 hc) ?_)
          refine WR.k rfl rfl rfl (OS.bin (a := vU8 e) (b := vU8 (54 : UInt8)) rfl rfl (by kernel_rfl) b8_xor ?_)
          obtain ⟨l4, hl4, hl3⟩ := bind_some hl3
          replace hl4 := (Option.some.inj hl4).symm
          refine WR.k rfl rfl rfl (OS.bslice (E := E5) (c := c_12) 40 ([e ^^^ (54 : UInt8)] : List UInt8) [(0, vU8 (e ^^^ (54 : UInt8)))] rfl ⟨rfl, rfl, trivial⟩ (fun _ => by kernel_rfl) rfl (by decide) ?_); intro v_13 w_11 c_13 o20 s14
          replace o20 : Ow E5 40 w_11 c_13 v_13 l4 := by rw [hl4]; exact o20
          have o21 := o15.keep s14 (by decide)
          obtain ⟨in_2, hin_2, hl3⟩ := bind_some hl3
          obtain ⟨ha3, hin_2⟩ := app_some hin_2
          refine WR.k rfl rfl rfl (OS.append (E := E5) (c := c_13) (i := 31) (xs := in_) (ys := l4) rfl Try.underlying25 Try.underlying25 (.inl rfl) I5 rfl rfl rfl rfl rfl o21 o20.vw.src (lim_bytes (by decide) ha3) (lim_max (b := 1) (by decide) ha3) ?_); intro v_14 w_12 c_14 o22 s15
          replace o22 : Ow E5 31 w_12 c_14 v_14 in_2 := by rw [hin_2]; exact o22
          refine WR.k rfl rfl rfl (OS.assign (v := v_14) rfl rfl ?_)
          refine WR.nil ?_
          refine WC.region ?_
          refine WR.k rfl rfl rfl (OS.move (v := v_10) rfl h13 ?_)
          refine WR.k rfl rfl rfl (OS.move (v := v_6) rfl h11 ?_)
          refine WR.k rfl rfl rfl (OS.move (v := vI i) rfl h14 ?_)
          have o23 := o19.keep (s14.t s15) (by decide)
          obtain ⟨e1, he1, hl3⟩ := bind_some hl3
          obtain ⟨ha4, hb4, hc1⟩ := gt_some he1
          refine WR.k rfl rfl rfl (OS.idx rfl Try.runUnderlying25 Try.sizeOf5 rfl o23.isSl rfl ha4 hb4 ?_); intro p_2 a2
          refine WR.k rfl rfl rfl (OS.ld1 (u := vU8 e1) rfl Try.isAgg5 rfl (o23.ld a2 hc1) ?_)
          refine WR.k rfl rfl rfl (OS.bin (a := vU8 e1) (b := vU8 (92 : UInt8)) rfl rfl (by kernel_rfl) b8_xor ?_)
          obtain ⟨l5, hl5, hl3⟩ := bind_some hl3
          replace hl5 := (Option.some.inj hl5).symm
          refine WR.k rfl rfl rfl (OS.bslice (E := E5) (c := c_14) 41 ([e1 ^^^ (92 : UInt8)] : List UInt8) [(0, vU8 (e1 ^^^ (92 : UInt8)))] rfl ⟨rfl, rfl, trivial⟩ (fun _ => by kernel_rfl) rfl (by decide) ?_); intro v_15 w_13 c_15 o24 s16
          replace o24 : Ow E5 41 w_13 c_15 v_15 l5 := by rw [hl5]; exact o24
          have o25 := o16.keep ((s14.t s15).t s16) (by decide)
          obtain ⟨out2, hout2, hl3⟩ := bind_some hl3
          obtain ⟨ha5, hout2⟩ := app_some hout2
          refine WR.k rfl rfl rfl (OS.append (E := E5) (c := c_15) (i := 32) (xs := out) (ys := l5) rfl Try.underlying25 Try.underlying25 (.inl rfl) I5 rfl rfl rfl rfl rfl o25 o24.vw.src (lim_bytes (by decide) ha5) (lim_max (b := 1) (by decide) ha5) ?_); intro v_16 w_14 c_16 o26 s17
          replace o26 : Ow E5 32 w_14 c_16 v_16 out2 := by rw [hout2]; exact o26
          refine WR.k rfl rfl rfl (OS.assign (v := v_16) rfl rfl ?_)
          refine WR.nil ?_
          refine WC.region ?_
          refine WR.k rfl rfl rfl (OS.move (v := vI i) rfl h14 ?_)
          refine WR.k rfl rfl rfl (OS.bin (a := vI i) (b := vI (1 : Int)) rfl rfl rfl bI_add ?_)
          refine WR.k rfl rfl rfl (OS.assign (v := vI (W (i + (1 : Int)))) rfl rfl ?_)
          refine WR.nil ?_
          have o27 := o22.keep (s16.t s17) (by decide)
          exact ⟨k, by omega, _, _, _, _, _, _, hl3, h9, h10, h11, rfl, o27, rfl, o26, rfl, ((((s13.t s14).t s15).t s16).t s17).mono (by decide)⟩
        · rw [if_neg (nt hb2)] at hl3
          refine WC.exit ?_
          cases hl3
          exact ⟨_, _, _, h9, h10, h12, o15, h13, o16, s13.mono (by decide)⟩
      · rintro f_3 w_9 ⟨v_11, v_12, c_11, h15, h16, h17, o17, h18, o18, s18⟩
        refine WC.seq (WC.region ?_)
        refine WR.k rfl rfl rfl (OS.move (v := v_11) rfl h17 ?_)
        refine WR.k rfl rfl rfl (OS.move (v := v_1) rfl h15 ?_)
        have o28 := o1.keep ((((s.t s1).t s8).t s12).t s18) (by decide)
        obtain ⟨in_3, hin_3, hp⟩ := bind_some hp
        obtain ⟨ha6, hin_3⟩ := app_some hin_3
        refine WR.k rfl rfl rfl (OS.append (E := E5) (c := c_11) (i := 31) (xs := in_1) (ys := b) rfl Try.underlying25 Try.underlying25 (.inl rfl) I5 rfl rfl rfl rfl rfl o17 o28.src (lim_bytes (by decide) ha6) (lim_max (b := 1) (by decide) ha6) ?_); intro v_17 w_15 c_17 o29 s19
        replace o29 : Ow E5 31 w_15 c_17 v_17 in_3 := by rw [hin_3]; exact o29
        refine WR.k rfl rfl rfl (OS.assign (v := v_17) rfl rfl ?_)
        refine WR.nil ?_
        refine WC.seq (WC.region ?_)
        refine WR.k rfl rfl rfl (OS.move (v := v_12) rfl h18 ?_)
        refine WR.k rfl rfl rfl (OS.move (v := v_17) rfl rfl ?_)
        obtain ⟨r_2, hr_2, hp⟩ := bind_some hp
        refine WR.k rfl rfl rfl (OS.callF (vs := [v_17]) rfl ⟨rfl, trivial⟩ Try.call32 ((W32 K w_15 hr_2 o29.vw.forget).mono ?_))
        rintro _ w_16 ⟨d2, rfl, s20, hl6⟩
        refine ⟨_, rfl, ?_⟩
        obtain ⟨c_18, s21⟩ : ∃ c_18, St [] w_15 c_17 w_16 c_18 := ⟨_, s20.merge (fun x => x + 41)⟩
        obtain ⟨r_3, hr_3, hp⟩ := bind_some hp
        refine WR.k rfl rfl rfl (OS.callF (vs := [.agg (fl E5 r_2).toArray]) rfl ⟨rfl, trivial⟩ Try.call31 ((W31 K w_16 hr_3 hl6).mono ?_))
        rintro _ w_17 ⟨v_18, d3, rfl, s22, o30⟩
        refine ⟨_, rfl, ?_⟩
        obtain ⟨c_19, s23, o30⟩ : ∃ c_19, St [] w_16 c_18 w_17 c_19 ∧ Ow E5 45 w_17 c_19 v_18 r_3 := ⟨_, s22.merge (fun x => x + 43), o30.merge (fun x => x + 43) s22 (by decide)⟩
        have o31 := o18.keep ((s19.t s21).t s23) (by decide)
        obtain ⟨out3, hout3, hp⟩ := bind_some hp
        obtain ⟨ha7, hout3⟩ := app_some hout3
        refine WR.k rfl rfl rfl (OS.append (E := E5) (c := c_19) (i := 32) (xs := out1) (ys := r_3) rfl Try.underlying25 Try.underlying25 (.inl rfl) I5 rfl rfl rfl rfl rfl o31 o30.vw.src (lim_bytes (by decide) ha7) (lim_max (b := 1) (by decide) ha7) ?_); intro v_19 w_18 c_20 o32 s24
        replace o32 : Ow E5 32 w_18 c_20 v_19 out3 := by rw [hout3]; exact o32
        refine WR.k rfl rfl rfl (OS.assign (v := v_19) rfl rfl ?_)
        refine WR.nil ?_
        refine WC.seq (WC.region ?_)
        refine WR.k rfl rfl rfl (OS.move (v := v_19) rfl rfl ?_)
        obtain ⟨r_4, hr_4, hp⟩ := bind_some hp
        refine WR.k rfl rfl rfl (OS.callF (vs := [v_19]) rfl ⟨rfl, trivial⟩ Try.call32 ((W32 K w_18 hr_4 o32.vw.forget).mono ?_))
        rintro _ w_19 ⟨d4, rfl, s25, hl7⟩
        refine ⟨_, rfl, ?_⟩
        obtain ⟨c_21, s26⟩ : ∃ c_21, St [] w_18 c_20 w_19 c_21 := ⟨_, s25.merge (fun x => x + 46)⟩
        have o33 := o2.keep ((((((((s1.t s8).t s12).t s18).t s19).t s21).t s23).t s24).t s26) (by decide)
        refine WR.k0 rfl rfl (OS.stArrAll rfl Try.sizeOf23 h16 rfl o33 (by rw [fl_length, hl7]; rfl) (Eq.trans (List.length_replicate (n := 32) (a := (0 : UInt8))) (Eq.symm hl7)) ?_); intro w_20 o34 s27
        have hl8 : r_4.length = 32 := hl7
        refine WR.nil ?_
        refine WC.ret ?_
        repeat first | refine thenQ_ret ?_ | refine blkQ_ret ?_
        cases hp
        exact fnQ.l1 (fn := Try.f27) rfl (.inr ⟨_, _, _, _, rfl, ⟨_, h16, Try.isAgg23, Try.sizeOf23, o34.ldAll, (by rw [fl_length, hl8]; rfl)⟩, rfl⟩) ⟨_, rfl, ((((((((((s.t s1).t s8).t s12).t s18).t s19).t s21).t s23).t s24).t s26).t s27).entry (by decide), hl8⟩

-- holdfast/holdfastref08.Stream
set_option maxHeartbeats 4000000 in
theorem W17 (K : Nat) (w0 : World) {key : List UInt8} {once : UInt64} {n1 : Int} {r : (List UInt8) × Int} (hp : holdfastref08_Stream K key once n1 = some r) (hl : key.length = 32) :
    Calls Try.prog 17 [.agg (fl E5 key).toArray, vU64 once, vI n1].toArray w0 fun e w1 => ∃ (v0 : Value) (d : Col), e = .returned (.tuple #[v0, vI r.2]) ∧ St [] w0 c0 w1 d ∧ Ow E5 2 w1 d v0 r.1 := by
  refine calls_intro Try.func17 rfl Try.ntmps17 rfl ?_
  unfold holdfastref08_Stream at hp
  refine WC.seq (WC.region ?_)
  refine WR.k rfl rfl rfl (OS.boxArr (E := E5) (c := c0) 12 rfl rfl ?_); intro p_ w_ c_ o s
  refine WR.k rfl rfl rfl (OS.assign (v := (.slice none 0 0)) rfl rfl ?_)
  refine WR.k rfl rfl rfl (OS.assign (v := vI (0 : Int)) rfl rfl ?_)
  refine WR.nil ?_
  refine WC.seq ?_
  refine WC.seq (WC.region ?_)
  refine WR.k rfl rfl rfl (OS.move (v := vI n1) rfl rfl ?_)
  refine WR.k rfl rfl rfl (OS.bin (a := vI n1) (b := vI (0 : Int)) rfl rfl rfl bI_lss ?_)
  refine WR.k rfl rfl rfl (OS.move (v := vB (decide (n1 < (0 : Int)))) rfl rfl ?_)
  refine WR.cut2 3 (fun f_ w_1 => f_ 1 = vU64 once ∧ f_ 2 = vI n1 ∧ f_ 3 = p_ ∧ f_ 16 = vB ((decide (n1 < (0 : Int))) || (decide ((1024 : Int) < n1))) ∧ w_ = w_1) ?_ ?_
  · rcases Bool.eq_false_or_eq_true (decide (n1 < (0 : Int))) with hg | hg
    · refine WR.gF rfl rfl (vb_t rfl hg) rfl rfl ?_
      refine WR.gF rfl rfl (vb_t rfl hg) rfl rfl ?_
      refine WR.k rfl rfl rfl (OS.pickT rfl (vb_t rfl hg) rfl ?_)
      refine WR.nil ?_
      exact ⟨rfl, rfl, rfl, (or_t hg), rfl⟩
    · refine WR.kT rfl rfl (vb_f rfl hg) rfl rfl (OS.move (v := vI n1) rfl rfl ?_)
      refine WR.kT rfl rfl (vb_f rfl hg) rfl rfl (OS.bin (a := vI n1) (b := vI (1024 : Int)) rfl rfl rfl bI_gtr ?_)
      refine WR.k rfl rfl rfl (OS.pickF rfl (vb_f rfl hg) rfl ?_)
      refine WR.nil ?_
      exact ⟨rfl, rfl, rfl, (or_f hg), rfl⟩
  · rintro f_ _ ⟨h, h1, h2, h3, rfl⟩
    refine WR.nil ?_
    refine WC.cond ((decide (n1 < (0 : Int))) || (decide ((1024 : Int) < n1))) h3 (fun hb => ?_) (fun hb => ?_)
    · rw [if_pos hb] at hp
      refine WC.seq (WC.region ?_)
      refine WR.k rfl rfl rfl (OS.assign (v := (.slice none 0 0)) rfl rfl ?_)
      refine WR.k rfl rfl rfl (OS.assign (v := vI (2 : Int)) rfl rfl ?_)
      refine WR.nil ?_
      refine WC.ret ?_
      repeat first | refine thenQ_ret ?_ | refine blkQ_ret ?_
      cases hp
      exact fnQ.ls (fn := Try.f17) (rs := [.tmp 6, .tmp 7]) (vs := [(.slice none 0 0), vI (2 : Int)]) rfl ⟨(.inl ⟨_, rfl, rfl⟩), (.inl ⟨_, rfl, rfl⟩), trivial⟩ ⟨_, _, rfl, s.entry (by decide), Ow.nil⟩ (by simp)
    · rw [if_neg (nt hb)] at hp
      refine WC.skip ?_
      refine WC.seq (WC.region ?_)
      refine WR.k rfl rfl rfl (OS.assign (v := (.slice none 0 0)) rfl rfl ?_)
      refine WR.nil ?_
      refine WC.seq ?_
      refine WC.seq (WC.region ?_)
      refine WR.k rfl rfl rfl (OS.assign (v := vI (0 : Int)) rfl rfl ?_)
      refine WR.nil ?_
      obtain ⟨q, hl1, hp⟩ := bind_some hp
      obtain ⟨out1, hx⟩ : ∃ z, z = q := ⟨_, rfl⟩; subst hx
      refine WC.blockJ2 (fun f_1 w_2 => ∃ (v_1 : Value) (c_2 : Col), f_1 2 = vI n1 ∧ f_1 8 = v_1 ∧ Ow E5 13 w_2 c_2 v_1 out1 ∧ St [13, 14, 29, 47] w_ c_ w_2 c_2) ?_ ?_
      · refine WC.loop (fun n => fun f_2 w_3 => ∃ (out : List UInt8) (i : Int) (v_ : Value) (c_3 : Col), holdfastref08_Stream.l1 K n n1 once key out i = some out1 ∧ f_2 1 = vU64 once ∧ f_2 2 = vI n1 ∧ f_2 3 = p_ ∧ f_2 8 = v_ ∧ Ow E5 13 w_3 c_3 v_ out ∧ f_2 9 = vI i ∧ St [13, 14, 29, 47] w_ c_ w_3 c_3) K ⟨_, _, _, _, hl1, h, h1, h2, rfl, Ow.nil, rfl, St.refl.mono (by decide)⟩ ?_
        rintro n f_2 w_3 ⟨out, i, v_, c_3, hl1, h4, h5, h6, h7, o1, h8, s1⟩
        cases n with
        | zero => exact absurd hl1 (by simp [holdfastref08_Stream.l1])
        | succ k =>
        rw [holdfastref08_Stream.l1] at hl1
        refine WC.seq ?_
        refine WC.seq (WC.region ?_)
        refine WR.k rfl rfl rfl (OS.move (v := v_) rfl h7 ?_)
        refine WR.k rfl rfl rfl (OS.lenSl rfl Try.runUnderlying25 rfl o1.isSl ?_)
        refine WR.k rfl rfl rfl (OS.move (v := vI n1) rfl h5 ?_)
        refine WR.k rfl rfl rfl (OS.bin (a := vI (out.length : Int)) (b := vI n1) rfl rfl rfl bI_lss ?_)
        refine WR.nil ?_
        refine WC.cond (decide ((out.length : Int) < n1)) rfl (fun hb1 => ?_) (fun hb1 => ?_)
        · rw [if_pos hb1] at hl1
          refine WC.skip ?_
          refine WC.seq ?_
          refine WC.block ?_
          refine WC.seq (WC.region ?_)
          obtain ⟨l2, hl2, hl1⟩ := bind_some hl1
          replace hl2 := (Option.some.inj hl2).symm
          refine WR.k rfl rfl rfl (OS.bslice (E := E5) (c := c_3) 47 ([(115 : UInt8)] : List UInt8) [(0, vU8 (115 : UInt8))] rfl ⟨rfl, (by kernel_rfl), trivial⟩ (fun _ => by kernel_rfl) rfl (by decide) ?_); intro v_2 w_4 c_4 o3 s2
          replace o3 : Ow E5 47 w_4 c_4 v_2 l2 := by rw [hl2]; exact o3
          refine WR.k rfl rfl rfl (OS.move (v := vU64 once) rfl h4 ?_)
          obtain ⟨r_, hr_, hl1⟩ := bind_some hl1
          refine WR.k rfl rfl rfl (OS.callF (vs := [vU64 once]) rfl ⟨rfl, trivial⟩ Try.call24 ((W24 K w_4 hr_).mono ?_))
          rintro _ w_5 ⟨v_3, d, rfl, s3, o4⟩
          refine ⟨_, rfl, ?_⟩
          obtain ⟨c_5, s4, o4⟩ : ∃ c_5, St [] w_4 c_4 w_5 c_5 ∧ Ow E5 49 w_5 c_5 v_3 r_ := ⟨_, s3.merge (fun x => x + 47), o4.merge (fun x => x + 47) s3 (by decide)⟩
          have o5 := o3.keep s4 (by decide)
          obtain ⟨l3, hl3, hl1⟩ := bind_some hl1
          obtain ⟨ha, hl3⟩ := app_some hl3
          refine WR.k rfl rfl rfl (OS.append (E := E5) (c := c_5) (i := 47) (xs := l2) (ys := r_) rfl Try.underlying25 Try.underlying25 (.inl rfl) I5 rfl rfl rfl rfl rfl o5 o4.vw.src (lim_bytes (by decide) ha) (lim_max (b := 1) (by decide) ha) ?_); intro v_4 w_6 c_6 o6 s5
          replace o6 : Ow E5 47 w_6 c_6 v_4 l3 := by rw [hl3]; exact o6
          refine WR.k rfl rfl rfl (OS.assign (v := v_4) rfl rfl ?_)
          refine WR.nil ?_
          refine WC.seq (WC.region ?_)
          refine WR.k rfl rfl rfl (OS.move (v := v_4) rfl rfl ?_)
          refine WR.k rfl rfl rfl (OS.move (v := vI i) rfl h8 ?_)
          refine WR.k rfl rfl rfl (OS.conv rfl Try.runUnderlying3 Try.runUnderlying24 rfl (cv_i64 _) ?_)
          obtain ⟨r_1, hr_1, hl1⟩ := bind_some hl1
          refine WR.k rfl rfl rfl (OS.callF (vs := [vU64 (iU64 i)]) rfl ⟨rfl, trivial⟩ Try.call24 ((W24 K w_6 hr_1).mono ?_))
          rintro _ w_7 ⟨v_5, d1, rfl, s6, o7⟩
          refine ⟨_, rfl, ?_⟩
          obtain ⟨c_7, s7, o7⟩ : ∃ c_7, St [] w_6 c_6 w_7 c_7 ∧ Ow E5 52 w_7 c_7 v_5 r_1 := ⟨_, s6.merge (fun x => x + 50), o7.merge (fun x => x + 50) s6 (by decide)⟩
          have o8 := o6.keep s7 (by decide)
          obtain ⟨l4, hl4, hl1⟩ := bind_some hl1
          obtain ⟨ha1, hl4⟩ := app_some hl4
          refine WR.k rfl rfl rfl (OS.append (E := E5) (c := c_7) (i := 47) (xs := l3) (ys := r_1) rfl Try.underlying25 Try.underlying25 (.inl rfl) I5 rfl rfl rfl rfl rfl o8 o7.vw.src (lim_bytes (by decide) ha1) (lim_max (b := 1) (by decide) ha1) ?_); intro v_6 w_8 c_8 o9 s8
          replace o9 : Ow E5 47 w_8 c_8 v_6 l4 := by rw [hl4]; exact o9
          refine WR.k rfl rfl rfl (OS.assign (v := v_6) rfl rfl ?_)
          refine WR.nil ?_
          refine WC.region ?_
          refine WR.k rfl rfl rfl (OS.move (v := v_) rfl h7 ?_)
          have o10 := o.keep (((((s1.t s2).t s4).t s5).t s7).t s8) (by decide)
          refine WR.k rfl rfl rfl (OS.ldN rfl Try.isAgg23 Try.sizeOf23 h6 o10.ldAll (by rw [fl_length, hl]; rfl) ?_)
          obtain ⟨r_2, hr_2, hl1⟩ := bind_some hl1
          refine WR.k rfl rfl rfl (OS.callF (vs := [.agg (fl E5 key).toArray]) rfl ⟨rfl, trivial⟩ Try.call26 ((W26 K w_8 hr_2 hl).mono ?_))
          rintro _ w_9 ⟨v_7, d2, rfl, s9, o11⟩
          refine ⟨_, rfl, ?_⟩
          obtain ⟨c_9, s10, o11⟩ : ∃ c_9, St [] w_8 c_8 w_9 c_9 ∧ Ow E5 55 w_9 c_9 v_7 r_2 := ⟨_, s9.merge (fun x => x + 53), o11.merge (fun x => x + 53) s9 (by decide)⟩
          refine WR.k rfl rfl rfl (OS.move (v := v_6) rfl rfl ?_)
          have o12 := o9.keep s10 (by decide)
          obtain ⟨r_3, hr_3, hl1⟩ := bind_some hl1
          refine WR.k rfl rfl rfl (OS.callF (vs := [v_7, v_6]) rfl ⟨rfl, rfl, trivial⟩ Try.call27 ((W27 K w_9 hr_3 o11.vw.forget o12.vw.forget).mono ?_))
          rintro _ w_10 ⟨d3, rfl, s11, hl5⟩
          refine ⟨_, rfl, ?_⟩
          obtain ⟨c_10, s12⟩ : ∃ c_10, St [] w_9 c_9 w_10 c_10 := ⟨_, s11.merge (fun x => x + 56)⟩
          obtain ⟨r_4, hr_4, hl1⟩ := bind_some hl1
          refine WR.k rfl rfl rfl (OS.callF (vs := [.agg (fl E5 r_3).toArray]) rfl ⟨rfl, trivial⟩ Try.call26 ((W26 K w_10 hr_4 hl5).mono ?_))
          rintro _ w_11 ⟨v_8, d4, rfl, s13, o13⟩
          refine ⟨_, rfl, ?_⟩
          obtain ⟨c_11, s14, o13⟩ : ∃ c_11, St [] w_10 c_10 w_11 c_11 ∧ Ow E5 60 w_11 c_11 v_8 r_4 := ⟨_, s13.merge (fun x => x + 58), o13.merge (fun x => x + 58) s13 (by decide)⟩
          have o14 := o1.keep (((((((s2.t s4).t s5).t s7).t s8).t s10).t s12).t s14) (by decide)
          obtain ⟨out2, hout2, hl1⟩ := bind_some hl1
          obtain ⟨ha2, hout2⟩ := app_some hout2
          refine WR.k rfl rfl rfl (OS.append (E := E5) (c := c_11) (i := 13) (xs := out) (ys := r_4) rfl Try.underlying25 Try.underlying25 (.inl rfl) I5 rfl rfl rfl rfl rfl o14 o13.vw.src (lim_bytes (by decide) ha2) (lim_max (b := 1) (by decide) ha2) ?_); intro v_9 w_12 c_12 o15 s15
          replace o15 : Ow E5 13 w_12 c_12 v_9 out2 := by rw [hout2]; exact o15
          refine WR.k rfl rfl rfl (OS.assign (v := v_9) rfl rfl ?_)
          refine WR.nil ?_
          refine WC.region ?_
          refine WR.k rfl rfl rfl (OS.move (v := vI i) rfl h8 ?_)
          refine WR.k rfl rfl rfl (OS.bin (a := vI i) (b := vI (1 : Int)) rfl rfl rfl bI_add ?_)
          refine WR.k rfl rfl rfl (OS.assign (v := vI (W (i + (1 : Int)))) rfl rfl ?_)
          refine WR.nil ?_
          exact ⟨k, by omega, _, _, _, _, hl1, h4, h5, h6, rfl, o15, rfl, (((((((((s1.t s2).t s4).t s5).t s7).t s8).t s10).t s12).t s14).t s15).mono (by decide)⟩
        · rw [if_neg (nt hb1)] at hl1
          refine WC.exit ?_
          cases hl1
          exact ⟨_, _, h5, h7, o1, s1.mono (by decide)⟩
      · rintro f_1 w_2 ⟨v_1, c_2, h9, h10, o2, s16⟩
        refine WC.seq (WC.region ?_)
        refine WR.k rfl rfl rfl (OS.move (v := v_1) rfl h10 ?_)
        refine WR.k rfl rfl rfl (OS.move (v := vI n1) rfl h9 ?_)
        obtain ⟨ys, hys, hp⟩ := bind_some hp
        obtain ⟨ha3, hb2, hc, hys⟩ := sub_some hys
        refine WR.k rfl rfl rfl (OS.sliceOwn rfl Try.underlying25 Try.sizeOf5 rfl o2 (Bd.some rfl (by omega)) (by omega) ?_); intro v_10 y
        replace y : Ow E5 13 w_2 c_2 v_10 ys := by rw [hys]; exact y
        refine WR.k rfl rfl rfl (OS.assign (v := v_10) rfl rfl ?_)
        refine WR.k rfl rfl rfl (OS.assign (v := vI (0 : Int)) rfl rfl ?_)
        refine WR.nil ?_
        refine WC.ret ?_
        repeat first | refine thenQ_ret ?_ | refine blkQ_ret ?_
        cases hp
        obtain ⟨c_13, s17, o16⟩ := y.recol 2
        exact fnQ.ls (fn := Try.f17) (rs := [.tmp 6, .tmp 7]) (vs := [v_10, vI (0 : Int)]) rfl ⟨(.inl ⟨_, rfl, rfl⟩), (.inl ⟨_, rfl, rfl⟩), trivial⟩ ⟨_, _, rfl, ((s.t s16).t s17).entry (by decide), o16⟩ (by simp)

-- holdfast/holdfastref08.Tag
set_option maxHeartbeats 4000000 in
theorem W20 (K : Nat) (w0 : World) {key : List UInt8} {body : List UInt8} {r : (List UInt8)} (hp : holdfastref08_Tag K key body = some r) (hl : key.length = 32) {v_ : Value} (o : Vw E5 0 w0 c0 v_ body) :
    Calls Try.prog 20 [.agg (fl E5 key).toArray, v_].toArray w0 fun e w1 => ∃ (v0 : Value) (d : Col), e = .returned (v0) ∧ St [] w0 c0 w1 d ∧ Ow E5 2 w1 d v0 r := by
  refine calls_intro Try.func20 rfl Try.ntmps20 rfl ?_
  unfold holdfastref08_Tag at hp
  refine WC.seq (WC.region ?_)
  refine WR.k rfl rfl rfl (OS.boxArr (E := E5) (c := c0) 12 rfl rfl ?_); intro p_ w_ c_ o1 s
  refine WR.k rfl rfl rfl (OS.assign (v := (.slice none 0 0)) rfl rfl ?_)
  refine WR.nil ?_
  refine WC.seq (WC.region ?_)
  obtain ⟨l1, hl1, hp⟩ := bind_some hp
  replace hl1 := (Option.some.inj hl1).symm
  refine WR.k rfl rfl rfl (OS.bslice (E := E5) (c := c_) 13 ([(116 : UInt8)] : List UInt8) [(0, vU8 (116 : UInt8))] rfl ⟨rfl, (by kernel_rfl), trivial⟩ (fun _ => by kernel_rfl) rfl (by decide) ?_); intro v_1 w_1 c_1 o2 s1
  replace o2 : Ow E5 13 w_1 c_1 v_1 l1 := by rw [hl1]; exact o2
  refine WR.k rfl rfl rfl (OS.move (v := v_) rfl rfl ?_)
  have o3 := o.keep (s.t s1) (by decide)
  obtain ⟨l2, hl2, hp⟩ := bind_some hp
  obtain ⟨ha, hl2⟩ := app_some hl2
  refine WR.k rfl rfl rfl (OS.append (E := E5) (c := c_1) (i := 13) (xs := l1) (ys := body) rfl Try.underlying25 Try.underlying25 (.inl rfl) I5 rfl rfl rfl rfl rfl o2 o3.src (lim_bytes (by decide) ha) (lim_max (b := 1) (by decide) ha) ?_); intro v_2 w_2 c_2 o4 s2
  replace o4 : Ow E5 13 w_2 c_2 v_2 l2 := by rw [hl2]; exact o4
  refine WR.k rfl rfl rfl (OS.assign (v := v_2) rfl rfl ?_)
  refine WR.nil ?_
  refine WC.seq (WC.region ?_)
  have o5 := o1.keep (s1.t s2) (by decide)
  refine WR.k rfl rfl rfl (OS.ldN rfl Try.isAgg23 Try.sizeOf23 rfl o5.ldAll (by rw [fl_length, hl]; rfl) ?_)
  obtain ⟨r_, hr_, hp⟩ := bind_some hp
  refine WR.k rfl rfl rfl (OS.callF (vs := [.agg (fl E5 key).toArray]) rfl ⟨rfl, trivial⟩ Try.call26 ((W26 K w_2 hr_ hl).mono ?_))
  rintro _ w_3 ⟨v_3, d, rfl, s3, o6⟩
  refine ⟨_, rfl, ?_⟩
  obtain ⟨c_3, s4, o6⟩ : ∃ c_3, St [] w_2 c_2 w_3 c_3 ∧ Ow E5 15 w_3 c_3 v_3 r_ := ⟨_, s3.merge (fun x => x + 13), o6.merge (fun x => x + 13) s3 (by decide)⟩
  refine WR.k rfl rfl rfl (OS.move (v := v_2) rfl rfl ?_)
  have o7 := o4.keep s4 (by decide)
  obtain ⟨r_1, hr_1, hp⟩ := bind_some hp
  refine WR.k rfl rfl rfl (OS.callF (vs := [v_3, v_2]) rfl ⟨rfl, rfl, trivial⟩ Try.call27 ((W27 K w_3 hr_1 o6.vw.forget o7.vw.forget).mono ?_))
  rintro _ w_4 ⟨d1, rfl, s5, hl3⟩
  refine ⟨_, rfl, ?_⟩
  obtain ⟨c_4, s6⟩ : ∃ c_4, St [] w_3 c_3 w_4 c_4 := ⟨_, s5.merge (fun x => x + 16)⟩
  obtain ⟨r_2, hr_2, hp⟩ := bind_some hp
  refine WR.k rfl rfl rfl (OS.callF (vs := [.agg (fl E5 r_1).toArray]) rfl ⟨rfl, trivial⟩ Try.call26 ((W26 K w_4 hr_2 hl3).mono ?_))
  rintro _ w_5 ⟨v_4, d2, rfl, s7, o8⟩
  refine ⟨_, rfl, ?_⟩
  obtain ⟨c_5, s8, o8⟩ : ∃ c_5, St [] w_4 c_4 w_5 c_5 ∧ Ow E5 20 w_5 c_5 v_4 r_2 := ⟨_, s7.merge (fun x => x + 18), o8.merge (fun x => x + 18) s7 (by decide)⟩
  obtain ⟨ys, hys, hp⟩ := bind_some hp
  obtain ⟨ha1, hb, hc, hys⟩ := sub_some hys
  refine WR.k rfl rfl rfl (OS.sliceOwn rfl Try.underlying25 Try.sizeOf5 rfl o8 (Bd.some rfl (by omega)) (by omega) ?_); intro v_5 y
  replace y : Ow E5 20 w_5 c_5 v_5 ys := by rw [hys]; exact y
  refine WR.k rfl rfl rfl (OS.assign (v := v_5) rfl rfl ?_)
  refine WR.nil ?_
  refine WC.ret ?_
  repeat first | refine thenQ_ret ?_ | refine blkQ_ret ?_
  cases hp
  obtain ⟨c_6, s9, o9⟩ := y.recol 2
  exact fnQ.l1 (fn := Try.f20) rfl (.inl ⟨_, rfl, rfl⟩) ⟨_, _, rfl, ((((((s.t s1).t s2).t s4).t s6).t s8).t s9).entry (by decide), o9⟩

-- holdfast/holdfastref08.Seal
set_option maxHeartbeats 4000000 in
theorem W11 (K : Nat) (w0 : World) {key : List UInt8} {once : UInt64} {plain : List UInt8} {r : (List UInt8) × Int} (hp : holdfastref08_Seal K key once plain = some r) (hl : key.length = 32) {v_ : Value} (o : Vw E5 0 w0 c0 v_ plain) :
    Calls Try.prog 11 [.agg (fl E5 key).toArray, vU64 once, v_].toArray w0 fun e w1 => ∃ (v0 : Value) (d : Col), e = .returned (.tuple #[v0, vI r.2]) ∧ St [] w0 c0 w1 d ∧ Ow E5 2 w1 d v0 r.1 := by
  refine calls_intro Try.func11 rfl Try.ntmps11 rfl ?_
  unfold holdfastref08_Seal at hp
  refine WC.seq (WC.region ?_)
  refine WR.k rfl rfl rfl (OS.boxArr (E := E5) (c := c0) 12 rfl rfl ?_); intro p_ w_ c_ o1 s
  refine WR.k rfl rfl rfl (OS.assign (v := (.slice none 0 0)) rfl rfl ?_)
  refine WR.k rfl rfl rfl (OS.assign (v := vI (0 : Int)) rfl rfl ?_)
  refine WR.nil ?_
  refine WC.seq (WC.region ?_)
  refine WR.k rfl rfl rfl (OS.ldN rfl Try.isAgg23 Try.sizeOf23 rfl o1.ldAll (by rw [fl_length, hl]; rfl) ?_)
  refine WR.k rfl rfl rfl (OS.move (v := vU64 once) rfl rfl ?_)
  refine WR.k rfl rfl rfl (OS.move (v := v_) rfl rfl ?_)
  have o2 := o.keep s (by decide)
  refine WR.k rfl rfl rfl (OS.lenSl rfl Try.runUnderlying25 rfl o2.isSl ?_)
  obtain ⟨r_, hr_, hp⟩ := bind_some hp
  refine WR.k rfl rfl rfl (OS.callF (vs := [.agg (fl E5 key).toArray, vU64 once, vI (plain.length : Int)]) rfl ⟨rfl, rfl, rfl, trivial⟩ Try.call17 ((W17 K w_ hr_ hl).mono ?_))
  rintro _ w_1 ⟨v_1, d, rfl, s1, o3⟩
  refine ⟨_, rfl, ?_⟩
  obtain ⟨c_1, s2, o3⟩ : ∃ c_1, St [] w_ c_ w_1 c_1 ∧ Ow E5 14 w_1 c_1 v_1 r_.1 := ⟨_, s1.merge (fun x => x + 12), o3.merge (fun x => x + 12) s1 (by decide)⟩
  refine WR.k rfl rfl rfl (OS.move (v := .tuple #[v_1, vI r_.2]) rfl rfl ?_)
  refine WR.k rfl rfl rfl (OS.extract rfl rfl rfl ?_)
  refine WR.k rfl rfl rfl (OS.extract rfl rfl rfl ?_)
  refine WR.k rfl rfl rfl (OS.assign (v := v_1) rfl rfl ?_)
  refine WR.k rfl rfl rfl (OS.assign (v := vI r_.2) rfl rfl ?_)
  refine WR.nil ?_
  refine WC.seq ?_
  refine WC.seq (WC.region ?_)
  refine WR.k rfl rfl rfl (OS.move (v := vI r_.2) rfl rfl ?_)
  refine WR.k rfl rfl rfl (OS.bin (a := vI r_.2) (b := vI (0 : Int)) rfl rfl rfl bI_neq ?_)
  refine WR.nil ?_
  refine WC.cond (!decide (r_.2 = (0 : Int))) rfl (fun hb => ?_) (fun hb => ?_)
  · rw [if_pos hb] at hp
    refine WC.seq (WC.region ?_)
    refine WR.k rfl rfl rfl (OS.assign (v := (.slice none 0 0)) rfl rfl ?_)
    refine WR.k rfl rfl rfl (OS.assign (v := vI (6 : Int)) rfl rfl ?_)
    refine WR.nil ?_
    refine WC.ret ?_
    repeat first | refine thenQ_ret ?_ | refine blkQ_ret ?_
    cases hp
    exact fnQ.ls (fn := Try.f11) (rs := [.tmp 6, .tmp 7]) (vs := [(.slice none 0 0), vI (6 : Int)]) rfl ⟨(.inl ⟨_, rfl, rfl⟩), (.inl ⟨_, rfl, rfl⟩), trivial⟩ ⟨_, _, rfl, (s.t s2).entry (by decide), Ow.nil⟩ (by simp)
  · rw [if_neg (nt hb)] at hp
    refine WC.skip ?_
    refine WC.seq (WC.region ?_)
    refine WR.k rfl rfl rfl (OS.move (v := vU64 once) rfl rfl ?_)
    obtain ⟨r_1, hr_1, hp⟩ := bind_some hp
    refine WR.k rfl rfl rfl (OS.callF (vs := [vU64 once]) rfl ⟨rfl, trivial⟩ Try.call24 ((W24 K w_1 hr_1).mono ?_))
    rintro _ w_2 ⟨v_2, d1, rfl, s3, o4⟩
    refine ⟨_, rfl, ?_⟩
    obtain ⟨c_2, s4, o4⟩ : ∃ c_2, St [] w_1 c_1 w_2 c_2 ∧ Ow E5 17 w_2 c_2 v_2 r_1 := ⟨_, s3.merge (fun x => x + 15), o4.merge (fun x => x + 15) s3 (by decide)⟩
    refine WR.k rfl rfl rfl (OS.assign (v := v_2) rfl rfl ?_)
    refine WR.nil ?_
    refine WC.seq ?_
    refine WC.seq (WC.region ?_)
    refine WR.k rfl rfl rfl (OS.assign (v := vI (0 : Int)) rfl rfl ?_)
    refine WR.nil ?_
    obtain ⟨q, hl1, hp⟩ := bind_some hp
    obtain ⟨out1, hx⟩ : ∃ z, z = q := ⟨_, rfl⟩; subst hx
    refine WC.blockJ2 (fun f_ w_3 => ∃ (v_4 : Value) (c_3 : Col), f_ 3 = p_ ∧ f_ 10 = v_4 ∧ Ow E5 17 w_3 c_3 v_4 out1 ∧ St [17] w_2 c_2 w_3 c_3) ?_ ?_
    · refine WC.loop (fun n => fun f_1 w_4 => ∃ (out : List UInt8) (i : Int) (v_3 : Value) (c_4 : Col), holdfastref08_Seal.l1 n plain r_ out i = some out1 ∧ f_1 2 = v_ ∧ f_1 3 = p_ ∧ f_1 8 = v_1 ∧ f_1 10 = v_3 ∧ Ow E5 17 w_4 c_4 v_3 out ∧ f_1 11 = vI i ∧ St [17] w_2 c_2 w_4 c_4) K ⟨_, _, _, _, hl1, rfl, rfl, rfl, rfl, o4, rfl, St.refl.mono (by decide)⟩ ?_
      rintro n f_1 w_4 ⟨out, i, v_3, c_4, hl1, h, h1, h2, h3, o5, h4, s5⟩
      cases n with
      | zero => exact absurd hl1 (by simp [holdfastref08_Seal.l1])
      | succ k =>
      rw [holdfastref08_Seal.l1] at hl1
      refine WC.seq ?_
      refine WC.seq (WC.region ?_)
      refine WR.k rfl rfl rfl (OS.move (v := vI i) rfl h4 ?_)
      refine WR.k rfl rfl rfl (OS.move (v := v_) rfl h ?_)
      have o7 := o2.keep ((s2.t s4).t s5) (by decide)
      refine WR.k rfl rfl rfl (OS.lenSl rfl Try.runUnderlying25 rfl o7.isSl ?_)
      refine WR.k rfl rfl rfl (OS.bin (a := vI i) (b := vI (plain.length : Int)) rfl rfl rfl bI_lss ?_)
      refine WR.nil ?_
      refine WC.cond (decide (i < (plain.length : Int))) rfl (fun hb1 => ?_) (fun hb1 => ?_)
      · rw [if_pos hb1] at hl1
        refine WC.skip ?_
        refine WC.seq ?_
        refine WC.block ?_
        obtain ⟨e, he, hl1⟩ := bind_some hl1
        obtain ⟨ha, hb2, hc⟩ := gt_some he
        have o8 := o3.keep (s4.t s5) (by decide)
        obtain ⟨e1, he1, hl1⟩ := bind_some hl1
        obtain ⟨ha1, hb3, hc1⟩ := gt_some he1
        obtain ⟨l2, hl2, hl1⟩ := bind_some hl1
        replace hl2 := (Option.some.inj hl2).symm
        refine WC.draw (c := c_4) ⟨11, [[1], [1], [1], [1], [1], [1], [1], [1], [1], [1], [24]], [[], [], [], [], [], [], [], [], [], [], []], [], [[], [], [], [1, 2], [3], [], [], [5, 6], [7], [4, 8], [9]], [0, 10]⟩ [fun v w c => v = v_3, fun v w c => v = v_, fun v w c => v = vI i, fun v w c => Adr v_ (i).toNat 1 v, fun v w c => v = vU8 e, fun v w c => v = v_1, fun v w c => v = vI i, fun v w c => Adr v_1 (i).toNat 1 v, fun v w c => v = vU8 e1, fun v w c => v = vU8 (e ^^^ e1), fun v w c => Ow E5 24 w c v l2] hmix (by kernel_rfl) (by kernel_rfl) ⟨?_, ?_, ?_, ?_, ?_, ?_, ?_, ?_, ?_, ?_, ?_, trivial⟩ ⟨fun _ _ _ _ _ _ h _ _ => h, fun _ _ _ _ _ _ h _ _ => h, fun _ _ _ _ _ _ h _ _ => h, fun _ _ _ _ _ _ h _ _ => h, fun _ _ _ _ _ _ h _ _ => h, fun _ _ _ _ _ _ h _ _ => h, fun _ _ _ _ _ _ h _ _ => h, fun _ _ _ _ _ _ h _ _ => h, fun _ _ _ _ _ _ h _ _ => h, fun _ _ _ _ _ _ h _ _ => h, fun _ _ _ _ _ _ h s hk => Ow.keep h s (hk _ (by simp)), trivial⟩ ?_
        · rintro f_2 w_5 c_5 hB hs1 ⟨-⟩ o ho; obtain rfl : _ = o := Option.some.inj ho
          exact OS.move (v := v_3) rfl ((hB 10 (by kernel_rfl)).trans h3) ⟨_, St.refl, rfl⟩
        · rintro f_3 w_6 c_6 hB1 hs2 ⟨-⟩ o ho; obtain rfl : _ = o := Option.some.inj ho
          exact OS.move (v := v_) rfl ((hB1 2 (by kernel_rfl)).trans h) ⟨_, St.refl, rfl⟩
        · rintro f_4 w_7 c_7 hB2 hs3 ⟨-⟩ o ho; obtain rfl : _ = o := Option.some.inj ho
          exact OS.move (v := vI i) rfl ((hB2 11 (by kernel_rfl)).trans h4) ⟨_, St.refl, rfl⟩
        · rintro f_5 w_8 c_8 hB3 hs4 ⟨g, g1, -⟩ o ho; obtain rfl : _ = o := Option.some.inj ho
          replace g : (f_5 31) = v_ := g
          replace g1 : (f_5 32) = vI i := g1
          have o9 := o7.keep hs4 (by decide)
          exact OS.idx rfl Try.runUnderlying25 Try.sizeOf5 g o9.isSl g1 ha hb2 (fun _ h => ⟨_, St.refl, h⟩)
        · rintro f_6 w_9 c_9 hB4 hs5 ⟨g2, -⟩ o ho; obtain rfl : _ = o := Option.some.inj ho
          replace g2 : Adr v_ (i).toNat 1 (f_6 33) := g2
          have o10 := o7.keep hs5 (by decide)
          exact OS.ld1 (u := vU8 e) rfl Try.isAgg5 rfl (o10.ld g2 hc) ⟨_, St.refl, rfl⟩
        · rintro f_7 w_10 c_10 hB5 hs6 ⟨-⟩ o ho; obtain rfl : _ = o := Option.some.inj ho
          exact OS.move (v := v_1) rfl ((hB5 8 (by kernel_rfl)).trans h2) ⟨_, St.refl, rfl⟩
        · rintro f_8 w_11 c_11 hB6 hs7 ⟨-⟩ o ho; obtain rfl : _ = o := Option.some.inj ho
          exact OS.move (v := vI i) rfl ((hB6 11 (by kernel_rfl)).trans h4) ⟨_, St.refl, rfl⟩
        · rintro f_9 w_12 c_12 hB7 hs8 ⟨g3, g4, -⟩ o ho; obtain rfl : _ = o := Option.some.inj ho
          replace g3 : (f_9 35) = v_1 := g3
          replace g4 : (f_9 36) = vI i := g4
          have o11 := o3.keep ((s4.t s5).t hs8) (by decide)
          exact OS.idx rfl Try.runUnderlying25 Try.sizeOf5 g3 o11.isSl g4 ha1 hb3 (fun _ h => ⟨_, St.refl, h⟩)
        · rintro f_10 w_13 c_13 hB8 hs9 ⟨g5, -⟩ o ho; obtain rfl : _ = o := Option.some.inj ho
          replace g5 : Adr v_1 (i).toNat 1 (f_10 37) := g5
          have o12 := o3.keep ((s4.t s5).t hs9) (by decide)
          exact OS.ld1 (u := vU8 e1) rfl Try.isAgg5 rfl (o12.ld g5 hc1) ⟨_, St.refl, rfl⟩
        · rintro f_11 w_14 c_14 hB9 hs10 ⟨g6, g7, -⟩ o ho; obtain rfl : _ = o := Option.some.inj ho
          replace g6 : (f_11 34) = vU8 e := g6
          replace g7 : (f_11 38) = vU8 e1 := g7
          exact OS.bin (a := vU8 e) (b := vU8 e1) rfl g6 g7 b8_xor ⟨_, St.refl, rfl⟩
        · rintro f_12 w_15 c_15 hB10 hs11 ⟨g8, -⟩ o ho; obtain rfl : _ = o := Option.some.inj ho
          replace g8 : (f_12 39) = vU8 (e ^^^ e1) := g8
          refine OS.bslice (E := E5) (c := c_15) 24 ([e ^^^ e1] : List UInt8) [(0, vU8 (e ^^^ e1))] rfl ⟨rfl, g8, trivial⟩ (fun _ => by kernel_rfl) rfl (by decide) ?_
          intro v w c h s
          exact ⟨c, s, (show Ow E5 24 w c v l2 by rw [hl2]; exact h)⟩
        · rintro f_13 w_16 c_16 hB11 hs12 ⟨g9, g10, -⟩
          have h5 := (hB11 2 (by kernel_rfl)).trans h
          have h6 := (hB11 3 (by kernel_rfl)).trans h1
          have h7 := (hB11 8 (by kernel_rfl)).trans h2
          have h8 := (hB11 11 (by kernel_rfl)).trans h4
          replace g9 : (f_13 30) = v_3 := g9
          replace g10 : Ow E5 24 w_16 c_16 (f_13 40) l2 := g10
          have o13 := o5.keep hs12 (by decide)
          obtain ⟨out2, hout2, hl1⟩ := bind_some hl1
          obtain ⟨ha2, hout2⟩ := app_some hout2
          refine WR.k rfl rfl rfl (OS.append (E := E5) (c := c_16) (i := 17) (xs := out) (ys := l2) rfl Try.underlying25 Try.underlying25 (.inl rfl) I5 rfl rfl rfl g9 rfl o13 g10.vw.src (lim_bytes (by decide) ha2) (lim_max (b := 1) (by decide) ha2) ?_); intro v_5 w_17 c_17 o14 s6
          replace o14 : Ow E5 17 w_17 c_17 v_5 out2 := by rw [hout2]; exact o14
          refine WR.k rfl rfl rfl (OS.assign (v := v_5) rfl rfl ?_)
          refine WR.nil ?_
          refine WC.region ?_
          refine WR.k rfl rfl rfl (OS.move (v := vI i) rfl h8 ?_)
          refine WR.k rfl rfl rfl (OS.bin (a := vI i) (b := vI (1 : Int)) rfl rfl rfl bI_add ?_)
          refine WR.k rfl rfl rfl (OS.assign (v := vI (W (i + (1 : Int)))) rfl rfl ?_)
          refine WR.nil ?_
          exact ⟨k, by omega, _, _, _, _, hl1, h5, h6, h7, rfl, o14, rfl, ((s5.t hs12).t s6).mono (by decide)⟩
      · rw [if_neg (nt hb1)] at hl1
        refine WC.exit ?_
        cases hl1
        exact ⟨_, _, h1, h3, o5, s5.mono (by decide)⟩
    · rintro f_ w_3 ⟨v_4, c_3, h9, h10, o6, s7⟩
      refine WC.seq (WC.region ?_)
      refine WR.k rfl rfl rfl (OS.move (v := v_4) rfl h10 ?_)
      have o15 := o1.keep ((s2.t s4).t s7) (by decide)
      refine WR.k rfl rfl rfl (OS.ldN rfl Try.isAgg23 Try.sizeOf23 h9 o15.ldAll (by rw [fl_length, hl]; rfl) ?_)
      refine WR.k rfl rfl rfl (OS.move (v := v_4) rfl h10 ?_)
      obtain ⟨r_2, hr_2, hp⟩ := bind_some hp
      refine WR.k rfl rfl rfl (OS.callF (vs := [.agg (fl E5 key).toArray, v_4]) rfl ⟨rfl, rfl, trivial⟩ Try.call20 ((W20 K w_3 hr_2 hl o6.vw.forget).mono ?_))
      rintro _ w_18 ⟨v_6, d2, rfl, s8, o16⟩
      refine ⟨_, rfl, ?_⟩
      obtain ⟨c_18, s9, o16⟩ : ∃ c_18, St [] w_3 c_3 w_18 c_18 ∧ Ow E5 26 w_18 c_18 v_6 r_2 := ⟨_, s8.merge (fun x => x + 24), o16.merge (fun x => x + 24) s8 (by decide)⟩
      have o17 := o6.keep s9 (by decide)
      obtain ⟨out3, hout3, hp⟩ := bind_some hp
      obtain ⟨ha3, hout3⟩ := app_some hout3
      refine WR.k rfl rfl rfl (OS.append (E := E5) (c := c_18) (i := 17) (xs := out1) (ys := r_2) rfl Try.underlying25 Try.underlying25 (.inl rfl) I5 rfl rfl rfl rfl rfl o17 o16.vw.src (lim_bytes (by decide) ha3) (lim_max (b := 1) (by decide) ha3) ?_); intro v_7 w_19 c_19 o18 s10
      replace o18 : Ow E5 17 w_19 c_19 v_7 out3 := by rw [hout3]; exact o18
      refine WR.k rfl rfl rfl (OS.assign (v := v_7) rfl rfl ?_)
      refine WR.k rfl rfl rfl (OS.assign (v := vI (0 : Int)) rfl rfl ?_)
      refine WR.nil ?_
      refine WC.ret ?_
      repeat first | refine thenQ_ret ?_ | refine blkQ_ret ?_
      cases hp
      obtain ⟨c_20, s11, o19⟩ := o18.recol 2
      exact fnQ.ls (fn := Try.f11) (rs := [.tmp 6, .tmp 7]) (vs := [v_7, vI (0 : Int)]) rfl ⟨(.inl ⟨_, rfl, rfl⟩), (.inl ⟨_, rfl, rfl⟩), trivial⟩ ⟨_, _, rfl, ((((((s.t s2).t s4).t s7).t s9).t s10).t s11).entry (by decide), o19⟩ (by simp)

-- holdfast/seal.Size
set_option maxHeartbeats 4000000 in
theorem W18 (K : Nat) (w0 : World) {plain : Int} {r : Int} (hp : seal_Size K plain = some r) :
    Calls Try.prog 18 [vI plain].toArray w0 fun e w1 => ∃ (d : Col), e = .returned (vI r) ∧ St [] w0 c0 w1 d := by
  refine calls_intro Try.func18 rfl Try.ntmps18 rfl ?_
  unfold seal_Size at hp
  refine WC.seq (WC.region ?_)
  refine WR.k rfl rfl rfl (OS.assign (v := vI (0 : Int)) rfl rfl ?_)
  refine WR.nil ?_
  refine WC.seq ?_
  refine WC.seq (WC.region ?_)
  refine WR.k rfl rfl rfl (OS.move (v := vI plain) rfl rfl ?_)
  refine WR.k rfl rfl rfl (OS.bin (a := vI plain) (b := vI (0 : Int)) rfl rfl rfl bI_lss ?_)
  refine WR.k rfl rfl rfl (OS.move (v := vB (decide (plain < (0 : Int)))) rfl rfl ?_)
  refine WR.cut2 3 (fun f_ w_ => f_ 0 = vI plain ∧ f_ 8 = vB ((decide (plain < (0 : Int))) || (decide ((1024 : Int) < plain))) ∧ w0 = w_) ?_ ?_
  · rcases Bool.eq_false_or_eq_true (decide (plain < (0 : Int))) with hg | hg
    · refine WR.gF rfl rfl (vb_t rfl hg) rfl rfl ?_
      refine WR.gF rfl rfl (vb_t rfl hg) rfl rfl ?_
      refine WR.k rfl rfl rfl (OS.pickT rfl (vb_t rfl hg) rfl ?_)
      refine WR.nil ?_
      exact ⟨rfl, (or_t hg), rfl⟩
    · refine WR.kT rfl rfl (vb_f rfl hg) rfl rfl (OS.move (v := vI plain) rfl rfl ?_)
      refine WR.kT rfl rfl (vb_f rfl hg) rfl rfl (OS.bin (a := vI plain) (b := vI (1024 : Int)) rfl rfl rfl bI_gtr ?_)
      refine WR.k rfl rfl rfl (OS.pickF rfl (vb_f rfl hg) rfl ?_)
      refine WR.nil ?_
      exact ⟨rfl, (or_f hg), rfl⟩
  · rintro f_ _ ⟨h, h1, rfl⟩
    refine WR.nil ?_
    refine WC.cond ((decide (plain < (0 : Int))) || (decide ((1024 : Int) < plain))) h1 (fun hb => ?_) (fun hb => ?_)
    · rw [if_pos hb] at hp
      refine WC.seq (WC.region ?_)
      refine WR.k rfl rfl rfl (OS.assign (v := vI (0 : Int)) rfl rfl ?_)
      refine WR.nil ?_
      refine WC.ret ?_
      repeat first | refine thenQ_ret ?_ | refine blkQ_ret ?_
      cases hp
      exact fnQ.l1 (fn := Try.f18) rfl (.inl ⟨_, rfl, rfl⟩) ⟨_, rfl, St.refl⟩
    · rw [if_neg (nt hb)] at hp
      refine WC.skip ?_
      refine WC.seq (WC.region ?_)
      refine WR.k rfl rfl rfl (OS.move (v := vI plain) rfl h ?_)
      refine WR.k rfl rfl rfl (OS.bin (a := vI plain) (b := vI (24 : Int)) rfl rfl rfl bI_add ?_)
      refine WR.k rfl rfl rfl (OS.assign (v := vI (W (plain + (24 : Int)))) rfl rfl ?_)
      refine WR.nil ?_
      refine WC.ret ?_
      repeat first | refine thenQ_ret ?_ | refine blkQ_ret ?_
      cases hp
      exact fnQ.l1 (fn := Try.f18) rfl (.inl ⟨_, rfl, rfl⟩) ⟨_, rfl, St.refl⟩

-- holdfast/seal.Open
set_option maxHeartbeats 4000000 in
theorem W12 (K : Nat) (w0 : World) {key : List UInt8} {sealed : List UInt8} {r : (List UInt8) × UInt64 × Int} (hp : seal_Open K key sealed = some r) (hl : key.length = 32) {v_ : Value} (o : Vw E5 0 w0 c0 v_ sealed) :
    Calls Try.prog 12 [.agg (fl E5 key).toArray, v_].toArray w0 fun e w1 => ∃ (v0 : Value) (d : Col), e = .returned (.tuple #[v0, vU64 r.2.1, vI r.2.2]) ∧ St [] w0 c0 w1 d ∧ Ow E5 2 w1 d v0 r.1 := by
  refine calls_intro Try.func12 rfl Try.ntmps12 rfl ?_
  unfold seal_Open at hp
  refine WC.seq (WC.region ?_)
  refine WR.k rfl rfl rfl (OS.boxArr (E := E5) (c := c0) 12 rfl rfl ?_); intro p_ w_ c_ o1 s
  refine WR.k rfl rfl rfl (OS.assign (v := (.slice none 0 0)) rfl rfl ?_)
  refine WR.k rfl rfl rfl (OS.assign (v := vU64 (0 : UInt64)) rfl (by kernel_rfl) ?_)
  refine WR.k rfl rfl rfl (OS.assign (v := vI (0 : Int)) rfl rfl ?_)
  refine WR.nil ?_
  refine WC.seq ?_
  refine WC.block ?_
  refine WC.seq (WC.region ?_)
  refine WR.k rfl rfl rfl (OS.move (v := v_) rfl rfl ?_)
  have o2 := o.keep s (by decide)
  refine WR.k rfl rfl rfl (OS.lenSl rfl Try.runUnderlying25 rfl o2.isSl ?_)
  obtain ⟨r_, hr_, hp⟩ := bind_some hp
  refine WR.k rfl rfl rfl (OS.callF (vs := [vI (0 : Int)]) rfl ⟨rfl, trivial⟩ Try.call18 ((W18 K w_ hr_).mono ?_))
  rintro _ w_1 ⟨d, rfl, s1⟩
  refine ⟨_, rfl, ?_⟩
  obtain ⟨c_1, s2⟩ : ∃ c_1, St [] w_ c_ w_1 c_1 := ⟨_, s1.merge (fun x => x + 12)⟩
  refine WR.k rfl rfl rfl (OS.bin (a := vI (sealed.length : Int)) (b := vI r_) rfl rfl rfl bI_lss ?_)
  refine WR.k rfl rfl rfl (OS.assign (v := vB (decide ((sealed.length : Int) < r_))) rfl rfl ?_)
  refine WR.nil ?_
  refine WC.cond (decide ((sealed.length : Int) < r_)) rfl (fun hb => ?_) (fun hb => ?_)
  · rw [if_pos hb] at hp
    refine WC.seq (WC.region ?_)
    refine WR.k rfl rfl rfl (OS.assign (v := (.slice none 0 0)) rfl rfl ?_)
    refine WR.k rfl rfl rfl (OS.assign (v := vU64 (0 : UInt64)) rfl (by kernel_rfl) ?_)
    refine WR.k rfl rfl rfl (OS.assign (v := vI (3 : Int)) rfl rfl ?_)
    refine WR.nil ?_
    refine WC.ret ?_
    repeat first | refine thenQ_ret ?_ | refine blkQ_ret ?_
    cases hp
    exact fnQ.ls (fn := Try.f12) (rs := [.tmp 4, .tmp 5, .tmp 6]) (vs := [(.slice none 0 0), vU64 (0 : UInt64), vI (3 : Int)]) rfl ⟨(.inl ⟨_, rfl, rfl⟩), (.inl ⟨_, rfl, rfl⟩), (.inl ⟨_, rfl, rfl⟩), trivial⟩ ⟨_, _, rfl, (s.t s2).entry (by decide), Ow.nil⟩ (by simp)
  · rw [if_neg (nt hb)] at hp
    refine WC.seq (WC.region ?_)
    refine WR.k rfl rfl rfl (OS.move (v := v_) rfl rfl ?_)
    have o3 := o2.keep s2 (by decide)
    refine WR.k rfl rfl rfl (OS.lenSl rfl Try.runUnderlying25 rfl o3.isSl ?_)
    obtain ⟨r_1, hr_1, hp⟩ := bind_some hp
    refine WR.k rfl rfl rfl (OS.callF (vs := [vI (1024 : Int)]) rfl ⟨rfl, trivial⟩ Try.call18 ((W18 K w_1 hr_1).mono ?_))
    rintro _ w_2 ⟨d1, rfl, s3⟩
    refine ⟨_, rfl, ?_⟩
    obtain ⟨c_2, s4⟩ : ∃ c_2, St [] w_1 c_1 w_2 c_2 := ⟨_, s3.merge (fun x => x + 14)⟩
    refine WR.k rfl rfl rfl (OS.bin (a := vI (sealed.length : Int)) (b := vI r_1) rfl rfl rfl bI_gtr ?_)
    refine WR.k rfl rfl rfl (OS.assign (v := vB (decide (r_1 < (sealed.length : Int)))) rfl rfl ?_)
    refine WR.nil ?_
    refine WC.cond (decide (r_1 < (sealed.length : Int))) rfl (fun hb1 => ?_) (fun hb1 => ?_)
    · rw [if_pos hb1] at hp
      refine WC.seq (WC.region ?_)
      refine WR.k rfl rfl rfl (OS.assign (v := (.slice none 0 0)) rfl rfl ?_)
      refine WR.k rfl rfl rfl (OS.assign (v := vU64 (0 : UInt64)) rfl (by kernel_rfl) ?_)
      refine WR.k rfl rfl rfl (OS.assign (v := vI (6 : Int)) rfl rfl ?_)
      refine WR.nil ?_
      refine WC.ret ?_
      repeat first | refine thenQ_ret ?_ | refine blkQ_ret ?_
      cases hp
      exact fnQ.ls (fn := Try.f12) (rs := [.tmp 4, .tmp 5, .tmp 6]) (vs := [(.slice none 0 0), vU64 (0 : UInt64), vI (6 : Int)]) rfl ⟨(.inl ⟨_, rfl, rfl⟩), (.inl ⟨_, rfl, rfl⟩), (.inl ⟨_, rfl, rfl⟩), trivial⟩ ⟨_, _, rfl, ((s.t s2).t s4).entry (by decide), Ow.nil⟩ (by simp)
    · rw [if_neg (nt hb1)] at hp
      refine WC.skip ?_
      refine WC.seq (WC.region ?_)
      refine WR.k rfl rfl rfl (OS.move (v := v_) rfl rfl ?_)
      have o4 := o3.keep s4 (by decide)
      refine WR.k rfl rfl rfl (OS.lenSl rfl Try.runUnderlying25 rfl o4.isSl ?_)
      refine WR.k rfl rfl rfl (OS.bin (a := vI (sealed.length : Int)) (b := vI (16 : Int)) rfl rfl rfl bI_sub ?_)
      refine WR.k rfl rfl rfl (OS.assign (v := vI (W ((sealed.length : Int) - (16 : Int)))) rfl rfl ?_)
      refine WR.nil ?_
      refine WC.seq ?_
      have o5 := o1.keep (s2.t s4) (by decide)
      obtain ⟨ys, hys, hp⟩ := bind_some hp
      obtain ⟨ha, hb2, hc, hys⟩ := sub_some hys
      obtain ⟨r_2, hr_2, hp⟩ := bind_some hp
      obtain ⟨ys1, hys1, hp⟩ := bind_some hp
      obtain ⟨ha1, hb3, hc1, hys1⟩ := sub_some hys1
      obtain ⟨u, hu, hp⟩ := bind_some hp
      have hb4 := req_some hu
      refine WC.seq (WC.draw (c := c_2) ⟨10, [[1], [1], [1], [0], [1], [1], [1], [0], [0], [1]], [[], [], [], [], [], [], [], [], [], []], [], [[], [], [], [1, 2], [0, 3], [], [], [5, 6], [7], [8]], [4, 9]⟩ [fun v w c => v = .agg (fl E5 key).toArray, fun v w c => v = v_, fun v w c => v = vI (W ((sealed.length : Int) - (16 : Int))), fun v w c => Vw E5 0 w c v ys, fun v w c => v = .agg (fl E5 r_2).toArray ∧ r_2.length = 16, fun v w c => v = v_, fun v w c => v = vI (W ((sealed.length : Int) - (16 : Int))), fun v w c => Vw E5 0 w c v ys1, fun v w c => LdC 0 w c v (fl E5 (ys1.take 16)), fun v w c => v = .agg (fl E5 (ys1.take 16)).toArray] hmix (by kernel_rfl) (by kernel_rfl) ⟨?_, ?_, ?_, ?_, ?_, ?_, ?_, ?_, ?_, ?_, trivial⟩ ⟨fun _ _ _ _ _ _ h _ _ => h, fun _ _ _ _ _ _ h _ _ => h, fun _ _ _ _ _ _ h _ _ => h, fun _ _ _ _ _ _ h s hk => Vw.keep h s (hk _ (by simp)), fun _ _ _ _ _ _ h _ _ => h, fun _ _ _ _ _ _ h _ _ => h, fun _ _ _ _ _ _ h _ _ => h, fun _ _ _ _ _ _ h s hk => Vw.keep h s (hk _ (by simp)), fun _ _ _ _ _ _ h s hk => LdC.keep h s (hk _ (by simp)), fun _ _ _ _ _ _ h _ _ => h, trivial⟩ ?_)
      · rintro f_ w_3 c_3 hB hs1 ⟨-⟩ o ho; obtain rfl : _ = o := Option.some.inj ho
        have o6 := o1.keep ((s2.t s4).t hs1) (by decide)
        exact OS.ldN rfl Try.isAgg23 Try.sizeOf23 ((hB 2 (by kernel_rfl)).trans rfl) o6.ldAll (by rw [fl_length, hl]; rfl) ⟨_, St.refl, rfl⟩
      · rintro f_1 w_4 c_4 hB1 hs2 ⟨-⟩ o ho; obtain rfl : _ = o := Option.some.inj ho
        exact OS.move (v := v_) rfl ((hB1 1 (by kernel_rfl)).trans rfl) ⟨_, St.refl, rfl⟩
      · rintro f_2 w_5 c_5 hB2 hs3 ⟨-⟩ o ho; obtain rfl : _ = o := Option.some.inj ho
        exact OS.move (v := vI (W ((sealed.length : Int) - (16 : Int)))) rfl ((hB2 7 (by kernel_rfl)).trans rfl) ⟨_, St.refl, rfl⟩
      · rintro f_3 w_6 c_6 hB3 hs4 ⟨g, g1, -⟩ o ho; obtain rfl : _ = o := Option.some.inj ho
        replace g : (f_3 24) = v_ := g
        replace g1 : (f_3 25) = vI (W ((sealed.length : Int) - (16 : Int))) := g1
        have o7 := o4.keep hs4 (by decide)
        refine OS.sliceV rfl Try.underlying25 Try.sizeOf5 g o7 Bd.none (Bd.some g1 (by omega)) rfl (by omega) (by omega) ?_
        intro v h
        exact ⟨_, St.refl, (show Vw E5 0 w_6 c_6 v ys by rw [hys]; exact h)⟩
      · rintro f_4 w_7 c_7 hB4 hs5 ⟨g2, g3, -⟩ o ho; obtain rfl : _ = o := Option.some.inj ho
        replace g2 : (f_4 23) = .agg (fl E5 key).toArray := g2
        replace g3 : Vw E5 0 w_7 c_7 (f_4 26) ys := g3
        refine OS.callF (vs := [.agg (fl E5 key).toArray, (f_4 26)]) rfl ⟨g2, rfl, trivial⟩ Try.call23 ((W23 K w_7 hr_2 hl g3.forget).mono ?_)
        rintro _ w ⟨d, rfl, s, hl⟩
        exact ⟨_, rfl, _, s.merge id, rfl, hl⟩
      · rintro f_5 w_8 c_8 hB5 hs6 ⟨-⟩ o ho; obtain rfl : _ = o := Option.some.inj ho
        exact OS.move (v := v_) rfl ((hB5 1 (by kernel_rfl)).trans rfl) ⟨_, St.refl, rfl⟩
      · rintro f_6 w_9 c_9 hB6 hs7 ⟨-⟩ o ho; obtain rfl : _ = o := Option.some.inj ho
        exact OS.move (v := vI (W ((sealed.length : Int) - (16 : Int)))) rfl ((hB6 7 (by kernel_rfl)).trans rfl) ⟨_, St.refl, rfl⟩
      · rintro f_7 w_10 c_10 hB7 hs8 ⟨g4, g5, -⟩ o ho; obtain rfl : _ = o := Option.some.inj ho
        replace g4 : (f_7 28) = v_ := g4
        replace g5 : (f_7 29) = vI (W ((sealed.length : Int) - (16 : Int))) := g5
        have o8 := o4.keep hs8 (by decide)
        refine OS.sliceV rfl Try.underlying25 Try.sizeOf5 g4 o8 (Bd.some g5 ha1) Bd.none rfl (by omega) (by omega) ?_
        intro v h
        exact ⟨_, St.refl, (show Vw E5 0 w_10 c_10 v ys1 by rw [hys1]; exact h)⟩
      · rintro f_8 w_11 c_11 hB8 hs9 ⟨g6, -⟩ o ho; obtain rfl : _ = o := Option.some.inj ho
        replace g6 : Vw E5 0 w_11 c_11 (f_8 30) ys1 := g6
        refine OS.s2aC rfl Try.underlying50 rfl g6 hb4 (by decide) ?_
        intro v h
        exact ⟨_, St.refl, h⟩
      · rintro f_9 w_12 c_12 hB9 hs10 ⟨g7, -⟩ o ho; obtain rfl : _ = o := Option.some.inj ho
        replace g7 : LdC 0 w_12 c_12 (f_9 31) (fl E5 (ys1.take 16)) := g7
        exact OS.ldN rfl Try.isAgg50 Try.sizeOf50 rfl g7.ld (by rw [fl_length, List.length_take]; have := hb4; show min _ _ * 1 = _; omega) ⟨_, St.refl, rfl⟩
      · rintro f_10 w_13 c_13 hB10 hs11 ⟨g8, g9, -⟩
        have h := (hB10 1 (by kernel_rfl)).trans (show _ = v_ from rfl)
        have h1 := (hB10 2 (by kernel_rfl)).trans (show _ = p_ from rfl)
        have h2 := (hB10 5 (by kernel_rfl)).trans (show _ = vU64 (0 : UInt64) from rfl)
        have h3 := (hB10 7 (by kernel_rfl)).trans (show _ = vI (W ((sealed.length : Int) - (16 : Int))) from rfl)
        replace g8 : (f_10 27) = .agg (fl E5 r_2).toArray ∧ r_2.length = 16 := g8
        replace g9 : (f_10 32) = .agg (fl E5 (ys1.take 16)).toArray := g9
        refine WR.k rfl rfl rfl (OS.eqArr8 rfl (.inr ⟨rfl, rfl⟩) Try.underlying50 Try.underlying5 Try.sizeOf5 Try.isAgg5 Try.eqGuardType50 g8.1 g9 g8.2 (show (ys1.take 16).length = 16 from by rw [List.length_take]; have := hb4; omega) ?_)
        refine WR.nil ?_
        refine WC.cond (!decide (r_2 = (ys1.take 16))) rfl (fun hb5 => ?_) (fun hb5 => ?_)
        · rw [if_pos hb5] at hp
          refine WC.seq (WC.region ?_)
          refine WR.k rfl rfl rfl (OS.assign (v := (.slice none 0 0)) rfl rfl ?_)
          refine WR.k rfl rfl rfl (OS.assign (v := vU64 (0 : UInt64)) rfl (by kernel_rfl) ?_)
          refine WR.k rfl rfl rfl (OS.assign (v := vI (10 : Int)) rfl rfl ?_)
          refine WR.nil ?_
          refine WC.ret ?_
          repeat first | refine thenQ_ret ?_ | refine blkQ_ret ?_
          cases hp
          exact fnQ.ls (fn := Try.f12) (rs := [.tmp 4, .tmp 5, .tmp 6]) (vs := [(.slice none 0 0), vU64 (0 : UInt64), vI (10 : Int)]) rfl ⟨(.inl ⟨_, rfl, rfl⟩), (.inl ⟨_, rfl, rfl⟩), (.inl ⟨_, rfl, rfl⟩), trivial⟩ ⟨_, _, rfl, (((s.t s2).t s4).t hs11).entry (by decide), Ow.nil⟩ (by simp)
        · rw [if_neg (nt hb5)] at hp
          refine WC.skip ?_
          refine WC.seq ?_
          refine WC.seq (WC.region ?_)
          refine WR.k rfl rfl rfl (OS.move (v := v_) rfl h ?_)
          have o9 := o4.keep hs11 (by decide)
          obtain ⟨ys2, hys2, hp⟩ := bind_some hp
          obtain ⟨ha2, hb6, hc2, hys2⟩ := sub_some hys2
          refine WR.k rfl rfl rfl (OS.sliceV rfl Try.underlying25 Try.sizeOf5 rfl o9 Bd.none (Bd.some rfl (by omega)) rfl (by omega) (by omega) ?_); intro v_1 y2
          replace y2 : Vw E5 0 w_13 c_13 v_1 ys2 := by rw [hys2]; exact y2
          refine WR.k rfl rfl rfl (OS.lenSl rfl Try.runUnderlying25 rfl y2.isSl ?_)
          refine WR.k rfl rfl rfl (OS.move (v := vI (0 : Int)) rfl rfl ?_)
          refine WR.nil ?_
          obtain ⟨q, hl1, hp⟩ := bind_some hp
          obtain ⟨once1, hx⟩ : ∃ z, z = q := ⟨_, rfl⟩; subst hx
          refine WC.blockJ2 (fun f_11 w_14 => f_11 1 = v_ ∧ f_11 2 = p_ ∧ f_11 5 = vU64 once1 ∧ f_11 7 = vI (W ((sealed.length : Int) - (16 : Int))) ∧ w_13 = w_14) ?_ ?_
          · refine WC.loop (fun n => fun f_12 w_15 => ∃ (once : UInt64) (x37 : Int), seal_Open.l1 n ys2 once x37 = some once1 ∧ f_12 1 = v_ ∧ f_12 2 = p_ ∧ f_12 5 = vU64 once ∧ f_12 7 = vI (W ((sealed.length : Int) - (16 : Int))) ∧ f_12 35 = v_1 ∧ f_12 36 = vI (ys2.length : Int) ∧ f_12 37 = vI x37 ∧ w_13 = w_15) K ⟨_, _, hl1, h, h1, h2, h3, rfl, rfl, rfl, rfl⟩ ?_
            rintro n f_12 _ ⟨once, x37, hl1, h4, h5, h6, h7, h8, h9, h10, rfl⟩
            cases n with
            | zero => exact absurd hl1 (by simp [seal_Open.l1])
            | succ k =>
            rw [seal_Open.l1] at hl1
            refine WC.seq (WC.region ?_)
            refine WR.k rfl rfl rfl (OS.bin (a := vI x37) (b := vI (ys2.length : Int)) rfl h10 h9 bI_lss ?_)
            refine WR.nil ?_
            refine WC.seq ?_
            refine WC.cond (decide (x37 < (ys2.length : Int))) rfl (fun hb7 => ?_) (fun hb7 => ?_)
            · rw [if_pos hb7] at hl1
              refine WC.skip ?_
              refine WC.seq ?_
              refine WC.block ?_
              refine WC.seq (WC.region ?_)
              obtain ⟨e, he, hl1⟩ := bind_some hl1
              obtain ⟨ha3, hb8, hc3⟩ := gt_some he
              refine WR.k rfl rfl rfl (OS.idx rfl Try.runUnderlying25 Try.sizeOf5 h8 y2.isSl h10 ha3 hb8 ?_); intro p_1 a1
              refine WR.k rfl rfl rfl (OS.ld1 (u := vU8 e) rfl Try.isAgg5 rfl (y2.ld a1 hc3) ?_)
              refine WR.k rfl rfl rfl (OS.assign (v := vU8 e) rfl rfl ?_)
              refine WR.nil ?_
              refine WC.region ?_
              refine WR.k rfl rfl rfl (OS.move (v := vU64 once) rfl h6 ?_)
              refine WR.k rfl rfl rfl (OS.bin (a := vU64 once) (b := vU64 (8 : UInt64)) rfl rfl (by kernel_rfl) (b64_shl (by decide)) ?_)
              refine WR.k rfl rfl rfl (OS.move (v := vU8 e) rfl rfl ?_)
              refine WR.k rfl rfl rfl (OS.conv rfl Try.runUnderlying5 Try.runUnderlying24 rfl (cv_8_64 _) ?_)
              refine WR.k rfl rfl rfl (OS.bin (a := vU64 (shl64 once 8)) (b := vU64 e.toUInt64) rfl rfl rfl b64_or ?_)
              refine WR.k rfl rfl rfl (OS.assign (v := vU64 ((shl64 once 8) ||| e.toUInt64)) rfl rfl ?_)
              refine WR.nil ?_
              refine WC.region ?_
              refine WR.k rfl rfl rfl (OS.bin (a := vI x37) (b := vI (1 : Int)) rfl h10 rfl bI_add ?_)
              refine WR.k rfl rfl rfl (OS.move (v := vI (W (x37 + (1 : Int)))) rfl rfl ?_)
              refine WR.nil ?_
              exact ⟨k, by omega, _, _, hl1, h4, h5, rfl, h7, h8, h9, rfl, rfl⟩
            · rw [if_neg (nt hb7)] at hl1
              refine WC.exit ?_
              cases hl1
              exact ⟨h4, h5, h6, h7, rfl⟩
          · rintro f_11 _ ⟨h11, h12, h13, h14, rfl⟩
            have o10 := o1.keep ((s2.t s4).t hs11) (by decide)
            obtain ⟨ys3, hys3, hp⟩ := bind_some hp
            obtain ⟨ha4, hb9, hc4, hys3⟩ := sub_some hys3
            obtain ⟨r_3, hr_3, hp⟩ := bind_some hp
            refine WC.seq (WC.draw (c := c_13) ⟨8, [[1], [1], [1], [1], [0], [21], [1], [21]], [[], [], [], [], [], [], [], []], [], [[], [], [], [], [2, 3], [0, 1, 4], [], [5]], [6, 7]⟩ [fun v w c => v = .agg (fl E5 key).toArray, fun v w c => v = vU64 once1, fun v w c => v = v_, fun v w c => v = vI (W ((sealed.length : Int) - (16 : Int))), fun v w c => Vw E5 0 w c v ys3, fun v w c => Ow E5 21 w c v r_3, fun v w c => v = vU64 once1, fun v w c => Ow E5 21 w c v r_3] hmix (by kernel_rfl) (by kernel_rfl) ⟨?_, ?_, ?_, ?_, ?_, ?_, ?_, ?_, trivial⟩ ⟨fun _ _ _ _ _ _ h _ _ => h, fun _ _ _ _ _ _ h _ _ => h, fun _ _ _ _ _ _ h _ _ => h, fun _ _ _ _ _ _ h _ _ => h, fun _ _ _ _ _ _ h s hk => Vw.keep h s (hk _ (by simp)), fun _ _ _ _ _ _ h s hk => Ow.keep h s (hk _ (by simp)), fun _ _ _ _ _ _ h _ _ => h, fun _ _ _ _ _ _ h s hk => Ow.keep h s (hk _ (by simp)), trivial⟩ ?_)
            · rintro f_13 w_16 c_16 hB11 hs12 ⟨-⟩ o ho; obtain rfl : _ = o := Option.some.inj ho
              have o11 := o1.keep (((s2.t s4).t hs11).t hs12) (by decide)
              exact OS.ldN rfl Try.isAgg23 Try.sizeOf23 ((hB11 2 (by kernel_rfl)).trans h12) o11.ldAll (by rw [fl_length, hl]; rfl) ⟨_, St.refl, rfl⟩
            · rintro f_14 w_17 c_17 hB12 hs13 ⟨-⟩ o ho; obtain rfl : _ = o := Option.some.inj ho
              exact OS.move (v := vU64 once1) rfl ((hB12 5 (by kernel_rfl)).trans h13) ⟨_, St.refl, rfl⟩
            · rintro f_15 w_18 c_18 hB13 hs14 ⟨-⟩ o ho; obtain rfl : _ = o := Option.some.inj ho
              exact OS.move (v := v_) rfl ((hB13 1 (by kernel_rfl)).trans h11) ⟨_, St.refl, rfl⟩
            · rintro f_16 w_19 c_19 hB14 hs15 ⟨-⟩ o ho; obtain rfl : _ = o := Option.some.inj ho
              exact OS.move (v := vI (W ((sealed.length : Int) - (16 : Int)))) rfl ((hB14 7 (by kernel_rfl)).trans h14) ⟨_, St.refl, rfl⟩
            · rintro f_17 w_20 c_20 hB15 hs16 ⟨g10, g11, -⟩ o ho; obtain rfl : _ = o := Option.some.inj ho
              replace g10 : (f_17 49) = v_ := g10
              replace g11 : (f_17 50) = vI (W ((sealed.length : Int) - (16 : Int))) := g11
              have o12 := o9.keep hs16 (by decide)
              refine OS.sliceV rfl Try.underlying25 Try.sizeOf5 g10 o12 (Bd.some rfl ha4) (Bd.some g11 (by omega)) rfl (by omega) (by omega) ?_
              intro v h
              exact ⟨_, St.refl, (show Vw E5 0 w_20 c_20 v ys3 by rw [hys3]; exact h)⟩
            · rintro f_18 w_21 c_21 hB16 hs17 ⟨g12, g13, g14, -⟩ o ho; obtain rfl : _ = o := Option.some.inj ho
              replace g12 : (f_18 47) = .agg (fl E5 key).toArray := g12
              replace g13 : (f_18 48) = vU64 once1 := g13
              replace g14 : Vw E5 0 w_21 c_21 (f_18 51) ys3 := g14
              refine OS.callF (vs := [.agg (fl E5 key).toArray, vU64 once1, (f_18 51)]) rfl ⟨g12, g13, rfl, trivial⟩ Try.call22 ((W22 K w_21 hr_3 hl g14.forget).mono ?_)
              rintro _ w ⟨v, d, rfl, s, o⟩
              exact ⟨_, rfl, _, s.merge (fun x => x + 19), o.merge (fun x => x + 19) s (by decide)⟩
            · rintro f_19 w_22 c_22 hB17 hs18 ⟨-⟩ o ho; obtain rfl : _ = o := Option.some.inj ho
              exact OS.move (v := vU64 once1) rfl ((hB17 5 (by kernel_rfl)).trans h13) ⟨_, St.refl, rfl⟩
            · rintro f_20 w_23 c_23 hB18 hs19 ⟨g15, -⟩ o ho; obtain rfl : _ = o := Option.some.inj ho
              replace g15 : Ow E5 21 w_23 c_23 (f_20 52) r_3 := g15
              exact OS.assign (v := (f_20 52)) rfl rfl ⟨_, St.refl, g15⟩
            · rintro f_21 w_24 c_24 hB19 hs20 ⟨g16, g17, -⟩
              replace g16 : (f_21 53) = vU64 once1 := g16
              replace g17 : Ow E5 21 w_24 c_24 (f_21 4) r_3 := g17
              refine WR.k rfl rfl rfl (OS.assign (v := vU64 once1) rfl g16 ?_)
              refine WR.k rfl rfl rfl (OS.assign (v := vI (0 : Int)) rfl rfl ?_)
              refine WR.nil ?_
              refine WC.ret ?_
              repeat first | refine thenQ_ret ?_ | refine blkQ_ret ?_
              cases hp
              obtain ⟨c_25, s5, o13⟩ := g17.recol 2
              exact fnQ.ls (fn := Try.f12) (rs := [.tmp 4, .tmp 5, .tmp 6]) (vs := [(f_21 4), vU64 once1, vI (0 : Int)]) rfl ⟨(.inl ⟨_, rfl, rfl⟩), (.inl ⟨_, rfl, rfl⟩), (.inl ⟨_, rfl, rfl⟩), trivial⟩ ⟨_, _, rfl, (((((s.t s2).t s4).t hs11).t hs20).t s5).entry (by decide), o13⟩ (by simp)

-- holdfast/holdfastref01.SameBytes
set_option maxHeartbeats 4000000 in
theorem W15 (K : Nat) (w0 : World) {a1 : List UInt8} {b : List UInt8} {r : Bool} (hp : holdfastref01_SameBytes K a1 b = some r) {v_ : Value} (o : Vw E5 0 w0 c0 v_ a1) {v_1 : Value} (o1 : Vw E5 0 w0 c0 v_1 b) :
    Calls Try.prog 15 [v_, v_1].toArray w0 fun e w1 => ∃ (d : Col), e = .returned (vB r) ∧ St [] w0 c0 w1 d := by
  refine calls_intro Try.func15 rfl Try.ntmps15 rfl ?_
  unfold holdfastref01_SameBytes at hp
  refine WC.seq (WC.region ?_)
  refine WR.k rfl rfl rfl (OS.assign (v := vB false) rfl rfl ?_)
  refine WR.nil ?_
  refine WC.seq ?_
  refine WC.seq (WC.region ?_)
  refine WR.k rfl rfl rfl (OS.move (v := v_) rfl rfl ?_)
  refine WR.k rfl rfl rfl (OS.lenSl rfl Try.runUnderlying25 rfl o.isSl ?_)
  refine WR.k rfl rfl rfl (OS.move (v := v_1) rfl rfl ?_)
  refine WR.k rfl rfl rfl (OS.lenSl rfl Try.runUnderlying25 rfl o1.isSl ?_)
  refine WR.k rfl rfl rfl (OS.bin (a := vI (a1.length : Int)) (b := vI (b.length : Int)) rfl rfl rfl bI_neq ?_)
  refine WR.nil ?_
  refine WC.cond (!decide ((a1.length : Int) = (b.length : Int))) rfl (fun hb => ?_) (fun hb => ?_)
  · rw [if_pos hb] at hp
    refine WC.seq (WC.region ?_)
    refine WR.k rfl rfl rfl (OS.assign (v := vB false) rfl rfl ?_)
    refine WR.nil ?_
    refine WC.ret ?_
    repeat first | refine thenQ_ret ?_ | refine blkQ_ret ?_
    cases hp
    exact fnQ.l1 (fn := Try.f15) rfl (.inl ⟨_, rfl, rfl⟩) ⟨_, rfl, St.refl⟩
  · rw [if_neg (nt hb)] at hp
    refine WC.skip ?_
    refine WC.seq ?_
    refine WC.seq (WC.region ?_)
    refine WR.k rfl rfl rfl (OS.assign (v := vI (0 : Int)) rfl rfl ?_)
    refine WR.nil ?_
    obtain ⟨q, hl, hp⟩ := bind_some hp
    refine WC.blockJ2 (fun f_ w_ => ∃ (c_ : Col), q = .go () ∧ St [] w0 c0 w_ c_) ?_ ?_
    · refine WC.loop (fun n => fun f_1 w_1 => ∃ (i : Int) (c_1 : Col), holdfastref01_SameBytes.l1 n a1 b i = some q ∧ f_1 0 = v_ ∧ f_1 1 = v_1 ∧ f_1 5 = vI i ∧ St [] w0 c0 w_1 c_1) K ⟨_, _, hl, rfl, rfl, rfl, St.refl.mono (by decide)⟩ ?_
      rintro n f_1 w_1 ⟨i, c_1, hl, h, h1, h2, s⟩
      cases n with
      | zero => exact absurd hl (by simp [holdfastref01_SameBytes.l1])
      | succ k =>
      rw [holdfastref01_SameBytes.l1] at hl
      refine WC.seq ?_
      refine WC.seq (WC.region ?_)
      refine WR.k rfl rfl rfl (OS.move (v := vI i) rfl h2 ?_)
      refine WR.k rfl rfl rfl (OS.move (v := v_) rfl h ?_)
      have o2 := o.keep s (by decide)
      refine WR.k rfl rfl rfl (OS.lenSl rfl Try.runUnderlying25 rfl o2.isSl ?_)
      refine WR.k rfl rfl rfl (OS.bin (a := vI i) (b := vI (a1.length : Int)) rfl rfl rfl bI_lss ?_)
      refine WR.nil ?_
      refine WC.cond (decide (i < (a1.length : Int))) rfl (fun hb1 => ?_) (fun hb1 => ?_)
      · rw [if_pos hb1] at hl
        refine WC.skip ?_
        refine WC.seq ?_
        refine WC.block ?_
        obtain ⟨e, he, hl⟩ := bind_some hl
        obtain ⟨ha, hb2, hc⟩ := gt_some he
        have o3 := o1.keep s (by decide)
        obtain ⟨e1, he1, hl⟩ := bind_some hl
        obtain ⟨ha1, hb3, hc1⟩ := gt_some he1
        refine WC.seq (WC.draw (c := c_1) ⟨8, [[1], [1], [1], [1], [1], [1], [1], [1]], [[], [], [], [], [], [], [], []], [], [[], [], [0, 1], [2], [], [], [4, 5], [6]], [3, 7]⟩ [fun v w c => v = v_, fun v w c => v = vI i, fun v w c => Adr v_ (i).toNat 1 v, fun v w c => v = vU8 e, fun v w c => v = v_1, fun v w c => v = vI i, fun v w c => Adr v_1 (i).toNat 1 v, fun v w c => v = vU8 e1] hmix (by kernel_rfl) (by kernel_rfl) ⟨?_, ?_, ?_, ?_, ?_, ?_, ?_, ?_, trivial⟩ ⟨fun _ _ _ _ _ _ h _ _ => h, fun _ _ _ _ _ _ h _ _ => h, fun _ _ _ _ _ _ h _ _ => h, fun _ _ _ _ _ _ h _ _ => h, fun _ _ _ _ _ _ h _ _ => h, fun _ _ _ _ _ _ h _ _ => h, fun _ _ _ _ _ _ h _ _ => h, fun _ _ _ _ _ _ h _ _ => h, trivial⟩ ?_)
        · rintro f_2 w_2 c_2 hB hs1 ⟨-⟩ o ho; obtain rfl : _ = o := Option.some.inj ho
          exact OS.move (v := v_) rfl ((hB 0 (by kernel_rfl)).trans h) ⟨_, St.refl, rfl⟩
        · rintro f_3 w_3 c_3 hB1 hs2 ⟨-⟩ o ho; obtain rfl : _ = o := Option.some.inj ho
          exact OS.move (v := vI i) rfl ((hB1 5 (by kernel_rfl)).trans h2) ⟨_, St.refl, rfl⟩
        · rintro f_4 w_4 c_4 hB2 hs3 ⟨g, g1, -⟩ o ho; obtain rfl : _ = o := Option.some.inj ho
          replace g : (f_4 17) = v_ := g
          replace g1 : (f_4 18) = vI i := g1
          have o4 := o2.keep hs3 (by decide)
          exact OS.idx rfl Try.runUnderlying25 Try.sizeOf5 g o4.isSl g1 ha hb2 (fun _ h => ⟨_, St.refl, h⟩)
        · rintro f_5 w_5 c_5 hB3 hs4 ⟨g2, -⟩ o ho; obtain rfl : _ = o := Option.some.inj ho
          replace g2 : Adr v_ (i).toNat 1 (f_5 19) := g2
          have o5 := o2.keep hs4 (by decide)
          exact OS.ld1 (u := vU8 e) rfl Try.isAgg5 rfl (o5.ld g2 hc) ⟨_, St.refl, rfl⟩
        · rintro f_6 w_6 c_6 hB4 hs5 ⟨-⟩ o ho; obtain rfl : _ = o := Option.some.inj ho
          exact OS.move (v := v_1) rfl ((hB4 1 (by kernel_rfl)).trans h1) ⟨_, St.refl, rfl⟩
        · rintro f_7 w_7 c_7 hB5 hs6 ⟨-⟩ o ho; obtain rfl : _ = o := Option.some.inj ho
          exact OS.move (v := vI i) rfl ((hB5 5 (by kernel_rfl)).trans h2) ⟨_, St.refl, rfl⟩
        · rintro f_8 w_8 c_8 hB6 hs7 ⟨g3, g4, -⟩ o ho; obtain rfl : _ = o := Option.some.inj ho
          replace g3 : (f_8 21) = v_1 := g3
          replace g4 : (f_8 22) = vI i := g4
          have o6 := o1.keep (s.t hs7) (by decide)
          exact OS.idx rfl Try.runUnderlying25 Try.sizeOf5 g3 o6.isSl g4 ha1 hb3 (fun _ h => ⟨_, St.refl, h⟩)
        · rintro f_9 w_9 c_9 hB7 hs8 ⟨g5, -⟩ o ho; obtain rfl : _ = o := Option.some.inj ho
          replace g5 : Adr v_1 (i).toNat 1 (f_9 23) := g5
          have o7 := o1.keep (s.t hs8) (by decide)
          exact OS.ld1 (u := vU8 e1) rfl Try.isAgg5 rfl (o7.ld g5 hc1) ⟨_, St.refl, rfl⟩
        · rintro f_10 w_10 c_10 hB8 hs9 ⟨g6, g7, -⟩
          have h3 := (hB8 0 (by kernel_rfl)).trans h
          have h4 := (hB8 1 (by kernel_rfl)).trans h1
          have h5 := (hB8 5 (by kernel_rfl)).trans h2
          replace g6 : (f_10 20) = vU8 e := g6
          replace g7 : (f_10 24) = vU8 e1 := g7
          refine WR.k rfl rfl rfl (OS.bin (a := vU8 e) (b := vU8 e1) rfl g6 g7 b8_neq ?_)
          refine WR.nil ?_
          refine WC.cond (!decide (e = e1)) rfl (fun hb4 => ?_) (fun hb4 => ?_)
          · rw [if_pos hb4] at hl
            refine WC.seq (WC.region ?_)
            refine WR.k rfl rfl rfl (OS.assign (v := vB false) rfl rfl ?_)
            refine WR.nil ?_
            refine WC.ret ?_
            repeat first | refine thenQ_ret ?_ | refine blkQ_ret ?_
            cases hl
            simp only [lrc] at hp
            cases hp
            exact fnQ.l1 (fn := Try.f15) rfl (.inl ⟨_, rfl, rfl⟩) ⟨_, rfl, (s.t hs9).entry (by decide)⟩
          · rw [if_neg (nt hb4)] at hl
            refine WC.skip ?_
            refine WC.region ?_
            refine WR.k rfl rfl rfl (OS.move (v := vI i) rfl h5 ?_)
            refine WR.k rfl rfl rfl (OS.bin (a := vI i) (b := vI (1 : Int)) rfl rfl rfl bI_add ?_)
            refine WR.k rfl rfl rfl (OS.assign (v := vI (W (i + (1 : Int)))) rfl rfl ?_)
            refine WR.nil ?_
            exact ⟨k, by omega, _, _, hl, h3, h4, rfl, (s.t hs9).mono (by decide)⟩
      · rw [if_neg (nt hb1)] at hl
        refine WC.exit ?_
        cases hl
        exact ⟨_, rfl, s.mono (by decide)⟩
    · rintro f_ w_ ⟨c_, rfl, s1⟩
      simp only [lrc] at hp
      refine WC.seq (WC.region ?_)
      refine WR.k rfl rfl rfl (OS.assign (v := vB true) rfl rfl ?_)
      refine WR.nil ?_
      refine WC.ret ?_
      repeat first | refine thenQ_ret ?_ | refine blkQ_ret ?_
      cases hp
      exact fnQ.l1 (fn := Try.f15) rfl (.inl ⟨_, rfl, rfl⟩) ⟨_, rfl, s1.entry (by decide)⟩

-- holdfast/holdfastref08.Open
set_option maxHeartbeats 4000000 in
theorem W13 (K : Nat) (w0 : World) {key : List UInt8} {sealed : List UInt8} {r : (List UInt8) × UInt64 × Int} (hp : holdfastref08_Open K key sealed = some r) (hl : key.length = 32) {v_ : Value} (o : Vw E5 0 w0 c0 v_ sealed) :
    Calls Try.prog 13 [.agg (fl E5 key).toArray, v_].toArray w0 fun e w1 => ∃ (v0 : Value) (d : Col), e = .returned (.tuple #[v0, vU64 r.2.1, vI r.2.2]) ∧ St [] w0 c0 w1 d ∧ Ow E5 2 w1 d v0 r.1 := by
  refine calls_intro Try.func13 rfl Try.ntmps13 rfl ?_
  unfold holdfastref08_Open at hp
  refine WC.seq (WC.region ?_)
  refine WR.k rfl rfl rfl (OS.boxArr (E := E5) (c := c0) 12 rfl rfl ?_); intro p_ w_ c_ o1 s
  refine WR.k rfl rfl rfl (OS.assign (v := (.slice none 0 0)) rfl rfl ?_)
  refine WR.k rfl rfl rfl (OS.assign (v := vU64 (0 : UInt64)) rfl (by kernel_rfl) ?_)
  refine WR.k rfl rfl rfl (OS.assign (v := vI (0 : Int)) rfl rfl ?_)
  refine WR.nil ?_
  refine WC.seq (WC.region ?_)
  refine WR.k rfl rfl rfl (OS.move (v := v_) rfl rfl ?_)
  have o2 := o.keep s (by decide)
  refine WR.k rfl rfl rfl (OS.lenSl rfl Try.runUnderlying25 rfl o2.isSl ?_)
  refine WR.k rfl rfl rfl (OS.assign (v := vI (sealed.length : Int)) rfl rfl ?_)
  refine WR.nil ?_
  refine WC.seq ?_
  refine WC.seq (WC.region ?_)
  refine WR.k rfl rfl rfl (OS.move (v := vI (sealed.length : Int)) rfl rfl ?_)
  refine WR.k rfl rfl rfl (OS.bin (a := vI (sealed.length : Int)) (b := vI (24 : Int)) rfl rfl rfl bI_lss ?_)
  refine WR.nil ?_
  refine WC.cond (decide ((sealed.length : Int) < (24 : Int))) rfl (fun hb => ?_) (fun hb => ?_)
  · rw [if_pos hb] at hp
    refine WC.seq (WC.region ?_)
    refine WR.k rfl rfl rfl (OS.assign (v := (.slice none 0 0)) rfl rfl ?_)
    refine WR.k rfl rfl rfl (OS.assign (v := vU64 (0 : UInt64)) rfl (by kernel_rfl) ?_)
    refine WR.k rfl rfl rfl (OS.assign (v := vI (3 : Int)) rfl rfl ?_)
    refine WR.nil ?_
    refine WC.ret ?_
    repeat first | refine thenQ_ret ?_ | refine blkQ_ret ?_
    cases hp
    exact fnQ.ls (fn := Try.f13) (rs := [.tmp 4, .tmp 5, .tmp 6]) (vs := [(.slice none 0 0), vU64 (0 : UInt64), vI (3 : Int)]) rfl ⟨(.inl ⟨_, rfl, rfl⟩), (.inl ⟨_, rfl, rfl⟩), (.inl ⟨_, rfl, rfl⟩), trivial⟩ ⟨_, _, rfl, s.entry (by decide), Ow.nil⟩ (by simp)
  · rw [if_neg (nt hb)] at hp
    refine WC.skip ?_
    refine WC.seq ?_
    refine WC.seq (WC.region ?_)
    refine WR.k rfl rfl rfl (OS.move (v := vI (sealed.length : Int)) rfl rfl ?_)
    refine WR.k rfl rfl rfl (OS.bin (a := vI (sealed.length : Int)) (b := vI (1048 : Int)) rfl rfl rfl bI_gtr ?_)
    refine WR.nil ?_
    refine WC.cond (decide ((1048 : Int) < (sealed.length : Int))) rfl (fun hb1 => ?_) (fun hb1 => ?_)
    · rw [if_pos hb1] at hp
      refine WC.seq (WC.region ?_)
      refine WR.k rfl rfl rfl (OS.assign (v := (.slice none 0 0)) rfl rfl ?_)
      refine WR.k rfl rfl rfl (OS.assign (v := vU64 (0 : UInt64)) rfl (by kernel_rfl) ?_)
      refine WR.k rfl rfl rfl (OS.assign (v := vI (6 : Int)) rfl rfl ?_)
      refine WR.nil ?_
      refine WC.ret ?_
      repeat first | refine thenQ_ret ?_ | refine blkQ_ret ?_
      cases hp
      exact fnQ.ls (fn := Try.f13) (rs := [.tmp 4, .tmp 5, .tmp 6]) (vs := [(.slice none 0 0), vU64 (0 : UInt64), vI (6 : Int)]) rfl ⟨(.inl ⟨_, rfl, rfl⟩), (.inl ⟨_, rfl, rfl⟩), (.inl ⟨_, rfl, rfl⟩), trivial⟩ ⟨_, _, rfl, s.entry (by decide), Ow.nil⟩ (by simp)
    · rw [if_neg (nt hb1)] at hp
      refine WC.skip ?_
      refine WC.seq ?_
      obtain ⟨ys, hys, hp⟩ := bind_some hp
      obtain ⟨ha, hb2, hc, hys⟩ := sub_some hys
      obtain ⟨r_, hr_, hp⟩ := bind_some hp
      obtain ⟨ys1, hys1, hp⟩ := bind_some hp
      obtain ⟨ha1, hb3, hc1, hys1⟩ := sub_some hys1
      refine WC.seq (WC.draw (c := c_) ⟨10, [[1], [1], [1], [1], [0], [14], [1], [1], [1], [0]], [[], [], [], [], [], [], [], [], [], []], [], [[], [], [], [2], [1, 3], [0, 4], [], [], [7], [6, 8]], [5, 9]⟩ [fun v w c => v = .agg (fl E5 key).toArray, fun v w c => v = v_, fun v w c => v = vI (sealed.length : Int), fun v w c => v = vI (W ((sealed.length : Int) - (16 : Int))), fun v w c => Vw E5 0 w c v ys, fun v w c => Ow E5 14 w c v r_, fun v w c => v = v_, fun v w c => v = vI (sealed.length : Int), fun v w c => v = vI (W ((sealed.length : Int) - (16 : Int))), fun v w c => Vw E5 0 w c v ys1] hmix (by kernel_rfl) (by kernel_rfl) ⟨?_, ?_, ?_, ?_, ?_, ?_, ?_, ?_, ?_, ?_, trivial⟩ ⟨fun _ _ _ _ _ _ h _ _ => h, fun _ _ _ _ _ _ h _ _ => h, fun _ _ _ _ _ _ h _ _ => h, fun _ _ _ _ _ _ h _ _ => h, fun _ _ _ _ _ _ h s hk => Vw.keep h s (hk _ (by simp)), fun _ _ _ _ _ _ h s hk => Ow.keep h s (hk _ (by simp)), fun _ _ _ _ _ _ h _ _ => h, fun _ _ _ _ _ _ h _ _ => h, fun _ _ _ _ _ _ h _ _ => h, fun _ _ _ _ _ _ h s hk => Vw.keep h s (hk _ (by simp)), trivial⟩ ?_)
      · rintro f_ w_1 c_1 hB hs1 ⟨-⟩ o ho; obtain rfl : _ = o := Option.some.inj ho
        have o3 := o1.keep hs1 (by decide)
        exact OS.ldN rfl Try.isAgg23 Try.sizeOf23 ((hB 2 (by kernel_rfl)).trans rfl) o3.ldAll (by rw [fl_length, hl]; rfl) ⟨_, St.refl, rfl⟩
      · rintro f_1 w_2 c_2 hB1 hs2 ⟨-⟩ o ho; obtain rfl : _ = o := Option.some.inj ho
        exact OS.move (v := v_) rfl ((hB1 1 (by kernel_rfl)).trans rfl) ⟨_, St.refl, rfl⟩
      · rintro f_2 w_3 c_3 hB2 hs3 ⟨-⟩ o ho; obtain rfl : _ = o := Option.some.inj ho
        exact OS.move (v := vI (sealed.length : Int)) rfl ((hB2 7 (by kernel_rfl)).trans rfl) ⟨_, St.refl, rfl⟩
      · rintro f_3 w_4 c_4 hB3 hs4 ⟨g, -⟩ o ho; obtain rfl : _ = o := Option.some.inj ho
        replace g : (f_3 22) = vI (sealed.length : Int) := g
        exact OS.bin (a := vI (sealed.length : Int)) (b := vI (16 : Int)) rfl g rfl bI_sub ⟨_, St.refl, rfl⟩
      · rintro f_4 w_5 c_5 hB4 hs5 ⟨g1, g2, -⟩ o ho; obtain rfl : _ = o := Option.some.inj ho
        replace g1 : (f_4 21) = v_ := g1
        replace g2 : (f_4 23) = vI (W ((sealed.length : Int) - (16 : Int))) := g2
        have o4 := o2.keep hs5 (by decide)
        refine OS.sliceV rfl Try.underlying25 Try.sizeOf5 g1 o4 Bd.none (Bd.some g2 (by omega)) rfl (by omega) (by omega) ?_
        intro v h
        exact ⟨_, St.refl, (show Vw E5 0 w_5 c_5 v ys by rw [hys]; exact h)⟩
      · rintro f_5 w_6 c_6 hB5 hs6 ⟨g3, g4, -⟩ o ho; obtain rfl : _ = o := Option.some.inj ho
        replace g3 : (f_5 20) = .agg (fl E5 key).toArray := g3
        replace g4 : Vw E5 0 w_6 c_6 (f_5 24) ys := g4
        refine OS.callF (vs := [.agg (fl E5 key).toArray, (f_5 24)]) rfl ⟨g3, rfl, trivial⟩ Try.call20 ((W20 K w_6 hr_ hl g4.forget).mono ?_)
        rintro _ w ⟨v, d, rfl, s, o⟩
        exact ⟨_, rfl, _, s.merge (fun x => x + 12), o.merge (fun x => x + 12) s (by decide)⟩
      · rintro f_6 w_7 c_7 hB6 hs7 ⟨-⟩ o ho; obtain rfl : _ = o := Option.some.inj ho
        exact OS.move (v := v_) rfl ((hB6 1 (by kernel_rfl)).trans rfl) ⟨_, St.refl, rfl⟩
      · rintro f_7 w_8 c_8 hB7 hs8 ⟨-⟩ o ho; obtain rfl : _ = o := Option.some.inj ho
        exact OS.move (v := vI (sealed.length : Int)) rfl ((hB7 7 (by kernel_rfl)).trans rfl) ⟨_, St.refl, rfl⟩
      · rintro f_8 w_9 c_9 hB8 hs9 ⟨g5, -⟩ o ho; obtain rfl : _ = o := Option.some.inj ho
        replace g5 : (f_8 27) = vI (sealed.length : Int) := g5
        exact OS.bin (a := vI (sealed.length : Int)) (b := vI (16 : Int)) rfl g5 rfl bI_sub ⟨_, St.refl, rfl⟩
      · rintro f_9 w_10 c_10 hB9 hs10 ⟨g6, g7, -⟩ o ho; obtain rfl : _ = o := Option.some.inj ho
        replace g6 : (f_9 26) = v_ := g6
        replace g7 : (f_9 28) = vI (W ((sealed.length : Int) - (16 : Int))) := g7
        have o5 := o2.keep hs10 (by decide)
        refine OS.sliceV rfl Try.underlying25 Try.sizeOf5 g6 o5 (Bd.some g7 ha1) Bd.none rfl (by omega) (by omega) ?_
        intro v h
        exact ⟨_, St.refl, (show Vw E5 0 w_10 c_10 v ys1 by rw [hys1]; exact h)⟩
      · rintro f_10 w_11 c_11 hB10 hs11 ⟨g8, g9, -⟩
        have h := (hB10 1 (by kernel_rfl)).trans (show _ = v_ from rfl)
        have h1 := (hB10 2 (by kernel_rfl)).trans (show _ = p_ from rfl)
        have h2 := (hB10 7 (by kernel_rfl)).trans (show _ = vI (sealed.length : Int) from rfl)
        replace g8 : Ow E5 14 w_11 c_11 (f_10 25) r_ := g8
        replace g9 : Vw E5 0 w_11 c_11 (f_10 29) ys1 := g9
        obtain ⟨r_1, hr_1, hp⟩ := bind_some hp
        refine WR.k rfl rfl rfl (OS.callF (vs := [(f_10 25), (f_10 29)]) rfl ⟨rfl, rfl, trivial⟩ Try.call15 ((W15 K w_11 hr_1 g8.vw.forget g9.forget).mono ?_))
        rintro _ w_12 ⟨d, rfl, s1⟩
        refine ⟨_, rfl, ?_⟩
        obtain ⟨c_12, s2⟩ : ∃ c_12, St [] w_11 c_11 w_12 c_12 := ⟨_, s1.merge (fun x => x + 16)⟩
        refine WR.k rfl rfl rfl (OS.not rfl rfl ?_)
        refine WR.nil ?_
        refine WC.cond (!r_1) rfl (fun hb4 => ?_) (fun hb4 => ?_)
        · rw [if_pos hb4] at hp
          refine WC.seq (WC.region ?_)
          refine WR.k rfl rfl rfl (OS.assign (v := (.slice none 0 0)) rfl rfl ?_)
          refine WR.k rfl rfl rfl (OS.assign (v := vU64 (0 : UInt64)) rfl (by kernel_rfl) ?_)
          refine WR.k rfl rfl rfl (OS.assign (v := vI (10 : Int)) rfl rfl ?_)
          refine WR.nil ?_
          refine WC.ret ?_
          repeat first | refine thenQ_ret ?_ | refine blkQ_ret ?_
          cases hp
          exact fnQ.ls (fn := Try.f13) (rs := [.tmp 4, .tmp 5, .tmp 6]) (vs := [(.slice none 0 0), vU64 (0 : UInt64), vI (10 : Int)]) rfl ⟨(.inl ⟨_, rfl, rfl⟩), (.inl ⟨_, rfl, rfl⟩), (.inl ⟨_, rfl, rfl⟩), trivial⟩ ⟨_, _, rfl, ((s.t hs11).t s2).entry (by decide), Ow.nil⟩ (by simp)
        · rw [if_neg (nt hb4)] at hp
          refine WC.skip ?_
          refine WC.seq (WC.region ?_)
          refine WR.k rfl rfl rfl (OS.assign (v := vU64 (0 : UInt64)) rfl (by kernel_rfl) ?_)
          refine WR.nil ?_
          refine WC.seq ?_
          refine WC.seq (WC.region ?_)
          refine WR.k rfl rfl rfl (OS.assign (v := vI (0 : Int)) rfl rfl ?_)
          refine WR.nil ?_
          obtain ⟨q, hl1, hp⟩ := bind_some hp
          obtain ⟨once1, hx⟩ : ∃ z, z = q := ⟨_, rfl⟩; subst hx
          refine WC.blockJ2 (fun f_11 w_13 => f_11 1 = v_ ∧ f_11 2 = p_ ∧ f_11 7 = vI (sealed.length : Int) ∧ f_11 8 = vU64 once1 ∧ w_12 = w_13) ?_ ?_
          · refine WC.loop (fun n => fun f_12 w_14 => ∃ (once : UInt64) (i : Int), holdfastref08_Open.l1 n sealed once i = some once1 ∧ f_12 1 = v_ ∧ f_12 2 = p_ ∧ f_12 7 = vI (sealed.length : Int) ∧ f_12 8 = vU64 once ∧ f_12 9 = vI i ∧ w_12 = w_14) K ⟨_, _, hl1, h, h1, h2, rfl, rfl, rfl⟩ ?_
            rintro n f_12 _ ⟨once, i, hl1, h3, h4, h5, h6, h7, rfl⟩
            cases n with
            | zero => exact absurd hl1 (by simp [holdfastref08_Open.l1])
            | succ k =>
            rw [holdfastref08_Open.l1] at hl1
            refine WC.seq ?_
            refine WC.seq (WC.region ?_)
            refine WR.k rfl rfl rfl (OS.move (v := vI i) rfl h7 ?_)
            refine WR.k rfl rfl rfl (OS.bin (a := vI i) (b := vI (8 : Int)) rfl rfl rfl bI_lss ?_)
            refine WR.nil ?_
            refine WC.cond (decide (i < (8 : Int))) rfl (fun hb5 => ?_) (fun hb5 => ?_)
            · rw [if_pos hb5] at hl1
              refine WC.skip ?_
              refine WC.seq ?_
              refine WC.block ?_
              refine WC.region ?_
              refine WR.k rfl rfl rfl (OS.move (v := vU64 once) rfl h6 ?_)
              refine WR.k rfl rfl rfl (OS.bin (a := vU64 once) (b := vU64 (8 : UInt64)) rfl rfl (by kernel_rfl) (b64_shl (by decide)) ?_)
              refine WR.k rfl rfl rfl (OS.move (v := v_) rfl h3 ?_)
              refine WR.k rfl rfl rfl (OS.move (v := vI i) rfl h7 ?_)
              have o6 := o2.keep (hs11.t s2) (by decide)
              obtain ⟨e, he, hl1⟩ := bind_some hl1
              obtain ⟨ha2, hb6, hc2⟩ := gt_some he
              refine WR.k rfl rfl rfl (OS.idx rfl Try.runUnderlying25 Try.sizeOf5 rfl o6.isSl rfl ha2 hb6 ?_); intro p_1 a1
              refine WR.k rfl rfl rfl (OS.ld1 (u := vU8 e) rfl Try.isAgg5 rfl (o6.ld a1 hc2) ?_)
              refine WR.k rfl rfl rfl (OS.conv rfl Try.runUnderlying5 Try.runUnderlying24 rfl (cv_8_64 _) ?_)
              refine WR.k rfl rfl rfl (OS.bin (a := vU64 (shl64 once 8)) (b := vU64 e.toUInt64) rfl rfl rfl b64_or ?_)
              refine WR.k rfl rfl rfl (OS.assign (v := vU64 ((shl64 once 8) ||| e.toUInt64)) rfl rfl ?_)
              refine WR.nil ?_
              refine WC.region ?_
              refine WR.k rfl rfl rfl (OS.move (v := vI i) rfl h7 ?_)
              refine WR.k rfl rfl rfl (OS.bin (a := vI i) (b := vI (1 : Int)) rfl rfl rfl bI_add ?_)
              refine WR.k rfl rfl rfl (OS.assign (v := vI (W (i + (1 : Int)))) rfl rfl ?_)
              refine WR.nil ?_
              exact ⟨k, by omega, _, _, hl1, h3, h4, h5, rfl, rfl, rfl⟩
            · rw [if_neg (nt hb5)] at hl1
              refine WC.exit ?_
              cases hl1
              exact ⟨h3, h4, h5, h6, rfl⟩
          · rintro f_11 _ ⟨h8, h9, h10, h11, rfl⟩
            refine WC.seq (WC.region ?_)
            have o7 := o1.keep (hs11.t s2) (by decide)
            refine WR.k rfl rfl rfl (OS.ldN rfl Try.isAgg23 Try.sizeOf23 h9 o7.ldAll (by rw [fl_length, hl]; rfl) ?_)
            refine WR.k rfl rfl rfl (OS.move (v := vU64 once1) rfl h11 ?_)
            refine WR.k rfl rfl rfl (OS.move (v := vI (sealed.length : Int)) rfl h10 ?_)
            refine WR.k rfl rfl rfl (OS.bin (a := vI (sealed.length : Int)) (b := vI (24 : Int)) rfl rfl rfl bI_sub ?_)
            obtain ⟨r_2, hr_2, hp⟩ := bind_some hp
            refine WR.k rfl rfl rfl (OS.callF (vs := [.agg (fl E5 key).toArray, vU64 once1, vI (W ((sealed.length : Int) - (24 : Int)))]) rfl ⟨rfl, rfl, rfl, trivial⟩ Try.call17 ((W17 K w_12 hr_2 hl).mono ?_))
            rintro _ w_15 ⟨v_1, d1, rfl, s3, o8⟩
            refine ⟨_, rfl, ?_⟩
            obtain ⟨c_15, s4, o8⟩ : ∃ c_15, St [] w_12 c_12 w_15 c_15 ∧ Ow E5 23 w_15 c_15 v_1 r_2.1 := ⟨_, s3.merge (fun x => x + 21), o8.merge (fun x => x + 21) s3 (by decide)⟩
            refine WR.k rfl rfl rfl (OS.move (v := .tuple #[v_1, vI r_2.2]) rfl rfl ?_)
            refine WR.k rfl rfl rfl (OS.extract rfl rfl rfl ?_)
            refine WR.k rfl rfl rfl (OS.extract rfl rfl rfl ?_)
            refine WR.k rfl rfl rfl (OS.assign (v := v_1) rfl rfl ?_)
            refine WR.k rfl rfl rfl (OS.assign (v := vI r_2.2) rfl rfl ?_)
            refine WR.nil ?_
            refine WC.seq (WC.region ?_)
            refine WR.k rfl rfl rfl (OS.assign (v := (.slice none 0 0)) rfl rfl ?_)
            refine WR.nil ?_
            refine WC.seq ?_
            refine WC.seq (WC.region ?_)
            refine WR.k rfl rfl rfl (OS.assign (v := vI (0 : Int)) rfl rfl ?_)
            refine WR.nil ?_
            obtain ⟨q1, hl2, hp⟩ := bind_some hp
            obtain ⟨out1, hx⟩ : ∃ z, z = q1 := ⟨_, rfl⟩; subst hx
            refine WC.blockJ2 (fun f_13 w_16 => ∃ (v_3 : Value) (c_16 : Col), f_13 8 = vU64 once1 ∧ f_13 12 = v_3 ∧ Ow E5 25 w_16 c_16 v_3 out1 ∧ St [25] w_15 c_15 w_16 c_16) ?_ ?_
            · refine WC.loop (fun n => fun f_14 w_17 => ∃ (out : List UInt8) (i1 : Int) (v_2 : Value) (c_17 : Col), holdfastref08_Open.l2 n sealed r_2 out i1 = some out1 ∧ f_14 1 = v_ ∧ f_14 7 = vI (sealed.length : Int) ∧ f_14 8 = vU64 once1 ∧ f_14 10 = v_1 ∧ f_14 12 = v_2 ∧ Ow E5 25 w_17 c_17 v_2 out ∧ f_14 13 = vI i1 ∧ St [25] w_15 c_15 w_17 c_17) K ⟨_, _, _, _, hl2, h8, h10, h11, rfl, rfl, Ow.nil, rfl, St.refl.mono (by decide)⟩ ?_
              rintro n f_14 w_17 ⟨out, i1, v_2, c_17, hl2, h12, h13, h14, h15, h16, o9, h17, s5⟩
              cases n with
              | zero => exact absurd hl2 (by simp [holdfastref08_Open.l2])
              | succ k =>
              rw [holdfastref08_Open.l2] at hl2
              refine WC.seq ?_
              refine WC.seq (WC.region ?_)
              refine WR.k rfl rfl rfl (OS.move (v := vI i1) rfl h17 ?_)
              refine WR.k rfl rfl rfl (OS.move (v := vI (sealed.length : Int)) rfl h13 ?_)
              refine WR.k rfl rfl rfl (OS.bin (a := vI (sealed.length : Int)) (b := vI (24 : Int)) rfl rfl rfl bI_sub ?_)
              refine WR.k rfl rfl rfl (OS.bin (a := vI i1) (b := vI (W ((sealed.length : Int) - (24 : Int)))) rfl rfl rfl bI_lss ?_)
              refine WR.nil ?_
              refine WC.cond (decide (i1 < W ((sealed.length : Int) - (24 : Int)))) rfl (fun hb7 => ?_) (fun hb7 => ?_)
              · rw [if_pos hb7] at hl2
                refine WC.skip ?_
                refine WC.seq ?_
                refine WC.block ?_
                have o11 := o2.keep (((hs11.t s2).t s4).t s5) (by decide)
                obtain ⟨e1, he1, hl2⟩ := bind_some hl2
                obtain ⟨ha3, hb8, hc3⟩ := gt_some he1
                have o12 := o8.keep s5 (by decide)
                obtain ⟨e2, he2, hl2⟩ := bind_some hl2
                obtain ⟨ha4, hb9, hc4⟩ := gt_some he2
                obtain ⟨l3, hl3, hl2⟩ := bind_some hl2
                replace hl3 := (Option.some.inj hl3).symm
                refine WC.draw (c := c_17) ⟨12, [[1], [1], [1], [1], [1], [1], [1], [1], [1], [1], [1], [31]], [[], [], [], [], [], [], [], [], [], [], [], []], [], [[], [], [], [2], [1, 3], [4], [], [], [6, 7], [8], [5, 9], [10]], [0, 11]⟩ [fun v w c => v = v_2, fun v w c => v = v_, fun v w c => v = vI i1, fun v w c => v = vI (W ((8 : Int) + i1)), fun v w c => Adr v_ (W ((8 : Int) + i1)).toNat 1 v, fun v w c => v = vU8 e1, fun v w c => v = v_1, fun v w c => v = vI i1, fun v w c => Adr v_1 (i1).toNat 1 v, fun v w c => v = vU8 e2, fun v w c => v = vU8 (e1 ^^^ e2), fun v w c => Ow E5 31 w c v l3] hmix (by kernel_rfl) (by kernel_rfl) ⟨?_, ?_, ?_, ?_, ?_, ?_, ?_, ?_, ?_, ?_, ?_, ?_, trivial⟩ ⟨fun _ _ _ _ _ _ h _ _ => h, fun _ _ _ _ _ _ h _ _ => h, fun _ _ _ _ _ _ h _ _ => h, fun _ _ _ _ _ _ h _ _ => h, fun _ _ _ _ _ _ h _ _ => h, fun _ _ _ _ _ _ h _ _ => h, fun _ _ _ _ _ _ h _ _ => h, fun _ _ _ _ _ _ h _ _ => h, fun _ _ _ _ _ _ h _ _ => h, fun _ _ _ _ _ _ h _ _ => h, fun _ _ _ _ _ _ h _ _ => h, fun _ _ _ _ _ _ h s hk => Ow.keep h s (hk _ (by simp)), trivial⟩ ?_
                · rintro f_15 w_18 c_18 hB11 hs12 ⟨-⟩ o ho; obtain rfl : _ = o := Option.some.inj ho
                  exact OS.move (v := v_2) rfl ((hB11 12 (by kernel_rfl)).trans h16) ⟨_, St.refl, rfl⟩
                · rintro f_16 w_19 c_19 hB12 hs13 ⟨-⟩ o ho; obtain rfl : _ = o := Option.some.inj ho
                  exact OS.move (v := v_) rfl ((hB12 1 (by kernel_rfl)).trans h12) ⟨_, St.refl, rfl⟩
                · rintro f_17 w_20 c_20 hB13 hs14 ⟨-⟩ o ho; obtain rfl : _ = o := Option.some.inj ho
                  exact OS.move (v := vI i1) rfl ((hB13 13 (by kernel_rfl)).trans h17) ⟨_, St.refl, rfl⟩
                · rintro f_18 w_21 c_21 hB14 hs15 ⟨g10, -⟩ o ho; obtain rfl : _ = o := Option.some.inj ho
                  replace g10 : (f_18 60) = vI i1 := g10
                  exact OS.bin (a := vI (8 : Int)) (b := vI i1) rfl rfl g10 bI_add ⟨_, St.refl, rfl⟩
                · rintro f_19 w_22 c_22 hB15 hs16 ⟨g11, g12, -⟩ o ho; obtain rfl : _ = o := Option.some.inj ho
                  replace g11 : (f_19 59) = v_ := g11
                  replace g12 : (f_19 61) = vI (W ((8 : Int) + i1)) := g12
                  have o13 := o2.keep ((((hs11.t s2).t s4).t s5).t hs16) (by decide)
                  exact OS.idx rfl Try.runUnderlying25 Try.sizeOf5 g11 o13.isSl g12 ha3 hb8 (fun _ h => ⟨_, St.refl, h⟩)
                · rintro f_20 w_23 c_23 hB16 hs17 ⟨g13, -⟩ o ho; obtain rfl : _ = o := Option.some.inj ho
                  replace g13 : Adr v_ (W ((8 : Int) + i1)).toNat 1 (f_20 62) := g13
                  have o14 := o2.keep ((((hs11.t s2).t s4).t s5).t hs17) (by decide)
                  exact OS.ld1 (u := vU8 e1) rfl Try.isAgg5 rfl (o14.ld g13 hc3) ⟨_, St.refl, rfl⟩
                · rintro f_21 w_24 c_24 hB17 hs18 ⟨-⟩ o ho; obtain rfl : _ = o := Option.some.inj ho
                  exact OS.move (v := v_1) rfl ((hB17 10 (by kernel_rfl)).trans h15) ⟨_, St.refl, rfl⟩
                · rintro f_22 w_25 c_25 hB18 hs19 ⟨-⟩ o ho; obtain rfl : _ = o := Option.some.inj ho
                  exact OS.move (v := vI i1) rfl ((hB18 13 (by kernel_rfl)).trans h17) ⟨_, St.refl, rfl⟩
                · rintro f_23 w_26 c_26 hB19 hs20 ⟨g14, g15, -⟩ o ho; obtain rfl : _ = o := Option.some.inj ho
                  replace g14 : (f_23 64) = v_1 := g14
                  replace g15 : (f_23 65) = vI i1 := g15
                  have o15 := o8.keep (s5.t hs20) (by decide)
                  exact OS.idx rfl Try.runUnderlying25 Try.sizeOf5 g14 o15.isSl g15 ha4 hb9 (fun _ h => ⟨_, St.refl, h⟩)
                · rintro f_24 w_27 c_27 hB20 hs21 ⟨g16, -⟩ o ho; obtain rfl : _ = o := Option.some.inj ho
                  replace g16 : Adr v_1 (i1).toNat 1 (f_24 66) := g16
                  have o16 := o8.keep (s5.t hs21) (by decide)
                  exact OS.ld1 (u := vU8 e2) rfl Try.isAgg5 rfl (o16.ld g16 hc4) ⟨_, St.refl, rfl⟩
                · rintro f_25 w_28 c_28 hB21 hs22 ⟨g17, g18, -⟩ o ho; obtain rfl : _ = o := Option.some.inj ho
                  replace g17 : (f_25 63) = vU8 e1 := g17
                  replace g18 : (f_25 67) = vU8 e2 := g18
                  exact OS.bin (a := vU8 e1) (b := vU8 e2) rfl g17 g18 b8_xor ⟨_, St.refl, rfl⟩
                · rintro f_26 w_29 c_29 hB22 hs23 ⟨g19, -⟩ o ho; obtain rfl : _ = o := Option.some.inj ho
                  replace g19 : (f_26 68) = vU8 (e1 ^^^ e2) := g19
                  refine OS.bslice (E := E5) (c := c_29) 31 ([e1 ^^^ e2] : List UInt8) [(0, vU8 (e1 ^^^ e2))] rfl ⟨rfl, g19, trivial⟩ (fun _ => by kernel_rfl) rfl (by decide) ?_
                  intro v w c h s
                  exact ⟨c, s, (show Ow E5 31 w c v l3 by rw [hl3]; exact h)⟩
                · rintro f_27 w_30 c_30 hB23 hs24 ⟨g20, g21, -⟩
                  have h18 := (hB23 1 (by kernel_rfl)).trans h12
                  have h19 := (hB23 7 (by kernel_rfl)).trans h13
                  have h20 := (hB23 8 (by kernel_rfl)).trans h14
                  have h21 := (hB23 10 (by kernel_rfl)).trans h15
                  have h22 := (hB23 13 (by kernel_rfl)).trans h17
                  replace g20 : (f_27 58) = v_2 := g20
                  replace g21 : Ow E5 31 w_30 c_30 (f_27 69) l3 := g21
                  have o17 := o9.keep hs24 (by decide)
                  obtain ⟨out2, hout2, hl2⟩ := bind_some hl2
                  obtain ⟨ha5, hout2⟩ := app_some hout2
                  refine WR.k rfl rfl rfl (OS.append (E := E5) (c := c_30) (i := 25) (xs := out) (ys := l3) rfl Try.underlying25 Try.underlying25 (.inl rfl) I5 rfl rfl rfl g20 rfl o17 g21.vw.src (lim_bytes (by decide) ha5) (lim_max (b := 1) (by decide) ha5) ?_); intro v_4 w_31 c_31 o18 s6
                  replace o18 : Ow E5 25 w_31 c_31 v_4 out2 := by rw [hout2]; exact o18
                  refine WR.k rfl rfl rfl (OS.assign (v := v_4) rfl rfl ?_)
                  refine WR.nil ?_
                  refine WC.region ?_
                  refine WR.k rfl rfl rfl (OS.move (v := vI i1) rfl h22 ?_)
                  refine WR.k rfl rfl rfl (OS.bin (a := vI i1) (b := vI (1 : Int)) rfl rfl rfl bI_add ?_)
                  refine WR.k rfl rfl rfl (OS.assign (v := vI (W (i1 + (1 : Int)))) rfl rfl ?_)
                  refine WR.nil ?_
                  exact ⟨k, by omega, _, _, _, _, hl2, h18, h19, h20, h21, rfl, o18, rfl, ((s5.t hs24).t s6).mono (by decide)⟩
              · rw [if_neg (nt hb7)] at hl2
                refine WC.exit ?_
                cases hl2
                exact ⟨_, _, h14, h16, o9, s5.mono (by decide)⟩
            · rintro f_13 w_16 ⟨v_3, c_16, h23, h24, o10, s7⟩
              refine WC.seq (WC.region ?_)
              refine WR.k rfl rfl rfl (OS.move (v := v_3) rfl h24 ?_)
              refine WR.k rfl rfl rfl (OS.move (v := vU64 once1) rfl h23 ?_)
              refine WR.k rfl rfl rfl (OS.assign (v := v_3) rfl rfl ?_)
              refine WR.k rfl rfl rfl (OS.assign (v := vU64 once1) rfl rfl ?_)
              refine WR.k rfl rfl rfl (OS.assign (v := vI (0 : Int)) rfl rfl ?_)
              refine WR.nil ?_
              refine WC.ret ?_
              repeat first | refine thenQ_ret ?_ | refine blkQ_ret ?_
              cases hp
              obtain ⟨c_32, s8, o19⟩ := o10.recol 2
              exact fnQ.ls (fn := Try.f13) (rs := [.tmp 4, .tmp 5, .tmp 6]) (vs := [v_3, vU64 once1, vI (0 : Int)]) rfl ⟨(.inl ⟨_, rfl, rfl⟩), (.inl ⟨_, rfl, rfl⟩), (.inl ⟨_, rfl, rfl⟩), trivial⟩ ⟨_, _, rfl, (((((s.t hs11).t s2).t s4).t s7).t s8).entry (by decide), o19⟩ (by simp)
end Go.Proofs.Ytbbenllkjpomdaa
