import Derived.Test.YtbbenllkjpomdaaWalks2
namespace Go.Proofs.Ytbbenllkjpomdaa
open Go Go.Proofs L

-- holdfast/holdfastlaw08.live
set_option maxHeartbeats 4000000 in
theorem W14 (K : Nat) (w0 : World) {r : Bool} (hp : holdfastlaw08_live K = some r) :
    Calls Try.prog 14 [].toArray w0 fun e w1 => ∃ (d : Col), e = .returned (vB r) ∧ St [] w0 c0 w1 d := by
  refine calls_intro Try.func14 rfl Try.ntmps14 rfl ?_
  unfold holdfastlaw08_live at hp
  refine WC.seq (WC.region ?_)
  refine WR.k rfl rfl rfl (OS.assign (v := vB false) rfl rfl ?_)
  refine WR.nil ?_
  refine WC.seq (WC.region ?_)
  obtain ⟨l1, hl1, hp⟩ := bind_some hp
  replace hl1 := (Option.some.inj hl1).symm
  have hl : l1.length = 32 := by rw [hl1]; rfl
  refine WR.k rfl rfl rfl (OS.build (v := .agg (fl E5 l1).toArray) [(0, vU8 (1 : UInt8))] rfl ⟨rfl, (by kernel_rfl), trivial⟩ (fun _ => by rw [hl1]; kernel_rfl) ?_)
  obtain ⟨l2, hl2, hp⟩ := bind_some hp
  replace hl2 := (Option.some.inj hl2).symm
  refine WR.k rfl rfl rfl (OS.bslice (E := E5) (c := c0) 12 ([(97 : UInt8), (98 : UInt8)] : List UInt8) [(0, vU8 (97 : UInt8)), (1, vU8 (98 : UInt8))] rfl ⟨rfl, (by kernel_rfl), rfl, (by kernel_rfl), trivial⟩ (fun _ => by kernel_rfl) rfl (by decide) ?_); intro v_ w_ c_ o s
  replace o : Ow E5 12 w_ c_ v_ l2 := by rw [hl2]; exact o
  refine WR.k rfl rfl rfl (OS.convSame rfl Try.underlying25 Try.underlying5 rfl o (by rw [hl2]; simp) ?_); intro w_1 o1 s1
  obtain ⟨r_, hr_, hp⟩ := bind_some hp
  refine WR.k rfl rfl rfl (OS.callF (vs := [.agg (fl E5 l1).toArray, vU64 (7 : UInt64), v_]) rfl ⟨rfl, (by kernel_rfl), rfl, trivial⟩ Try.call10 ((W10 K w_1 hr_ hl o1.forget).mono ?_))
  rintro _ w_2 ⟨v_1, d, rfl, s2, o2⟩
  refine ⟨_, rfl, ?_⟩
  obtain ⟨c_1, s3, o2⟩ : ∃ c_1, St [] w_1 c_ w_2 c_1 ∧ Ow E5 14 w_2 c_1 v_1 r_.1 := ⟨_, s2.merge (fun x => x + 12), o2.merge (fun x => x + 12) s2 (by decide)⟩
  refine WR.k rfl rfl rfl (OS.move (v := .tuple #[v_1, vI r_.2]) rfl rfl ?_)
  refine WR.k rfl rfl rfl (OS.extract rfl rfl rfl ?_)
  refine WR.k rfl rfl rfl (OS.extract rfl rfl rfl ?_)
  refine WR.k rfl rfl rfl (OS.assign (v := v_1) rfl rfl ?_)
  refine WR.k rfl rfl rfl (OS.assign (v := vI r_.2) rfl rfl ?_)
  refine WR.nil ?_
  refine WC.seq (WC.region ?_)
  obtain ⟨l3, hl3, hp⟩ := bind_some hp
  replace hl3 := (Option.some.inj hl3).symm
  have hl4 : l3.length = 32 := by rw [hl3]; rfl
  refine WR.k rfl rfl rfl (OS.build (v := .agg (fl E5 l3).toArray) [(0, vU8 (1 : UInt8))] rfl ⟨rfl, (by kernel_rfl), trivial⟩ (fun _ => by rw [hl3]; kernel_rfl) ?_)
  refine WR.k rfl rfl rfl (OS.move (v := v_1) rfl rfl ?_)
  obtain ⟨r_1, hr_1, hp⟩ := bind_some hp
  refine WR.k rfl rfl rfl (OS.callF (vs := [.agg (fl E5 l3).toArray, v_1]) rfl ⟨rfl, rfl, trivial⟩ Try.call12 ((W12 K w_2 hr_1 hl4 o2.vw.forget).mono ?_))
  rintro _ w_3 ⟨v_2, d1, rfl, s4, o3⟩
  refine ⟨_, rfl, ?_⟩
  obtain ⟨c_2, s5, o3⟩ : ∃ c_2, St [] w_2 c_1 w_3 c_2 ∧ Ow E5 17 w_3 c_2 v_2 r_1.1 := ⟨_, s4.merge (fun x => x + 15), o3.merge (fun x => x + 15) s4 (by decide)⟩
  refine WR.k rfl rfl rfl (OS.move (v := .tuple #[v_2, vU64 r_1.2.1, vI r_1.2.2]) rfl rfl ?_)
  refine WR.k rfl rfl rfl (OS.extract rfl rfl rfl ?_)
  refine WR.k rfl rfl rfl (OS.extract rfl rfl rfl ?_)
  refine WR.k rfl rfl rfl (OS.extract rfl rfl rfl ?_)
  refine WR.k rfl rfl rfl (OS.assign (v := v_2) rfl rfl ?_)
  refine WR.k rfl rfl rfl (OS.assign (v := vU64 r_1.2.1) rfl rfl ?_)
  refine WR.k rfl rfl rfl (OS.assign (v := vI r_1.2.2) rfl rfl ?_)
  refine WR.nil ?_
  refine WC.seq (WC.region ?_)
  obtain ⟨l5, hl5, hp⟩ := bind_some hp
  replace hl5 := (Option.some.inj hl5).symm
  have hl6 : l5.length = 32 := by rw [hl5]; rfl
  refine WR.k rfl rfl rfl (OS.build (v := .agg (fl E5 l5).toArray) [(0, vU8 (2 : UInt8))] rfl ⟨rfl, (by kernel_rfl), trivial⟩ (fun _ => by rw [hl5]; kernel_rfl) ?_)
  refine WR.k rfl rfl rfl (OS.move (v := v_1) rfl rfl ?_)
  have o4 := o2.keep s5 (by decide)
  obtain ⟨r_2, hr_2, hp⟩ := bind_some hp
  refine WR.k rfl rfl rfl (OS.callF (vs := [.agg (fl E5 l5).toArray, v_1]) rfl ⟨rfl, rfl, trivial⟩ Try.call12 ((W12 K w_3 hr_2 hl6 o4.vw.forget).mono ?_))
  rintro _ w_4 ⟨v_3, d2, rfl, s6, o5⟩
  refine ⟨_, rfl, ?_⟩
  obtain ⟨c_3, s7, o5⟩ : ∃ c_3, St [] w_3 c_2 w_4 c_3 ∧ Ow E5 20 w_4 c_3 v_3 r_2.1 := ⟨_, s6.merge (fun x => x + 18), o5.merge (fun x => x + 18) s6 (by decide)⟩
  refine WR.k rfl rfl rfl (OS.move (v := .tuple #[v_3, vU64 r_2.2.1, vI r_2.2.2]) rfl rfl ?_)
  refine WR.k rfl rfl rfl (OS.extract rfl rfl rfl ?_)
  refine WR.k rfl rfl rfl (OS.extract rfl rfl rfl ?_)
  refine WR.k rfl rfl rfl (OS.extract rfl rfl rfl ?_)
  refine WR.k rfl rfl rfl (OS.assign (v := v_3) rfl rfl ?_)
  refine WR.k rfl rfl rfl (OS.assign (v := vU64 r_2.2.1) rfl rfl ?_)
  refine WR.k rfl rfl rfl (OS.assign (v := vI r_2.2.2) rfl rfl ?_)
  refine WR.nil ?_
  refine WC.seq (WC.region ?_)
  refine WR.k rfl rfl rfl (OS.move (v := vI r_.2) rfl rfl ?_)
  refine WR.k rfl rfl rfl (OS.bin (a := vI r_.2) (b := vI (0 : Int)) rfl rfl rfl bI_eql ?_)
  refine WR.k rfl rfl rfl (OS.move (v := vB (decide (r_.2 = (0 : Int)))) rfl rfl ?_)
  refine WR.cut2 4 (fun f_ w_5 => f_ 3 = v_2 ∧ f_ 4 = vU64 r_1.2.1 ∧ f_ 5 = vI r_1.2.2 ∧ f_ 8 = vI r_2.2.2 ∧ f_ 36 = vB ((decide (r_.2 = (0 : Int))) && (decide ((r_.1.length : Int) = (26 : Int)))) ∧ w_4 = w_5) ?_ ?_
  · rcases Bool.eq_false_or_eq_true (decide (r_.2 = (0 : Int))) with hg | hg
    · refine WR.kT rfl rfl (vb_t rfl hg) rfl rfl (OS.move (v := v_1) rfl rfl ?_)
      have o6 := o4.keep s7 (by decide)
      refine WR.kT rfl rfl (vb_t rfl hg) rfl rfl (OS.lenSl rfl Try.runUnderlying25 rfl o6.isSl ?_)
      refine WR.kT rfl rfl (vb_t rfl hg) rfl rfl (OS.bin (a := vI (r_.1.length : Int)) (b := vI (26 : Int)) rfl rfl rfl bI_eql ?_)
      refine WR.k rfl rfl rfl (OS.pickT rfl (vb_t rfl hg) rfl ?_)
      refine WR.nil ?_
      exact ⟨rfl, rfl, rfl, rfl, (and_t hg), rfl⟩
    · refine WR.gF rfl rfl (vb_f rfl hg) rfl rfl ?_
      refine WR.gF rfl rfl (vb_f rfl hg) rfl rfl ?_
      refine WR.gF rfl rfl (vb_f rfl hg) rfl rfl ?_
      refine WR.k rfl rfl rfl (OS.pickF rfl (vb_f rfl hg) rfl ?_)
      refine WR.nil ?_
      exact ⟨rfl, rfl, rfl, rfl, (and_f hg), rfl⟩
  · rintro f_ _ ⟨h, h1, h2, h3, h4, rfl⟩
    refine WR.k rfl rfl rfl (OS.move (v := vB ((decide (r_.2 = (0 : Int))) && (decide ((r_.1.length : Int) = (26 : Int))))) rfl h4 ?_)
    obtain ⟨b, ht, hp⟩ := bind_some hp
    refine WR.cut2 3 (fun f_1 w_6 => ∃ (c_5 : Col), f_1 3 = v_2 ∧ f_1 4 = vU64 r_1.2.1 ∧ f_1 5 = vI r_1.2.2 ∧ f_1 8 = vI r_2.2.2 ∧ f_1 40 = vB b ∧ St [] w_4 c_3 w_6 c_5) ?_ ?_
    · rcases Bool.eq_false_or_eq_true ((decide (r_.2 = (0 : Int))) && (decide ((r_.1.length : Int) = (26 : Int)))) with hg1 | hg1
      · rw [if_pos hg1] at ht
        obtain ⟨r_3, hr_3, ht⟩ := bind_some ht
        refine WR.kT rfl rfl (vb_t rfl hg1) rfl rfl (OS.callF (vs := [vI (2 : Int)]) rfl ⟨rfl, trivial⟩ Try.call18 ((W18 K w_4 hr_3).mono ?_))
        rintro _ w_7 ⟨d3, rfl, s8⟩
        refine ⟨_, rfl, ?_⟩
        obtain ⟨c_6, s9⟩ : ∃ c_6, St [] w_4 c_3 w_7 c_6 := ⟨_, s8.merge (fun x => x + 23)⟩
        refine WR.kT rfl rfl (vb_t rfl hg1) rfl rfl (OS.bin (a := vI r_3) (b := vI (26 : Int)) rfl rfl rfl bI_eql ?_)
        refine WR.k rfl rfl rfl (OS.pickT rfl (vb_t rfl hg1) rfl ?_)
        cases ht
        refine WR.nil ?_
        exact ⟨_, h, h1, h2, h3, rfl, s9.mono (by decide)⟩
      · rw [if_neg (nt hg1)] at ht
        refine WR.gF rfl rfl (vb_f rfl hg1) rfl rfl ?_
        refine WR.gF rfl rfl (vb_f rfl hg1) rfl rfl ?_
        refine WR.k rfl rfl rfl (OS.pickF rfl (vb_f rfl hg1) rfl ?_)
        cases ht
        refine WR.nil ?_
        exact ⟨_, h, h1, h2, h3, rfl, St.refl.mono (by decide)⟩
    · rintro f_1 w_6 ⟨c_5, h5, h6, h7, h8, h9, s10⟩
      refine WR.k rfl rfl rfl (OS.move (v := vB b) rfl h9 ?_)
      refine WR.cut2 3 (fun f_2 w_8 => f_2 3 = v_2 ∧ f_2 4 = vU64 r_1.2.1 ∧ f_2 8 = vI r_2.2.2 ∧ f_2 44 = vB (b && (decide (r_1.2.2 = (0 : Int)))) ∧ w_6 = w_8) ?_ ?_
      · rcases Bool.eq_false_or_eq_true (b) with hg2 | hg2
        · refine WR.kT rfl rfl (vb_t rfl hg2) rfl rfl (OS.move (v := vI r_1.2.2) rfl h7 ?_)
          refine WR.kT rfl rfl (vb_t rfl hg2) rfl rfl (OS.bin (a := vI r_1.2.2) (b := vI (0 : Int)) rfl rfl rfl bI_eql ?_)
          refine WR.k rfl rfl rfl (OS.pickT rfl (vb_t rfl hg2) rfl ?_)
          refine WR.nil ?_
          exact ⟨h5, h6, h8, (and_t hg2), rfl⟩
        · refine WR.gF rfl rfl (vb_f rfl hg2) rfl rfl ?_
          refine WR.gF rfl rfl (vb_f rfl hg2) rfl rfl ?_
          refine WR.k rfl rfl rfl (OS.pickF rfl (vb_f rfl hg2) rfl ?_)
          refine WR.nil ?_
          exact ⟨h5, h6, h8, (and_f hg2), rfl⟩
      · rintro f_2 _ ⟨h10, h11, h12, h13, rfl⟩
        refine WR.k rfl rfl rfl (OS.move (v := vB (b && (decide (r_1.2.2 = (0 : Int))))) rfl h13 ?_)
        refine WR.cut2 3 (fun f_3 w_9 => f_3 3 = v_2 ∧ f_3 8 = vI r_2.2.2 ∧ f_3 48 = vB ((b && (decide (r_1.2.2 = (0 : Int)))) && (decide (r_1.2.1 = (7 : UInt64)))) ∧ w_6 = w_9) ?_ ?_
        · rcases Bool.eq_false_or_eq_true (b && (decide (r_1.2.2 = (0 : Int)))) with hg3 | hg3
          · refine WR.kT rfl rfl (vb_t rfl hg3) rfl rfl (OS.move (v := vU64 r_1.2.1) rfl h11 ?_)
            refine WR.kT rfl rfl (vb_t rfl hg3) rfl rfl (OS.bin (a := vU64 r_1.2.1) (b := vU64 (7 : UInt64)) rfl rfl (by kernel_rfl) b64_eql ?_)
            refine WR.k rfl rfl rfl (OS.pickT rfl (vb_t rfl hg3) rfl ?_)
            refine WR.nil ?_
            exact ⟨h10, h12, (and_t hg3), rfl⟩
          · refine WR.gF rfl rfl (vb_f rfl hg3) rfl rfl ?_
            refine WR.gF rfl rfl (vb_f rfl hg3) rfl rfl ?_
            refine WR.k rfl rfl rfl (OS.pickF rfl (vb_f rfl hg3) rfl ?_)
            refine WR.nil ?_
            exact ⟨h10, h12, (and_f hg3), rfl⟩
        · rintro f_3 _ ⟨h14, h15, h16, rfl⟩
          refine WR.k rfl rfl rfl (OS.move (v := vB ((b && (decide (r_1.2.2 = (0 : Int)))) && (decide (r_1.2.1 = (7 : UInt64))))) rfl h16 ?_)
          refine WR.cut2 4 (fun f_4 w_10 => f_4 8 = vI r_2.2.2 ∧ f_4 53 = vB (((b && (decide (r_1.2.2 = (0 : Int)))) && (decide (r_1.2.1 = (7 : UInt64)))) && (decide (r_1.1 = ([97, 98] : List UInt8)))) ∧ w_6 = w_10) ?_ ?_
          · rcases Bool.eq_false_or_eq_true ((b && (decide (r_1.2.2 = (0 : Int)))) && (decide (r_1.2.1 = (7 : UInt64)))) with hg4 | hg4
            · refine WR.kT rfl rfl (vb_t rfl hg4) rfl rfl (OS.move (v := v_2) rfl h14 ?_)
              have o7 := o3.keep (s7.t s10) (by decide)
              refine WR.kT rfl rfl (vb_t rfl hg4) rfl rfl (OS.bytesToStr rfl Try.underlying25 Try.underlying5 Try.underlying9 rfl o7.vw ?_)
              refine WR.kT rfl rfl (vb_t rfl hg4) rfl rfl (OS.bin (a := vS r_1.1) (b := vS ([97, 98] : List UInt8)) rfl rfl rfl bS_eql ?_)
              refine WR.k rfl rfl rfl (OS.pickT rfl (vb_t rfl hg4) rfl ?_)
              refine WR.nil ?_
              exact ⟨h15, (and_t hg4), rfl⟩
            · refine WR.gF rfl rfl (vb_f rfl hg4) rfl rfl ?_
              refine WR.gF rfl rfl (vb_f rfl hg4) rfl rfl ?_
              refine WR.gF rfl rfl (vb_f rfl hg4) rfl rfl ?_
              refine WR.k rfl rfl rfl (OS.pickF rfl (vb_f rfl hg4) rfl ?_)
              refine WR.nil ?_
              exact ⟨h15, (and_f hg4), rfl⟩
          · rintro f_4 _ ⟨h17, h18, rfl⟩
            refine WR.k rfl rfl rfl (OS.move (v := vB (((b && (decide (r_1.2.2 = (0 : Int)))) && (decide (r_1.2.1 = (7 : UInt64)))) && (decide (r_1.1 = ([97, 98] : List UInt8))))) rfl h18 ?_)
            refine WR.cut2 3 (fun f_5 w_11 => f_5 57 = vB ((((b && (decide (r_1.2.2 = (0 : Int)))) && (decide (r_1.2.1 = (7 : UInt64)))) && (decide (r_1.1 = ([97, 98] : List UInt8)))) && (decide (r_2.2.2 = (10 : Int)))) ∧ w_6 = w_11) ?_ ?_
            · rcases Bool.eq_false_or_eq_true (((b && (decide (r_1.2.2 = (0 : Int)))) && (decide (r_1.2.1 = (7 : UInt64)))) && (decide (r_1.1 = ([97, 98] : List UInt8)))) with hg5 | hg5
              · refine WR.kT rfl rfl (vb_t rfl hg5) rfl rfl (OS.move (v := vI r_2.2.2) rfl h17 ?_)
                refine WR.kT rfl rfl (vb_t rfl hg5) rfl rfl (OS.bin (a := vI r_2.2.2) (b := vI (10 : Int)) rfl rfl rfl bI_eql ?_)
                refine WR.k rfl rfl rfl (OS.pickT rfl (vb_t rfl hg5) rfl ?_)
                refine WR.nil ?_
                exact ⟨(and_t hg5), rfl⟩
              · refine WR.gF rfl rfl (vb_f rfl hg5) rfl rfl ?_
                refine WR.gF rfl rfl (vb_f rfl hg5) rfl rfl ?_
                refine WR.k rfl rfl rfl (OS.pickF rfl (vb_f rfl hg5) rfl ?_)
                refine WR.nil ?_
                exact ⟨(and_f hg5), rfl⟩
            · rintro f_5 _ ⟨h19, rfl⟩
              refine WR.k rfl rfl rfl (OS.assign (v := vB ((((b && (decide (r_1.2.2 = (0 : Int)))) && (decide (r_1.2.1 = (7 : UInt64)))) && (decide (r_1.1 = ([97, 98] : List UInt8)))) && (decide (r_2.2.2 = (10 : Int))))) rfl h19 ?_)
              refine WR.nil ?_
              refine WC.ret ?_
              repeat first | refine thenQ_ret ?_ | refine blkQ_ret ?_
              cases hp
              exact fnQ.l1 (fn := Try.f14) rfl (.inl ⟨_, rfl, rfl⟩) ⟨_, rfl, (((((s.t s1).t s3).t s5).t s7).t s10).entry (by decide)⟩

-- holdfast/holdfastlaw08.SealSeals
set_option maxHeartbeats 4000000 in
theorem W3 (K : Nat) (w0 : World) {key : List UInt8} {once : UInt64} {l1_0 : List UInt8} {l1_1 : List UInt8} {r : Bool} (hp : holdfastlaw08_SealSeals K key once l1_0 l1_1 = some r) (hl : key.length = 32) {v_ : Value} (o : Vw E5 0 w0 c0 v_ l1_0) {v_1 : Value} (o1 : Vw E5 0 w0 c0 v_1 l1_1) :
    Calls Try.prog 3 [.agg (fl E5 key).toArray, vU64 once, .agg ([v_, v_1]).toArray].toArray w0 fun e w1 => ∃ (d : Col), e = .returned (vB r) ∧ St [] w0 c0 w1 d := by
  refine calls_intro Try.func3 rfl Try.ntmps3 rfl ?_
  unfold holdfastlaw08_SealSeals at hp
  refine WC.seq (WC.region ?_)
  refine WR.k rfl rfl rfl (OS.boxArr (E := E5) (c := c0) 12 rfl rfl ?_); intro p_ w_ c_ o2 s
  refine WR.k rfl rfl rfl (OS.boxBx (us := [v_, v_1]) (c := c_) 13 rfl rfl rfl ?_); intro p_1 w_1 c_1 o3 s1
  refine WR.k rfl rfl rfl (OS.assign (v := vB false) rfl rfl ?_)
  refine WR.nil ?_
  refine WC.seq (WC.region ?_)
  have o4 := o2.keep s1 (by decide)
  refine WR.k rfl rfl rfl (OS.ldN rfl Try.isAgg23 Try.sizeOf23 rfl o4.ldAll (by rw [fl_length, hl]; rfl) ?_)
  refine WR.k rfl rfl rfl (OS.move (v := vU64 once) rfl rfl ?_)
  refine WR.k rfl rfl rfl (OS.idxBx rfl Try.runUnderlying26 Try.sizeOf25 rfl o3 rfl (by decide) (by decide) ?_); intro p_2 a1
  refine WR.k rfl rfl rfl (OS.ld1 (u := v_) rfl Try.isAgg25 rfl (o3.ldk a1 rfl) ?_)
  have o5 := o.keep (s.t s1) (by decide)
  obtain ⟨r_, hr_, hp⟩ := bind_some hp
  refine WR.k rfl rfl rfl (OS.callF (vs := [.agg (fl E5 key).toArray, vU64 once, v_]) rfl ⟨rfl, rfl, rfl, trivial⟩ Try.call10 ((W10 K w_1 hr_ hl o5.forget).mono ?_))
  rintro _ w_2 ⟨v_2, d, rfl, s2, o6⟩
  refine ⟨_, rfl, ?_⟩
  obtain ⟨c_2, s3, o6⟩ : ∃ c_2, St [] w_1 c_1 w_2 c_2 ∧ Ow E5 15 w_2 c_2 v_2 r_.1 := ⟨_, s2.merge (fun x => x + 13), o6.merge (fun x => x + 13) s2 (by decide)⟩
  refine WR.k rfl rfl rfl (OS.move (v := .tuple #[v_2, vI r_.2]) rfl rfl ?_)
  refine WR.k rfl rfl rfl (OS.extract rfl rfl rfl ?_)
  refine WR.k rfl rfl rfl (OS.extract rfl rfl rfl ?_)
  refine WR.k rfl rfl rfl (OS.assign (v := v_2) rfl rfl ?_)
  refine WR.k rfl rfl rfl (OS.assign (v := vI r_.2) rfl rfl ?_)
  refine WR.nil ?_
  refine WC.seq (WC.region ?_)
  have o7 := o4.keep s3 (by decide)
  refine WR.k rfl rfl rfl (OS.ldN rfl Try.isAgg23 Try.sizeOf23 rfl o7.ldAll (by rw [fl_length, hl]; rfl) ?_)
  refine WR.k rfl rfl rfl (OS.move (v := vU64 once) rfl rfl ?_)
  have o8 := o3.keep s3 (by decide)
  refine WR.k rfl rfl rfl (OS.idxBx rfl Try.runUnderlying26 Try.sizeOf25 rfl o8 rfl (by decide) (by decide) ?_); intro p_3 a2
  refine WR.k rfl rfl rfl (OS.ld1 (u := v_) rfl Try.isAgg25 rfl (o8.ldk a2 rfl) ?_)
  have o9 := o5.keep s3 (by decide)
  obtain ⟨r_1, hr_1, hp⟩ := bind_some hp
  refine WR.k rfl rfl rfl (OS.callF (vs := [.agg (fl E5 key).toArray, vU64 once, v_]) rfl ⟨rfl, rfl, rfl, trivial⟩ Try.call11 ((W11 K w_2 hr_1 hl o9.forget).mono ?_))
  rintro _ w_3 ⟨v_3, d1, rfl, s4, o10⟩
  refine ⟨_, rfl, ?_⟩
  obtain ⟨c_3, s5, o10⟩ : ∃ c_3, St [] w_2 c_2 w_3 c_3 ∧ Ow E5 18 w_3 c_3 v_3 r_1.1 := ⟨_, s4.merge (fun x => x + 16), o10.merge (fun x => x + 16) s4 (by decide)⟩
  refine WR.k rfl rfl rfl (OS.move (v := .tuple #[v_3, vI r_1.2]) rfl rfl ?_)
  refine WR.k rfl rfl rfl (OS.extract rfl rfl rfl ?_)
  refine WR.k rfl rfl rfl (OS.extract rfl rfl rfl ?_)
  refine WR.k rfl rfl rfl (OS.assign (v := v_3) rfl rfl ?_)
  refine WR.k rfl rfl rfl (OS.assign (v := vI r_1.2) rfl rfl ?_)
  refine WR.nil ?_
  refine WC.seq (WC.region ?_)
  have o11 := o7.keep s5 (by decide)
  refine WR.k rfl rfl rfl (OS.ldN rfl Try.isAgg23 Try.sizeOf23 rfl o11.ldAll (by rw [fl_length, hl]; rfl) ?_)
  have o12 := o8.keep s5 (by decide)
  refine WR.k rfl rfl rfl (OS.idxBx rfl Try.runUnderlying26 Try.sizeOf25 rfl o12 rfl (by decide) (by decide) ?_); intro p_4 a3
  refine WR.k rfl rfl rfl (OS.ld1 (u := v_1) rfl Try.isAgg25 rfl (o12.ldk a3 rfl) ?_)
  have o13 := o1.keep (((s.t s1).t s3).t s5) (by decide)
  obtain ⟨r_2, hr_2, hp⟩ := bind_some hp
  refine WR.k rfl rfl rfl (OS.callF (vs := [.agg (fl E5 key).toArray, v_1]) rfl ⟨rfl, rfl, trivial⟩ Try.call12 ((W12 K w_3 hr_2 hl o13.forget).mono ?_))
  rintro _ w_4 ⟨v_4, d2, rfl, s6, o14⟩
  refine ⟨_, rfl, ?_⟩
  obtain ⟨c_4, s7, o14⟩ : ∃ c_4, St [] w_3 c_3 w_4 c_4 ∧ Ow E5 21 w_4 c_4 v_4 r_2.1 := ⟨_, s6.merge (fun x => x + 19), o14.merge (fun x => x + 19) s6 (by decide)⟩
  refine WR.k rfl rfl rfl (OS.move (v := .tuple #[v_4, vU64 r_2.2.1, vI r_2.2.2]) rfl rfl ?_)
  refine WR.k rfl rfl rfl (OS.extract rfl rfl rfl ?_)
  refine WR.k rfl rfl rfl (OS.extract rfl rfl rfl ?_)
  refine WR.k rfl rfl rfl (OS.extract rfl rfl rfl ?_)
  refine WR.k rfl rfl rfl (OS.assign (v := v_4) rfl rfl ?_)
  refine WR.k rfl rfl rfl (OS.assign (v := vU64 r_2.2.1) rfl rfl ?_)
  refine WR.k rfl rfl rfl (OS.assign (v := vI r_2.2.2) rfl rfl ?_)
  refine WR.nil ?_
  refine WC.seq (WC.region ?_)
  have o15 := o11.keep s7 (by decide)
  refine WR.k rfl rfl rfl (OS.ldN rfl Try.isAgg23 Try.sizeOf23 rfl o15.ldAll (by rw [fl_length, hl]; rfl) ?_)
  have o16 := o12.keep s7 (by decide)
  refine WR.k rfl rfl rfl (OS.idxBx rfl Try.runUnderlying26 Try.sizeOf25 rfl o16 rfl (by decide) (by decide) ?_); intro p_5 a4
  refine WR.k rfl rfl rfl (OS.ld1 (u := v_1) rfl Try.isAgg25 rfl (o16.ldk a4 rfl) ?_)
  have o17 := o13.keep s7 (by decide)
  obtain ⟨r_3, hr_3, hp⟩ := bind_some hp
  refine WR.k rfl rfl rfl (OS.callF (vs := [.agg (fl E5 key).toArray, v_1]) rfl ⟨rfl, rfl, trivial⟩ Try.call13 ((W13 K w_4 hr_3 hl o17.forget).mono ?_))
  rintro _ w_5 ⟨v_5, d3, rfl, s8, o18⟩
  refine ⟨_, rfl, ?_⟩
  obtain ⟨c_5, s9, o18⟩ : ∃ c_5, St [] w_4 c_4 w_5 c_5 ∧ Ow E5 24 w_5 c_5 v_5 r_3.1 := ⟨_, s8.merge (fun x => x + 22), o18.merge (fun x => x + 22) s8 (by decide)⟩
  refine WR.k rfl rfl rfl (OS.move (v := .tuple #[v_5, vU64 r_3.2.1, vI r_3.2.2]) rfl rfl ?_)
  refine WR.k rfl rfl rfl (OS.extract rfl rfl rfl ?_)
  refine WR.k rfl rfl rfl (OS.extract rfl rfl rfl ?_)
  refine WR.k rfl rfl rfl (OS.extract rfl rfl rfl ?_)
  refine WR.k rfl rfl rfl (OS.assign (v := v_5) rfl rfl ?_)
  refine WR.k rfl rfl rfl (OS.assign (v := vU64 r_3.2.1) rfl rfl ?_)
  refine WR.k rfl rfl rfl (OS.assign (v := vI r_3.2.2) rfl rfl ?_)
  refine WR.nil ?_
  refine WC.seq (WC.region ?_)
  obtain ⟨r_4, hr_4, hp⟩ := bind_some hp
  refine WR.k rfl rfl rfl (OS.callF (vs := []) rfl trivial Try.call14 ((W14 K w_5 hr_4).mono ?_))
  rintro _ w_6 ⟨d4, rfl, s10⟩
  refine ⟨_, rfl, ?_⟩
  obtain ⟨c_6, s11⟩ : ∃ c_6, St [] w_5 c_5 w_6 c_6 := ⟨_, s10.merge (fun x => x + 25)⟩
  refine WR.k rfl rfl rfl (OS.move (v := vB r_4) rfl rfl ?_)
  obtain ⟨b, ht, hp⟩ := bind_some hp
  refine WR.cut2 4 (fun f_ w_7 => ∃ (c_7 : Col), f_ 8 = vI r_.2 ∧ f_ 10 = vI r_1.2 ∧ f_ 11 = v_4 ∧ f_ 12 = vU64 r_2.2.1 ∧ f_ 13 = vI r_2.2.2 ∧ f_ 14 = v_5 ∧ f_ 15 = vU64 r_3.2.1 ∧ f_ 16 = vI r_3.2.2 ∧ f_ 54 = vB b ∧ St [] w_6 c_6 w_7 c_7) ?_ ?_
  · rcases Bool.eq_false_or_eq_true (r_4) with hg | hg
    · rw [if_pos hg] at ht
      refine WR.kT rfl rfl (vb_t rfl hg) rfl rfl (OS.move (v := v_2) rfl rfl ?_)
      refine WR.kT rfl rfl (vb_t rfl hg) rfl rfl (OS.move (v := v_3) rfl rfl ?_)
      have o19 := o6.keep (((s5.t s7).t s9).t s11) (by decide)
      have o20 := o10.keep ((s7.t s9).t s11) (by decide)
      obtain ⟨r_5, hr_5, ht⟩ := bind_some ht
      refine WR.kT rfl rfl (vb_t rfl hg) rfl rfl (OS.callF (vs := [v_2, v_3]) rfl ⟨rfl, rfl, trivial⟩ Try.call15 ((W15 K w_6 hr_5 o19.vw.forget o20.vw.forget).mono ?_))
      rintro _ w_8 ⟨d5, rfl, s12⟩
      refine ⟨_, rfl, ?_⟩
      obtain ⟨c_8, s13⟩ : ∃ c_8, St [] w_6 c_6 w_8 c_8 := ⟨_, s12.merge (fun x => x + 29)⟩
      refine WR.k rfl rfl rfl (OS.pickT rfl (vb_t rfl hg) rfl ?_)
      cases ht
      refine WR.nil ?_
      exact ⟨_, rfl, rfl, rfl, rfl, rfl, rfl, rfl, rfl, rfl, s13.mono (by decide)⟩
    · rw [if_neg (nt hg)] at ht
      refine WR.gF rfl rfl (vb_f rfl hg) rfl rfl ?_
      refine WR.gF rfl rfl (vb_f rfl hg) rfl rfl ?_
      refine WR.gF rfl rfl (vb_f rfl hg) rfl rfl ?_
      refine WR.k rfl rfl rfl (OS.pickF rfl (vb_f rfl hg) rfl ?_)
      cases ht
      refine WR.nil ?_
      exact ⟨_, rfl, rfl, rfl, rfl, rfl, rfl, rfl, rfl, rfl, St.refl.mono (by decide)⟩
  · rintro f_ w_7 ⟨c_7, h, h1, h2, h3, h4, h5, h6, h7, h8, s14⟩
    refine WR.k rfl rfl rfl (OS.move (v := vB b) rfl h8 ?_)
    refine WR.cut2 4 (fun f_1 w_9 => f_1 11 = v_4 ∧ f_1 12 = vU64 r_2.2.1 ∧ f_1 13 = vI r_2.2.2 ∧ f_1 14 = v_5 ∧ f_1 15 = vU64 r_3.2.1 ∧ f_1 16 = vI r_3.2.2 ∧ f_1 59 = vB (b && (decide (r_.2 = r_1.2))) ∧ w_7 = w_9) ?_ ?_
    · rcases Bool.eq_false_or_eq_true (b) with hg1 | hg1
      · refine WR.kT rfl rfl (vb_t rfl hg1) rfl rfl (OS.move (v := vI r_.2) rfl h ?_)
        refine WR.kT rfl rfl (vb_t rfl hg1) rfl rfl (OS.move (v := vI r_1.2) rfl h1 ?_)
        refine WR.kT rfl rfl (vb_t rfl hg1) rfl rfl (OS.bin (a := vI r_.2) (b := vI r_1.2) rfl rfl rfl bI_eql ?_)
        refine WR.k rfl rfl rfl (OS.pickT rfl (vb_t rfl hg1) rfl ?_)
        refine WR.nil ?_
        exact ⟨h2, h3, h4, h5, h6, h7, (and_t hg1), rfl⟩
      · refine WR.gF rfl rfl (vb_f rfl hg1) rfl rfl ?_
        refine WR.gF rfl rfl (vb_f rfl hg1) rfl rfl ?_
        refine WR.gF rfl rfl (vb_f rfl hg1) rfl rfl ?_
        refine WR.k rfl rfl rfl (OS.pickF rfl (vb_f rfl hg1) rfl ?_)
        refine WR.nil ?_
        exact ⟨h2, h3, h4, h5, h6, h7, (and_f hg1), rfl⟩
    · rintro f_1 _ ⟨h9, h10, h11, h12, h13, h14, h15, rfl⟩
      refine WR.k rfl rfl rfl (OS.move (v := vB (b && (decide (r_.2 = r_1.2)))) rfl h15 ?_)
      obtain ⟨b1, ht1, hp⟩ := bind_some hp
      refine WR.cut2 4 (fun f_2 w_10 => ∃ (c_10 : Col), f_2 12 = vU64 r_2.2.1 ∧ f_2 13 = vI r_2.2.2 ∧ f_2 15 = vU64 r_3.2.1 ∧ f_2 16 = vI r_3.2.2 ∧ f_2 64 = vB b1 ∧ St [] w_7 c_7 w_10 c_10) ?_ ?_
      · rcases Bool.eq_false_or_eq_true (b && (decide (r_.2 = r_1.2))) with hg2 | hg2
        · rw [if_pos hg2] at ht1
          refine WR.kT rfl rfl (vb_t rfl hg2) rfl rfl (OS.move (v := v_4) rfl h9 ?_)
          refine WR.kT rfl rfl (vb_t rfl hg2) rfl rfl (OS.move (v := v_5) rfl h12 ?_)
          have o21 := o14.keep ((s9.t s11).t s14) (by decide)
          have o22 := o18.keep (s11.t s14) (by decide)
          obtain ⟨r_6, hr_6, ht1⟩ := bind_some ht1
          refine WR.kT rfl rfl (vb_t rfl hg2) rfl rfl (OS.callF (vs := [v_4, v_5]) rfl ⟨rfl, rfl, trivial⟩ Try.call15 ((W15 K w_7 hr_6 o21.vw.forget o22.vw.forget).mono ?_))
          rintro _ w_11 ⟨d6, rfl, s15⟩
          refine ⟨_, rfl, ?_⟩
          obtain ⟨c_11, s16⟩ : ∃ c_11, St [] w_7 c_7 w_11 c_11 := ⟨_, s15.merge (fun x => x + 33)⟩
          refine WR.k rfl rfl rfl (OS.pickT rfl (vb_t rfl hg2) rfl ?_)
          cases ht1
          refine WR.nil ?_
          exact ⟨_, h10, h11, h13, h14, rfl, s16.mono (by decide)⟩
        · rw [if_neg (nt hg2)] at ht1
          refine WR.gF rfl rfl (vb_f rfl hg2) rfl rfl ?_
          refine WR.gF rfl rfl (vb_f rfl hg2) rfl rfl ?_
          refine WR.gF rfl rfl (vb_f rfl hg2) rfl rfl ?_
          refine WR.k rfl rfl rfl (OS.pickF rfl (vb_f rfl hg2) rfl ?_)
          cases ht1
          refine WR.nil ?_
          exact ⟨_, h10, h11, h13, h14, rfl, St.refl.mono (by decide)⟩
      · rintro f_2 w_10 ⟨c_10, h16, h17, h18, h19, h20, s17⟩
        refine WR.k rfl rfl rfl (OS.move (v := vB b1) rfl h20 ?_)
        refine WR.cut2 4 (fun f_3 w_12 => f_3 13 = vI r_2.2.2 ∧ f_3 16 = vI r_3.2.2 ∧ f_3 69 = vB (b1 && (decide (r_2.2.1 = r_3.2.1))) ∧ w_10 = w_12) ?_ ?_
        · rcases Bool.eq_false_or_eq_true (b1) with hg3 | hg3
          · refine WR.kT rfl rfl (vb_t rfl hg3) rfl rfl (OS.move (v := vU64 r_2.2.1) rfl h16 ?_)
            refine WR.kT rfl rfl (vb_t rfl hg3) rfl rfl (OS.move (v := vU64 r_3.2.1) rfl h18 ?_)
            refine WR.kT rfl rfl (vb_t rfl hg3) rfl rfl (OS.bin (a := vU64 r_2.2.1) (b := vU64 r_3.2.1) rfl rfl rfl b64_eql ?_)
            refine WR.k rfl rfl rfl (OS.pickT rfl (vb_t rfl hg3) rfl ?_)
            refine WR.nil ?_
            exact ⟨h17, h19, (and_t hg3), rfl⟩
          · refine WR.gF rfl rfl (vb_f rfl hg3) rfl rfl ?_
            refine WR.gF rfl rfl (vb_f rfl hg3) rfl rfl ?_
            refine WR.gF rfl rfl (vb_f rfl hg3) rfl rfl ?_
            refine WR.k rfl rfl rfl (OS.pickF rfl (vb_f rfl hg3) rfl ?_)
            refine WR.nil ?_
            exact ⟨h17, h19, (and_f hg3), rfl⟩
        · rintro f_3 _ ⟨h21, h22, h23, rfl⟩
          refine WR.k rfl rfl rfl (OS.move (v := vB (b1 && (decide (r_2.2.1 = r_3.2.1)))) rfl h23 ?_)
          refine WR.cut2 4 (fun f_4 w_13 => f_4 74 = vB ((b1 && (decide (r_2.2.1 = r_3.2.1))) && (decide (r_2.2.2 = r_3.2.2))) ∧ w_10 = w_13) ?_ ?_
          · rcases Bool.eq_false_or_eq_true (b1 && (decide (r_2.2.1 = r_3.2.1))) with hg4 | hg4
            · refine WR.kT rfl rfl (vb_t rfl hg4) rfl rfl (OS.move (v := vI r_2.2.2) rfl h21 ?_)
              refine WR.kT rfl rfl (vb_t rfl hg4) rfl rfl (OS.move (v := vI r_3.2.2) rfl h22 ?_)
              refine WR.kT rfl rfl (vb_t rfl hg4) rfl rfl (OS.bin (a := vI r_2.2.2) (b := vI r_3.2.2) rfl rfl rfl bI_eql ?_)
              refine WR.k rfl rfl rfl (OS.pickT rfl (vb_t rfl hg4) rfl ?_)
              refine WR.nil ?_
              exact ⟨(and_t hg4), rfl⟩
            · refine WR.gF rfl rfl (vb_f rfl hg4) rfl rfl ?_
              refine WR.gF rfl rfl (vb_f rfl hg4) rfl rfl ?_
              refine WR.gF rfl rfl (vb_f rfl hg4) rfl rfl ?_
              refine WR.k rfl rfl rfl (OS.pickF rfl (vb_f rfl hg4) rfl ?_)
              refine WR.nil ?_
              exact ⟨(and_f hg4), rfl⟩
          · rintro f_4 _ ⟨h24, rfl⟩
            refine WR.k rfl rfl rfl (OS.assign (v := vB ((b1 && (decide (r_2.2.1 = r_3.2.1))) && (decide (r_2.2.2 = r_3.2.2)))) rfl h24 ?_)
            refine WR.nil ?_
            refine WC.ret ?_
            repeat first | refine thenQ_ret ?_ | refine blkQ_ret ?_
            cases hp
            exact fnQ.l1 (fn := Try.f3) rfl (.inl ⟨_, rfl, rfl⟩) ⟨_, rfl, ((((((((s.t s1).t s3).t s5).t s7).t s9).t s11).t s14).t s17).entry (by decide)⟩

-- holdfast/holdfastlaw08.SealStreams
set_option maxHeartbeats 4000000 in
theorem W4 (K : Nat) (w0 : World) {key : List UInt8} {once : UInt64} {n1 : Int} {r : Bool} (hp : holdfastlaw08_SealStreams K key once n1 = some r) (hl : key.length = 32) :
    Calls Try.prog 4 [.agg (fl E5 key).toArray, vU64 once, vI n1].toArray w0 fun e w1 => ∃ (d : Col), e = .returned (vB r) ∧ St [] w0 c0 w1 d := by
  refine calls_intro Try.func4 rfl Try.ntmps4 rfl ?_
  unfold holdfastlaw08_SealStreams at hp
  refine WC.seq (WC.region ?_)
  refine WR.k rfl rfl rfl (OS.boxArr (E := E5) (c := c0) 12 rfl rfl ?_); intro p_ w_ c_ o s
  refine WR.k rfl rfl rfl (OS.assign (v := vB false) rfl rfl ?_)
  refine WR.nil ?_
  refine WC.seq (WC.region ?_)
  refine WR.k rfl rfl rfl (OS.ldN rfl Try.isAgg23 Try.sizeOf23 rfl o.ldAll (by rw [fl_length, hl]; rfl) ?_)
  refine WR.k rfl rfl rfl (OS.move (v := vU64 once) rfl rfl ?_)
  refine WR.k rfl rfl rfl (OS.move (v := vI n1) rfl rfl ?_)
  obtain ⟨r_, hr_, hp⟩ := bind_some hp
  refine WR.k rfl rfl rfl (OS.callF (vs := [.agg (fl E5 key).toArray, vU64 once, vI n1]) rfl ⟨rfl, rfl, rfl, trivial⟩ Try.call16 ((W16 K w_ hr_ hl).mono ?_))
  rintro _ w_1 ⟨v_, d, rfl, s1, o1⟩
  refine ⟨_, rfl, ?_⟩
  obtain ⟨c_1, s2, o1⟩ : ∃ c_1, St [] w_ c_ w_1 c_1 ∧ Ow E5 14 w_1 c_1 v_ r_.1 := ⟨_, s1.merge (fun x => x + 12), o1.merge (fun x => x + 12) s1 (by decide)⟩
  refine WR.k rfl rfl rfl (OS.move (v := .tuple #[v_, vI r_.2]) rfl rfl ?_)
  refine WR.k rfl rfl rfl (OS.extract rfl rfl rfl ?_)
  refine WR.k rfl rfl rfl (OS.extract rfl rfl rfl ?_)
  refine WR.k rfl rfl rfl (OS.assign (v := v_) rfl rfl ?_)
  refine WR.k rfl rfl rfl (OS.assign (v := vI r_.2) rfl rfl ?_)
  refine WR.nil ?_
  refine WC.seq (WC.region ?_)
  have o2 := o.keep s2 (by decide)
  refine WR.k rfl rfl rfl (OS.ldN rfl Try.isAgg23 Try.sizeOf23 rfl o2.ldAll (by rw [fl_length, hl]; rfl) ?_)
  refine WR.k rfl rfl rfl (OS.move (v := vU64 once) rfl rfl ?_)
  refine WR.k rfl rfl rfl (OS.move (v := vI n1) rfl rfl ?_)
  obtain ⟨r_1, hr_1, hp⟩ := bind_some hp
  refine WR.k rfl rfl rfl (OS.callF (vs := [.agg (fl E5 key).toArray, vU64 once, vI n1]) rfl ⟨rfl, rfl, rfl, trivial⟩ Try.call17 ((W17 K w_1 hr_1 hl).mono ?_))
  rintro _ w_2 ⟨v_1, d1, rfl, s3, o3⟩
  refine ⟨_, rfl, ?_⟩
  obtain ⟨c_2, s4, o3⟩ : ∃ c_2, St [] w_1 c_1 w_2 c_2 ∧ Ow E5 17 w_2 c_2 v_1 r_1.1 := ⟨_, s3.merge (fun x => x + 15), o3.merge (fun x => x + 15) s3 (by decide)⟩
  refine WR.k rfl rfl rfl (OS.move (v := .tuple #[v_1, vI r_1.2]) rfl rfl ?_)
  refine WR.k rfl rfl rfl (OS.extract rfl rfl rfl ?_)
  refine WR.k rfl rfl rfl (OS.extract rfl rfl rfl ?_)
  refine WR.k rfl rfl rfl (OS.assign (v := v_1) rfl rfl ?_)
  refine WR.k rfl rfl rfl (OS.assign (v := vI r_1.2) rfl rfl ?_)
  refine WR.nil ?_
  refine WC.seq (WC.region ?_)
  refine WR.k rfl rfl rfl (OS.assign (v := vI (0 : Int)) rfl rfl ?_)
  refine WR.nil ?_
  refine WC.seq ?_
  refine WC.seq (WC.region ?_)
  refine WR.k rfl rfl rfl (OS.move (v := vI n1) rfl rfl ?_)
  refine WR.k rfl rfl rfl (OS.bin (a := vI n1) (b := vI (0 : Int)) rfl rfl rfl bI_geq ?_)
  refine WR.k rfl rfl rfl (OS.move (v := vB (decide ((0 : Int) ≤ n1))) rfl rfl ?_)
  refine WR.cut2 3 (fun f_ w_3 => f_ 2 = vI n1 ∧ f_ 7 = v_ ∧ f_ 8 = vI r_.2 ∧ f_ 9 = v_1 ∧ f_ 10 = vI r_1.2 ∧ f_ 11 = vI (0 : Int) ∧ f_ 31 = vB ((decide ((0 : Int) ≤ n1)) && (decide (n1 ≤ (1024 : Int)))) ∧ w_2 = w_3) ?_ ?_
  · rcases Bool.eq_false_or_eq_true (decide ((0 : Int) ≤ n1)) with hg | hg
    · refine WR.kT rfl rfl (vb_t rfl hg) rfl rfl (OS.move (v := vI n1) rfl rfl ?_)
      refine WR.kT rfl rfl (vb_t rfl hg) rfl rfl (OS.bin (a := vI n1) (b := vI (1024 : Int)) rfl rfl rfl bI_leq ?_)
      refine WR.k rfl rfl rfl (OS.pickT rfl (vb_t rfl hg) rfl ?_)
      refine WR.nil ?_
      exact ⟨rfl, rfl, rfl, rfl, rfl, rfl, (and_t hg), rfl⟩
    · refine WR.gF rfl rfl (vb_f rfl hg) rfl rfl ?_
      refine WR.gF rfl rfl (vb_f rfl hg) rfl rfl ?_
      refine WR.k rfl rfl rfl (OS.pickF rfl (vb_f rfl hg) rfl ?_)
      refine WR.nil ?_
      exact ⟨rfl, rfl, rfl, rfl, rfl, rfl, (and_f hg), rfl⟩
  · rintro f_ _ ⟨h, h1, h2, h3, h4, h5, h6, rfl⟩
    refine WR.nil ?_
    refine WC.endJ (fun f_1 w_4 => ∃ (size : Int), holdfastlaw08_SealStreams.j1 K r_ r_1 n1 size = some r ∧ f_1 2 = vI n1 ∧ f_1 7 = v_ ∧ f_1 8 = vI r_.2 ∧ f_1 9 = v_1 ∧ f_1 10 = vI r_1.2 ∧ f_1 11 = vI size ∧ w_2 = w_4) ?_ ?_
    · refine WC.cond ((decide ((0 : Int) ≤ n1)) && (decide (n1 ≤ (1024 : Int)))) h6 (fun hb => ?_) (fun hb => ?_)
      · rw [if_pos hb] at hp
        refine WC.region ?_
        refine WR.k rfl rfl rfl (OS.move (v := vI n1) rfl h ?_)
        refine WR.k rfl rfl rfl (OS.bin (a := vI n1) (b := vI (24 : Int)) rfl rfl rfl bI_add ?_)
        refine WR.k rfl rfl rfl (OS.assign (v := vI (W (n1 + (24 : Int)))) rfl rfl ?_)
        refine WR.nil ?_
        exact ⟨_, hp, h, h1, h2, h3, h4, rfl, rfl⟩
      · rw [if_neg (nt hb)] at hp
        refine WC.skip ?_
        exact ⟨_, hp, h, h1, h2, h3, h4, h5, rfl⟩
    · rintro f_1 _ ⟨size, hp, h7, h8, h9, h10, h11, h12, rfl⟩
      unfold holdfastlaw08_SealStreams.j1 at hp
      refine WC.seq (WC.region ?_)
      obtain ⟨r_2, hr_2, hp⟩ := bind_some hp
      refine WR.k rfl rfl rfl (OS.callF (vs := []) rfl trivial Try.call14 ((W14 K w_2 hr_2).mono ?_))
      rintro _ w_5 ⟨d2, rfl, s5⟩
      refine ⟨_, rfl, ?_⟩
      obtain ⟨c_5, s6⟩ : ∃ c_5, St [] w_2 c_2 w_5 c_5 := ⟨_, s5.merge (fun x => x + 18)⟩
      refine WR.k rfl rfl rfl (OS.move (v := vB r_2) rfl rfl ?_)
      obtain ⟨b, ht, hp⟩ := bind_some hp
      refine WR.cut2 4 (fun f_2 w_6 => ∃ (c_6 : Col), f_2 2 = vI n1 ∧ f_2 8 = vI r_.2 ∧ f_2 10 = vI r_1.2 ∧ f_2 11 = vI size ∧ f_2 39 = vB b ∧ St [] w_5 c_5 w_6 c_6) ?_ ?_
      · rcases Bool.eq_false_or_eq_true (r_2) with hg1 | hg1
        · rw [if_pos hg1] at ht
          refine WR.kT rfl rfl (vb_t rfl hg1) rfl rfl (OS.move (v := v_) rfl h8 ?_)
          refine WR.kT rfl rfl (vb_t rfl hg1) rfl rfl (OS.move (v := v_1) rfl h10 ?_)
          have o4 := o1.keep (s4.t s6) (by decide)
          have o5 := o3.keep s6 (by decide)
          obtain ⟨r_3, hr_3, ht⟩ := bind_some ht
          refine WR.kT rfl rfl (vb_t rfl hg1) rfl rfl (OS.callF (vs := [v_, v_1]) rfl ⟨rfl, rfl, trivial⟩ Try.call15 ((W15 K w_5 hr_3 o4.vw.forget o5.vw.forget).mono ?_))
          rintro _ w_7 ⟨d3, rfl, s7⟩
          refine ⟨_, rfl, ?_⟩
          obtain ⟨c_7, s8⟩ : ∃ c_7, St [] w_5 c_5 w_7 c_7 := ⟨_, s7.merge (fun x => x + 22)⟩
          refine WR.k rfl rfl rfl (OS.pickT rfl (vb_t rfl hg1) rfl ?_)
          cases ht
          refine WR.nil ?_
          exact ⟨_, h7, h9, h11, h12, rfl, s8.mono (by decide)⟩
        · rw [if_neg (nt hg1)] at ht
          refine WR.gF rfl rfl (vb_f rfl hg1) rfl rfl ?_
          refine WR.gF rfl rfl (vb_f rfl hg1) rfl rfl ?_
          refine WR.gF rfl rfl (vb_f rfl hg1) rfl rfl ?_
          refine WR.k rfl rfl rfl (OS.pickF rfl (vb_f rfl hg1) rfl ?_)
          cases ht
          refine WR.nil ?_
          exact ⟨_, h7, h9, h11, h12, rfl, St.refl.mono (by decide)⟩
      · rintro f_2 w_6 ⟨c_6, h13, h14, h15, h16, h17, s9⟩
        refine WR.k rfl rfl rfl (OS.move (v := vB b) rfl h17 ?_)
        refine WR.cut2 4 (fun f_3 w_8 => f_3 2 = vI n1 ∧ f_3 11 = vI size ∧ f_3 44 = vB (b && (decide (r_.2 = r_1.2))) ∧ w_6 = w_8) ?_ ?_
        · rcases Bool.eq_false_or_eq_true (b) with hg2 | hg2
          · refine WR.kT rfl rfl (vb_t rfl hg2) rfl rfl (OS.move (v := vI r_.2) rfl h14 ?_)
            refine WR.kT rfl rfl (vb_t rfl hg2) rfl rfl (OS.move (v := vI r_1.2) rfl h15 ?_)
            refine WR.kT rfl rfl (vb_t rfl hg2) rfl rfl (OS.bin (a := vI r_.2) (b := vI r_1.2) rfl rfl rfl bI_eql ?_)
            refine WR.k rfl rfl rfl (OS.pickT rfl (vb_t rfl hg2) rfl ?_)
            refine WR.nil ?_
            exact ⟨h13, h16, (and_t hg2), rfl⟩
          · refine WR.gF rfl rfl (vb_f rfl hg2) rfl rfl ?_
            refine WR.gF rfl rfl (vb_f rfl hg2) rfl rfl ?_
            refine WR.gF rfl rfl (vb_f rfl hg2) rfl rfl ?_
            refine WR.k rfl rfl rfl (OS.pickF rfl (vb_f rfl hg2) rfl ?_)
            refine WR.nil ?_
            exact ⟨h13, h16, (and_f hg2), rfl⟩
        · rintro f_3 _ ⟨h18, h19, h20, rfl⟩
          refine WR.k rfl rfl rfl (OS.move (v := vB (b && (decide (r_.2 = r_1.2)))) rfl h20 ?_)
          obtain ⟨b1, ht1, hp⟩ := bind_some hp
          refine WR.cut2 5 (fun f_4 w_9 => ∃ (c_9 : Col), f_4 50 = vB b1 ∧ St [] w_6 c_6 w_9 c_9) ?_ ?_
          · rcases Bool.eq_false_or_eq_true (b && (decide (r_.2 = r_1.2))) with hg3 | hg3
            · rw [if_pos hg3] at ht1
              refine WR.kT rfl rfl (vb_t rfl hg3) rfl rfl (OS.move (v := vI n1) rfl h18 ?_)
              obtain ⟨r_4, hr_4, ht1⟩ := bind_some ht1
              refine WR.kT rfl rfl (vb_t rfl hg3) rfl rfl (OS.callF (vs := [vI n1]) rfl ⟨rfl, trivial⟩ Try.call18 ((W18 K w_6 hr_4).mono ?_))
              rintro _ w_10 ⟨d4, rfl, s10⟩
              refine ⟨_, rfl, ?_⟩
              obtain ⟨c_10, s11⟩ : ∃ c_10, St [] w_6 c_6 w_10 c_10 := ⟨_, s10.merge (fun x => x + 26)⟩
              refine WR.kT rfl rfl (vb_t rfl hg3) rfl rfl (OS.move (v := vI size) rfl h19 ?_)
              refine WR.kT rfl rfl (vb_t rfl hg3) rfl rfl (OS.bin (a := vI r_4) (b := vI size) rfl rfl rfl bI_eql ?_)
              refine WR.k rfl rfl rfl (OS.pickT rfl (vb_t rfl hg3) rfl ?_)
              cases ht1
              refine WR.nil ?_
              exact ⟨_, rfl, s11.mono (by decide)⟩
            · rw [if_neg (nt hg3)] at ht1
              refine WR.gF rfl rfl (vb_f rfl hg3) rfl rfl ?_
              refine WR.gF rfl rfl (vb_f rfl hg3) rfl rfl ?_
              refine WR.gF rfl rfl (vb_f rfl hg3) rfl rfl ?_
              refine WR.gF rfl rfl (vb_f rfl hg3) rfl rfl ?_
              refine WR.k rfl rfl rfl (OS.pickF rfl (vb_f rfl hg3) rfl ?_)
              cases ht1
              refine WR.nil ?_
              exact ⟨_, rfl, St.refl.mono (by decide)⟩
          · rintro f_4 w_9 ⟨c_9, h21, s12⟩
            refine WR.k rfl rfl rfl (OS.assign (v := vB b1) rfl h21 ?_)
            refine WR.nil ?_
            refine WC.ret ?_
            repeat first | refine thenQ_ret ?_ | refine blkQ_ret ?_
            cases hp
            exact fnQ.l1 (fn := Try.f4) rfl (.inl ⟨_, rfl, rfl⟩) ⟨_, rfl, (((((s.t s2).t s4).t s6).t s9).t s12).entry (by decide)⟩

-- holdfast/holdfastlaw08.SealBack
set_option maxHeartbeats 4000000 in
theorem W5 (K : Nat) (w0 : World) {key : List UInt8} {once : UInt64} {plain : List UInt8} {r : Bool} (hp : holdfastlaw08_SealBack K key once plain = some r) (hl : key.length = 32) {v_ : Value} (o : Vw E5 0 w0 c0 v_ plain) :
    Calls Try.prog 5 [.agg (fl E5 key).toArray, vU64 once, v_].toArray w0 fun e w1 => ∃ (d : Col), e = .returned (vB r) ∧ St [] w0 c0 w1 d := by
  refine calls_intro Try.func5 rfl Try.ntmps5 rfl ?_
  unfold holdfastlaw08_SealBack at hp
  refine WC.seq (WC.region ?_)
  refine WR.k rfl rfl rfl (OS.boxArr (E := E5) (c := c0) 12 rfl rfl ?_); intro p_ w_ c_ o1 s
  refine WR.k rfl rfl rfl (OS.assign (v := vB false) rfl rfl ?_)
  refine WR.nil ?_
  refine WC.seq (WC.region ?_)
  refine WR.k rfl rfl rfl (OS.ldN rfl Try.isAgg23 Try.sizeOf23 rfl o1.ldAll (by rw [fl_length, hl]; rfl) ?_)
  refine WR.k rfl rfl rfl (OS.move (v := vU64 once) rfl rfl ?_)
  refine WR.k rfl rfl rfl (OS.move (v := v_) rfl rfl ?_)
  have o2 := o.keep s (by decide)
  obtain ⟨r_, hr_, hp⟩ := bind_some hp
  refine WR.k rfl rfl rfl (OS.callF (vs := [.agg (fl E5 key).toArray, vU64 once, v_]) rfl ⟨rfl, rfl, rfl, trivial⟩ Try.call10 ((W10 K w_ hr_ hl o2.forget).mono ?_))
  rintro _ w_1 ⟨v_1, d, rfl, s1, o3⟩
  refine ⟨_, rfl, ?_⟩
  obtain ⟨c_1, s2, o3⟩ : ∃ c_1, St [] w_ c_ w_1 c_1 ∧ Ow E5 14 w_1 c_1 v_1 r_.1 := ⟨_, s1.merge (fun x => x + 12), o3.merge (fun x => x + 12) s1 (by decide)⟩
  refine WR.k rfl rfl rfl (OS.move (v := .tuple #[v_1, vI r_.2]) rfl rfl ?_)
  refine WR.k rfl rfl rfl (OS.extract rfl rfl rfl ?_)
  refine WR.k rfl rfl rfl (OS.extract rfl rfl rfl ?_)
  refine WR.k rfl rfl rfl (OS.assign (v := v_1) rfl rfl ?_)
  refine WR.k rfl rfl rfl (OS.assign (v := vI r_.2) rfl rfl ?_)
  refine WR.nil ?_
  refine WC.seq ?_
  refine WC.seq (WC.region ?_)
  refine WR.k rfl rfl rfl (OS.move (v := v_) rfl rfl ?_)
  have o4 := o2.keep s2 (by decide)
  refine WR.k rfl rfl rfl (OS.lenSl rfl Try.runUnderlying25 rfl o4.isSl ?_)
  refine WR.k rfl rfl rfl (OS.bin (a := vI (plain.length : Int)) (b := vI (1024 : Int)) rfl rfl rfl bI_gtr ?_)
  refine WR.nil ?_
  refine WC.cond (decide ((1024 : Int) < (plain.length : Int))) rfl (fun hb => ?_) (fun hb => ?_)
  · rw [if_pos hb] at hp
    refine WC.seq (WC.region ?_)
    obtain ⟨r_1, hr_1, hp⟩ := bind_some hp
    refine WR.k rfl rfl rfl (OS.callF (vs := []) rfl trivial Try.call14 ((W14 K w_1 hr_1).mono ?_))
    rintro _ w_2 ⟨d1, rfl, s3⟩
    refine ⟨_, rfl, ?_⟩
    obtain ⟨c_2, s4⟩ : ∃ c_2, St [] w_1 c_1 w_2 c_2 := ⟨_, s3.merge (fun x => x + 15)⟩
    refine WR.k rfl rfl rfl (OS.move (v := vB r_1) rfl rfl ?_)
    refine WR.cut2 3 (fun f_ w_3 => f_ 26 = vB (r_1 && (decide (r_.2 = (6 : Int)))) ∧ w_2 = w_3) ?_ ?_
    · rcases Bool.eq_false_or_eq_true (r_1) with hg | hg
      · refine WR.kT rfl rfl (vb_t rfl hg) rfl rfl (OS.move (v := vI r_.2) rfl rfl ?_)
        refine WR.kT rfl rfl (vb_t rfl hg) rfl rfl (OS.bin (a := vI r_.2) (b := vI (6 : Int)) rfl rfl rfl bI_eql ?_)
        refine WR.k rfl rfl rfl (OS.pickT rfl (vb_t rfl hg) rfl ?_)
        refine WR.nil ?_
        exact ⟨(and_t hg), rfl⟩
      · refine WR.gF rfl rfl (vb_f rfl hg) rfl rfl ?_
        refine WR.gF rfl rfl (vb_f rfl hg) rfl rfl ?_
        refine WR.k rfl rfl rfl (OS.pickF rfl (vb_f rfl hg) rfl ?_)
        refine WR.nil ?_
        exact ⟨(and_f hg), rfl⟩
    · rintro f_ _ ⟨h, rfl⟩
      refine WR.k rfl rfl rfl (OS.assign (v := vB (r_1 && (decide (r_.2 = (6 : Int))))) rfl h ?_)
      refine WR.nil ?_
      refine WC.ret ?_
      repeat first | refine thenQ_ret ?_ | refine blkQ_ret ?_
      cases hp
      exact fnQ.l1 (fn := Try.f5) rfl (.inl ⟨_, rfl, rfl⟩) ⟨_, rfl, ((s.t s2).t s4).entry (by decide)⟩
  · rw [if_neg (nt hb)] at hp
    refine WC.skip ?_
    refine WC.seq (WC.region ?_)
    have o5 := o1.keep s2 (by decide)
    refine WR.k rfl rfl rfl (OS.ldN rfl Try.isAgg23 Try.sizeOf23 rfl o5.ldAll (by rw [fl_length, hl]; rfl) ?_)
    refine WR.k rfl rfl rfl (OS.move (v := v_1) rfl rfl ?_)
    obtain ⟨r_2, hr_2, hp⟩ := bind_some hp
    refine WR.k rfl rfl rfl (OS.callF (vs := [.agg (fl E5 key).toArray, v_1]) rfl ⟨rfl, rfl, trivial⟩ Try.call12 ((W12 K w_1 hr_2 hl o3.vw.forget).mono ?_))
    rintro _ w_4 ⟨v_2, d2, rfl, s5, o6⟩
    refine ⟨_, rfl, ?_⟩
    obtain ⟨c_4, s6, o6⟩ : ∃ c_4, St [] w_1 c_1 w_4 c_4 ∧ Ow E5 19 w_4 c_4 v_2 r_2.1 := ⟨_, s5.merge (fun x => x + 17), o6.merge (fun x => x + 17) s5 (by decide)⟩
    refine WR.k rfl rfl rfl (OS.move (v := .tuple #[v_2, vU64 r_2.2.1, vI r_2.2.2]) rfl rfl ?_)
    refine WR.k rfl rfl rfl (OS.extract rfl rfl rfl ?_)
    refine WR.k rfl rfl rfl (OS.extract rfl rfl rfl ?_)
    refine WR.k rfl rfl rfl (OS.extract rfl rfl rfl ?_)
    refine WR.k rfl rfl rfl (OS.assign (v := v_2) rfl rfl ?_)
    refine WR.k rfl rfl rfl (OS.assign (v := vU64 r_2.2.1) rfl rfl ?_)
    refine WR.k rfl rfl rfl (OS.assign (v := vI r_2.2.2) rfl rfl ?_)
    refine WR.nil ?_
    refine WC.seq (WC.region ?_)
    obtain ⟨r_3, hr_3, hp⟩ := bind_some hp
    refine WR.k rfl rfl rfl (OS.callF (vs := []) rfl trivial Try.call14 ((W14 K w_4 hr_3).mono ?_))
    rintro _ w_5 ⟨d3, rfl, s7⟩
    refine ⟨_, rfl, ?_⟩
    obtain ⟨c_5, s8⟩ : ∃ c_5, St [] w_4 c_4 w_5 c_5 := ⟨_, s7.merge (fun x => x + 20)⟩
    refine WR.k rfl rfl rfl (OS.move (v := vB r_3) rfl rfl ?_)
    refine WR.cut2 3 (fun f_1 w_6 => f_1 1 = vU64 once ∧ f_1 2 = v_ ∧ f_1 7 = v_1 ∧ f_1 9 = v_2 ∧ f_1 10 = vU64 r_2.2.1 ∧ f_1 11 = vI r_2.2.2 ∧ f_1 38 = vB (r_3 && (decide (r_.2 = (0 : Int)))) ∧ w_5 = w_6) ?_ ?_
    · rcases Bool.eq_false_or_eq_true (r_3) with hg1 | hg1
      · refine WR.kT rfl rfl (vb_t rfl hg1) rfl rfl (OS.move (v := vI r_.2) rfl rfl ?_)
        refine WR.kT rfl rfl (vb_t rfl hg1) rfl rfl (OS.bin (a := vI r_.2) (b := vI (0 : Int)) rfl rfl rfl bI_eql ?_)
        refine WR.k rfl rfl rfl (OS.pickT rfl (vb_t rfl hg1) rfl ?_)
        refine WR.nil ?_
        exact ⟨rfl, rfl, rfl, rfl, rfl, rfl, (and_t hg1), rfl⟩
      · refine WR.gF rfl rfl (vb_f rfl hg1) rfl rfl ?_
        refine WR.gF rfl rfl (vb_f rfl hg1) rfl rfl ?_
        refine WR.k rfl rfl rfl (OS.pickF rfl (vb_f rfl hg1) rfl ?_)
        refine WR.nil ?_
        exact ⟨rfl, rfl, rfl, rfl, rfl, rfl, (and_f hg1), rfl⟩
    · rintro f_1 _ ⟨h1, h2, h3, h4, h5, h6, h7, rfl⟩
      refine WR.k rfl rfl rfl (OS.move (v := vB (r_3 && (decide (r_.2 = (0 : Int))))) rfl h7 ?_)
      refine WR.cut2 3 (fun f_2 w_7 => f_2 1 = vU64 once ∧ f_2 2 = v_ ∧ f_2 7 = v_1 ∧ f_2 9 = v_2 ∧ f_2 10 = vU64 r_2.2.1 ∧ f_2 42 = vB ((r_3 && (decide (r_.2 = (0 : Int)))) && (decide (r_2.2.2 = (0 : Int)))) ∧ w_5 = w_7) ?_ ?_
      · rcases Bool.eq_false_or_eq_true (r_3 && (decide (r_.2 = (0 : Int)))) with hg2 | hg2
        · refine WR.kT rfl rfl (vb_t rfl hg2) rfl rfl (OS.move (v := vI r_2.2.2) rfl h6 ?_)
          refine WR.kT rfl rfl (vb_t rfl hg2) rfl rfl (OS.bin (a := vI r_2.2.2) (b := vI (0 : Int)) rfl rfl rfl bI_eql ?_)
          refine WR.k rfl rfl rfl (OS.pickT rfl (vb_t rfl hg2) rfl ?_)
          refine WR.nil ?_
          exact ⟨h1, h2, h3, h4, h5, (and_t hg2), rfl⟩
        · refine WR.gF rfl rfl (vb_f rfl hg2) rfl rfl ?_
          refine WR.gF rfl rfl (vb_f rfl hg2) rfl rfl ?_
          refine WR.k rfl rfl rfl (OS.pickF rfl (vb_f rfl hg2) rfl ?_)
          refine WR.nil ?_
          exact ⟨h1, h2, h3, h4, h5, (and_f hg2), rfl⟩
      · rintro f_2 _ ⟨h8, h9, h10, h11, h12, h13, rfl⟩
        refine WR.k rfl rfl rfl (OS.move (v := vB ((r_3 && (decide (r_.2 = (0 : Int)))) && (decide (r_2.2.2 = (0 : Int))))) rfl h13 ?_)
        refine WR.cut2 4 (fun f_3 w_8 => f_3 2 = v_ ∧ f_3 7 = v_1 ∧ f_3 9 = v_2 ∧ f_3 47 = vB (((r_3 && (decide (r_.2 = (0 : Int)))) && (decide (r_2.2.2 = (0 : Int)))) && (decide (r_2.2.1 = once))) ∧ w_5 = w_8) ?_ ?_
        · rcases Bool.eq_false_or_eq_true ((r_3 && (decide (r_.2 = (0 : Int)))) && (decide (r_2.2.2 = (0 : Int)))) with hg3 | hg3
          · refine WR.kT rfl rfl (vb_t rfl hg3) rfl rfl (OS.move (v := vU64 r_2.2.1) rfl h12 ?_)
            refine WR.kT rfl rfl (vb_t rfl hg3) rfl rfl (OS.move (v := vU64 once) rfl h8 ?_)
            refine WR.kT rfl rfl (vb_t rfl hg3) rfl rfl (OS.bin (a := vU64 r_2.2.1) (b := vU64 once) rfl rfl rfl b64_eql ?_)
            refine WR.k rfl rfl rfl (OS.pickT rfl (vb_t rfl hg3) rfl ?_)
            refine WR.nil ?_
            exact ⟨h9, h10, h11, (and_t hg3), rfl⟩
          · refine WR.gF rfl rfl (vb_f rfl hg3) rfl rfl ?_
            refine WR.gF rfl rfl (vb_f rfl hg3) rfl rfl ?_
            refine WR.gF rfl rfl (vb_f rfl hg3) rfl rfl ?_
            refine WR.k rfl rfl rfl (OS.pickF rfl (vb_f rfl hg3) rfl ?_)
            refine WR.nil ?_
            exact ⟨h9, h10, h11, (and_f hg3), rfl⟩
        · rintro f_3 _ ⟨h14, h15, h16, h17, rfl⟩
          refine WR.k rfl rfl rfl (OS.move (v := vB (((r_3 && (decide (r_.2 = (0 : Int)))) && (decide (r_2.2.2 = (0 : Int)))) && (decide (r_2.2.1 = once)))) rfl h17 ?_)
          obtain ⟨b, ht, hp⟩ := bind_some hp
          refine WR.cut2 4 (fun f_4 w_9 => ∃ (c_9 : Col), f_4 2 = v_ ∧ f_4 7 = v_1 ∧ f_4 52 = vB b ∧ St [] w_5 c_5 w_9 c_9) ?_ ?_
          · rcases Bool.eq_false_or_eq_true (((r_3 && (decide (r_.2 = (0 : Int)))) && (decide (r_2.2.2 = (0 : Int)))) && (decide (r_2.2.1 = once))) with hg4 | hg4
            · rw [if_pos hg4] at ht
              refine WR.kT rfl rfl (vb_t rfl hg4) rfl rfl (OS.move (v := v_2) rfl h16 ?_)
              refine WR.kT rfl rfl (vb_t rfl hg4) rfl rfl (OS.move (v := v_) rfl h14 ?_)
              have o7 := o6.keep s8 (by decide)
              have o8 := o4.keep (s6.t s8) (by decide)
              obtain ⟨r_4, hr_4, ht⟩ := bind_some ht
              refine WR.kT rfl rfl (vb_t rfl hg4) rfl rfl (OS.callF (vs := [v_2, v_]) rfl ⟨rfl, rfl, trivial⟩ Try.call15 ((W15 K w_5 hr_4 o7.vw.forget o8.forget).mono ?_))
              rintro _ w_10 ⟨d4, rfl, s9⟩
              refine ⟨_, rfl, ?_⟩
              obtain ⟨c_10, s10⟩ : ∃ c_10, St [] w_5 c_5 w_10 c_10 := ⟨_, s9.merge (fun x => x + 24)⟩
              refine WR.k rfl rfl rfl (OS.pickT rfl (vb_t rfl hg4) rfl ?_)
              cases ht
              refine WR.nil ?_
              exact ⟨_, h14, h15, rfl, s10.mono (by decide)⟩
            · rw [if_neg (nt hg4)] at ht
              refine WR.gF rfl rfl (vb_f rfl hg4) rfl rfl ?_
              refine WR.gF rfl rfl (vb_f rfl hg4) rfl rfl ?_
              refine WR.gF rfl rfl (vb_f rfl hg4) rfl rfl ?_
              refine WR.k rfl rfl rfl (OS.pickF rfl (vb_f rfl hg4) rfl ?_)
              cases ht
              refine WR.nil ?_
              exact ⟨_, h14, h15, rfl, St.refl.mono (by decide)⟩
          · rintro f_4 w_9 ⟨c_9, h18, h19, h20, s11⟩
            refine WR.k rfl rfl rfl (OS.move (v := vB b) rfl h20 ?_)
            obtain ⟨b1, ht1, hp⟩ := bind_some hp
            refine WR.cut2 7 (fun f_5 w_11 => ∃ (c_11 : Col), f_5 60 = vB b1 ∧ St [] w_9 c_9 w_11 c_11) ?_ ?_
            · rcases Bool.eq_false_or_eq_true (b) with hg5 | hg5
              · rw [if_pos hg5] at ht1
                refine WR.kT rfl rfl (vb_t rfl hg5) rfl rfl (OS.move (v := v_1) rfl h19 ?_)
                have o9 := o3.keep ((s6.t s8).t s11) (by decide)
                refine WR.kT rfl rfl (vb_t rfl hg5) rfl rfl (OS.lenSl rfl Try.runUnderlying25 rfl o9.isSl ?_)
                refine WR.kT rfl rfl (vb_t rfl hg5) rfl rfl (OS.move (v := v_) rfl h18 ?_)
                have o10 := o4.keep ((s6.t s8).t s11) (by decide)
                refine WR.kT rfl rfl (vb_t rfl hg5) rfl rfl (OS.lenSl rfl Try.runUnderlying25 rfl o10.isSl ?_)
                obtain ⟨r_5, hr_5, ht1⟩ := bind_some ht1
                refine WR.kT rfl rfl (vb_t rfl hg5) rfl rfl (OS.callF (vs := [vI (plain.length : Int)]) rfl ⟨rfl, trivial⟩ Try.call18 ((W18 K w_9 hr_5).mono ?_))
                rintro _ w_12 ⟨d5, rfl, s12⟩
                refine ⟨_, rfl, ?_⟩
                obtain ⟨c_12, s13⟩ : ∃ c_12, St [] w_9 c_9 w_12 c_12 := ⟨_, s12.merge (fun x => x + 28)⟩
                refine WR.kT rfl rfl (vb_t rfl hg5) rfl rfl (OS.bin (a := vI (r_.1.length : Int)) (b := vI r_5) rfl rfl rfl bI_eql ?_)
                refine WR.k rfl rfl rfl (OS.pickT rfl (vb_t rfl hg5) rfl ?_)
                cases ht1
                refine WR.nil ?_
                exact ⟨_, rfl, s13.mono (by decide)⟩
              · rw [if_neg (nt hg5)] at ht1
                refine WR.gF rfl rfl (vb_f rfl hg5) rfl rfl ?_
                refine WR.gF rfl rfl (vb_f rfl hg5) rfl rfl ?_
                refine WR.gF rfl rfl (vb_f rfl hg5) rfl rfl ?_
                refine WR.gF rfl rfl (vb_f rfl hg5) rfl rfl ?_
                refine WR.gF rfl rfl (vb_f rfl hg5) rfl rfl ?_
                refine WR.gF rfl rfl (vb_f rfl hg5) rfl rfl ?_
                refine WR.k rfl rfl rfl (OS.pickF rfl (vb_f rfl hg5) rfl ?_)
                cases ht1
                refine WR.nil ?_
                exact ⟨_, rfl, St.refl.mono (by decide)⟩
            · rintro f_5 w_11 ⟨c_11, h21, s14⟩
              refine WR.k rfl rfl rfl (OS.assign (v := vB b1) rfl h21 ?_)
              refine WR.nil ?_
              refine WC.ret ?_
              repeat first | refine thenQ_ret ?_ | refine blkQ_ret ?_
              cases hp
              exact fnQ.l1 (fn := Try.f5) rfl (.inl ⟨_, rfl, rfl⟩) ⟨_, rfl, (((((s.t s2).t s6).t s8).t s11).t s14).entry (by decide)⟩

-- holdfast/holdfastlaw08.SealHides
set_option maxHeartbeats 4000000 in
theorem W6 (K : Nat) (w0 : World) {key : List UInt8} {once : UInt64} {l1_0 : List UInt8} {l1_1 : List UInt8} {r : Bool} (hp : holdfastlaw08_SealHides K key once l1_0 l1_1 = some r) (hl : key.length = 32) {v_ : Value} (o : Vw E5 0 w0 c0 v_ l1_0) {v_1 : Value} (o1 : Vw E5 0 w0 c0 v_1 l1_1) :
    Calls Try.prog 6 [.agg (fl E5 key).toArray, vU64 once, .agg ([v_, v_1]).toArray].toArray w0 fun e w1 => ∃ (d : Col), e = .returned (vB r) ∧ St [] w0 c0 w1 d := by
  refine calls_intro Try.func6 rfl Try.ntmps6 rfl ?_
  unfold holdfastlaw08_SealHides at hp
  refine WC.seq (WC.region ?_)
  refine WR.k rfl rfl rfl (OS.boxArr (E := E5) (c := c0) 12 rfl rfl ?_); intro p_ w_ c_ o2 s
  refine WR.k rfl rfl rfl (OS.boxBx (us := [v_, v_1]) (c := c_) 13 rfl rfl rfl ?_); intro p_1 w_1 c_1 o3 s1
  refine WR.k rfl rfl rfl (OS.assign (v := vB false) rfl rfl ?_)
  refine WR.nil ?_
  refine WC.seq (WC.region ?_)
  refine WR.k rfl rfl rfl (OS.idxBx rfl Try.runUnderlying26 Try.sizeOf25 rfl o3 rfl (by decide) (by decide) ?_); intro p_2 a1
  refine WR.k rfl rfl rfl (OS.ld1 (u := v_) rfl Try.isAgg25 rfl (o3.ldk a1 rfl) ?_)
  have o4 := o.keep (s.t s1) (by decide)
  refine WR.k rfl rfl rfl (OS.lenSl rfl Try.runUnderlying25 rfl o4.isSl ?_)
  refine WR.k rfl rfl rfl (OS.assign (v := vI (l1_0.length : Int)) rfl rfl ?_)
  refine WR.nil ?_
  refine WC.seq ?_
  refine WC.seq (WC.region ?_)
  refine WR.k rfl rfl rfl (OS.move (v := vI (l1_0.length : Int)) rfl rfl ?_)
  refine WR.k rfl rfl rfl (OS.idxBx rfl Try.runUnderlying26 Try.sizeOf25 rfl o3 rfl (by decide) (by decide) ?_); intro p_3 a2
  refine WR.k rfl rfl rfl (OS.ld1 (u := v_1) rfl Try.isAgg25 rfl (o3.ldk a2 rfl) ?_)
  have o5 := o1.keep (s.t s1) (by decide)
  refine WR.k rfl rfl rfl (OS.lenSl rfl Try.runUnderlying25 rfl o5.isSl ?_)
  refine WR.k rfl rfl rfl (OS.bin (a := vI (l1_0.length : Int)) (b := vI (l1_1.length : Int)) rfl rfl rfl bI_neq ?_)
  refine WR.k rfl rfl rfl (OS.move (v := vB (!decide ((l1_0.length : Int) = (l1_1.length : Int)))) rfl rfl ?_)
  refine WR.cut2 3 (fun f_ w_2 => f_ 1 = vU64 once ∧ f_ 3 = p_ ∧ f_ 5 = p_1 ∧ f_ 7 = vI (l1_0.length : Int) ∧ f_ 24 = vB ((!decide ((l1_0.length : Int) = (l1_1.length : Int))) || (decide ((1024 : Int) < (l1_0.length : Int)))) ∧ w_1 = w_2) ?_ ?_
  · rcases Bool.eq_false_or_eq_true (!decide ((l1_0.length : Int) = (l1_1.length : Int))) with hg | hg
    · refine WR.gF rfl rfl (vb_t rfl hg) rfl rfl ?_
      refine WR.gF rfl rfl (vb_t rfl hg) rfl rfl ?_
      refine WR.k rfl rfl rfl (OS.pickT rfl (vb_t rfl hg) rfl ?_)
      refine WR.nil ?_
      exact ⟨rfl, rfl, rfl, rfl, (or_t hg), rfl⟩
    · refine WR.kT rfl rfl (vb_f rfl hg) rfl rfl (OS.move (v := vI (l1_0.length : Int)) rfl rfl ?_)
      refine WR.kT rfl rfl (vb_f rfl hg) rfl rfl (OS.bin (a := vI (l1_0.length : Int)) (b := vI (1024 : Int)) rfl rfl rfl bI_gtr ?_)
      refine WR.k rfl rfl rfl (OS.pickF rfl (vb_f rfl hg) rfl ?_)
      refine WR.nil ?_
      exact ⟨rfl, rfl, rfl, rfl, (or_f hg), rfl⟩
  · rintro f_ _ ⟨h, h1, h2, h3, h4, rfl⟩
    refine WR.nil ?_
    refine WC.cond ((!decide ((l1_0.length : Int) = (l1_1.length : Int))) || (decide ((1024 : Int) < (l1_0.length : Int)))) h4 (fun hb => ?_) (fun hb => ?_)
    · rw [if_pos hb] at hp
      refine WC.seq (WC.region ?_)
      obtain ⟨r_, hr_, hp⟩ := bind_some hp
      refine WR.k rfl rfl rfl (OS.callF (vs := []) rfl trivial Try.call14 ((W14 K w_1 hr_).mono ?_))
      rintro _ w_3 ⟨d, rfl, s2⟩
      refine ⟨_, rfl, ?_⟩
      obtain ⟨c_3, s3⟩ : ∃ c_3, St [] w_1 c_1 w_3 c_3 := ⟨_, s2.merge (fun x => x + 13)⟩
      refine WR.k rfl rfl rfl (OS.assign (v := vB r_) rfl rfl ?_)
      refine WR.nil ?_
      refine WC.ret ?_
      repeat first | refine thenQ_ret ?_ | refine blkQ_ret ?_
      cases hp
      exact fnQ.l1 (fn := Try.f6) rfl (.inl ⟨_, rfl, rfl⟩) ⟨_, rfl, ((s.t s1).t s3).entry (by decide)⟩
    · rw [if_neg (nt hb)] at hp
      refine WC.skip ?_
      refine WC.seq (WC.region ?_)
      have o6 := o2.keep s1 (by decide)
      refine WR.k rfl rfl rfl (OS.ldN rfl Try.isAgg23 Try.sizeOf23 h1 o6.ldAll (by rw [fl_length, hl]; rfl) ?_)
      refine WR.k rfl rfl rfl (OS.move (v := vU64 once) rfl h ?_)
      refine WR.k rfl rfl rfl (OS.idxBx rfl Try.runUnderlying26 Try.sizeOf25 h2 o3 rfl (by decide) (by decide) ?_); intro p_4 a3
      refine WR.k rfl rfl rfl (OS.ld1 (u := v_) rfl Try.isAgg25 rfl (o3.ldk a3 rfl) ?_)
      obtain ⟨r_1, hr_1, hp⟩ := bind_some hp
      refine WR.k rfl rfl rfl (OS.callF (vs := [.agg (fl E5 key).toArray, vU64 once, v_]) rfl ⟨rfl, rfl, rfl, trivial⟩ Try.call10 ((W10 K w_1 hr_1 hl o4.forget).mono ?_))
      rintro _ w_4 ⟨v_2, d1, rfl, s4, o7⟩
      refine ⟨_, rfl, ?_⟩
      obtain ⟨c_4, s5, o7⟩ : ∃ c_4, St [] w_1 c_1 w_4 c_4 ∧ Ow E5 17 w_4 c_4 v_2 r_1.1 := ⟨_, s4.merge (fun x => x + 15), o7.merge (fun x => x + 15) s4 (by decide)⟩
      refine WR.k rfl rfl rfl (OS.move (v := .tuple #[v_2, vI r_1.2]) rfl rfl ?_)
      refine WR.k rfl rfl rfl (OS.extract rfl rfl rfl ?_)
      refine WR.k rfl rfl rfl (OS.extract rfl rfl rfl ?_)
      refine WR.k rfl rfl rfl (OS.assign (v := v_2) rfl rfl ?_)
      refine WR.k rfl rfl rfl (OS.assign (v := vI r_1.2) rfl rfl ?_)
      refine WR.nil ?_
      refine WC.seq (WC.region ?_)
      have o8 := o6.keep s5 (by decide)
      refine WR.k rfl rfl rfl (OS.ldN rfl Try.isAgg23 Try.sizeOf23 h1 o8.ldAll (by rw [fl_length, hl]; rfl) ?_)
      refine WR.k rfl rfl rfl (OS.move (v := vU64 once) rfl h ?_)
      have o9 := o3.keep s5 (by decide)
      refine WR.k rfl rfl rfl (OS.idxBx rfl Try.runUnderlying26 Try.sizeOf25 h2 o9 rfl (by decide) (by decide) ?_); intro p_5 a4
      refine WR.k rfl rfl rfl (OS.ld1 (u := v_1) rfl Try.isAgg25 rfl (o9.ldk a4 rfl) ?_)
      have o10 := o5.keep s5 (by decide)
      obtain ⟨r_2, hr_2, hp⟩ := bind_some hp
      refine WR.k rfl rfl rfl (OS.callF (vs := [.agg (fl E5 key).toArray, vU64 once, v_1]) rfl ⟨rfl, rfl, rfl, trivial⟩ Try.call10 ((W10 K w_4 hr_2 hl o10.forget).mono ?_))
      rintro _ w_5 ⟨v_3, d2, rfl, s6, o11⟩
      refine ⟨_, rfl, ?_⟩
      obtain ⟨c_5, s7, o11⟩ : ∃ c_5, St [] w_4 c_4 w_5 c_5 ∧ Ow E5 20 w_5 c_5 v_3 r_2.1 := ⟨_, s6.merge (fun x => x + 18), o11.merge (fun x => x + 18) s6 (by decide)⟩
      refine WR.k rfl rfl rfl (OS.move (v := .tuple #[v_3, vI r_2.2]) rfl rfl ?_)
      refine WR.k rfl rfl rfl (OS.extract rfl rfl rfl ?_)
      refine WR.k rfl rfl rfl (OS.extract rfl rfl rfl ?_)
      refine WR.k rfl rfl rfl (OS.assign (v := v_3) rfl rfl ?_)
      refine WR.k rfl rfl rfl (OS.assign (v := vI r_2.2) rfl rfl ?_)
      refine WR.nil ?_
      refine WC.seq ?_
      refine WC.seq (WC.region ?_)
      refine WR.k rfl rfl rfl (OS.move (v := vI r_1.2) rfl rfl ?_)
      refine WR.k rfl rfl rfl (OS.bin (a := vI r_1.2) (b := vI (0 : Int)) rfl rfl rfl bI_neq ?_)
      refine WR.k rfl rfl rfl (OS.move (v := vB (!decide (r_1.2 = (0 : Int)))) rfl rfl ?_)
      refine WR.cut2 3 (fun f_1 w_6 => f_1 5 = p_1 ∧ f_1 7 = vI (l1_0.length : Int) ∧ f_1 8 = v_2 ∧ f_1 10 = v_3 ∧ f_1 47 = vB ((!decide (r_1.2 = (0 : Int))) || (!decide (r_2.2 = (0 : Int)))) ∧ w_5 = w_6) ?_ ?_
      · rcases Bool.eq_false_or_eq_true (!decide (r_1.2 = (0 : Int))) with hg1 | hg1
        · refine WR.gF rfl rfl (vb_t rfl hg1) rfl rfl ?_
          refine WR.gF rfl rfl (vb_t rfl hg1) rfl rfl ?_
          refine WR.k rfl rfl rfl (OS.pickT rfl (vb_t rfl hg1) rfl ?_)
          refine WR.nil ?_
          exact ⟨h2, h3, rfl, rfl, (or_t hg1), rfl⟩
        · refine WR.kT rfl rfl (vb_f rfl hg1) rfl rfl (OS.move (v := vI r_2.2) rfl rfl ?_)
          refine WR.kT rfl rfl (vb_f rfl hg1) rfl rfl (OS.bin (a := vI r_2.2) (b := vI (0 : Int)) rfl rfl rfl bI_neq ?_)
          refine WR.k rfl rfl rfl (OS.pickF rfl (vb_f rfl hg1) rfl ?_)
          refine WR.nil ?_
          exact ⟨h2, h3, rfl, rfl, (or_f hg1), rfl⟩
      · rintro f_1 _ ⟨h5, h6, h7, h8, h9, rfl⟩
        refine WR.k rfl rfl rfl (OS.move (v := vB ((!decide (r_1.2 = (0 : Int))) || (!decide (r_2.2 = (0 : Int))))) rfl h9 ?_)
        refine WR.cut2 6 (fun f_2 w_7 => f_2 5 = p_1 ∧ f_2 7 = vI (l1_0.length : Int) ∧ f_2 8 = v_2 ∧ f_2 10 = v_3 ∧ f_2 54 = vB (((!decide (r_1.2 = (0 : Int))) || (!decide (r_2.2 = (0 : Int)))) || (!decide ((r_1.1.length : Int) = W ((l1_0.length : Int) + (24 : Int))))) ∧ w_5 = w_7) ?_ ?_
        · rcases Bool.eq_false_or_eq_true ((!decide (r_1.2 = (0 : Int))) || (!decide (r_2.2 = (0 : Int)))) with hg2 | hg2
          · refine WR.gF rfl rfl (vb_t rfl hg2) rfl rfl ?_
            refine WR.gF rfl rfl (vb_t rfl hg2) rfl rfl ?_
            refine WR.gF rfl rfl (vb_t rfl hg2) rfl rfl ?_
            refine WR.gF rfl rfl (vb_t rfl hg2) rfl rfl ?_
            refine WR.gF rfl rfl (vb_t rfl hg2) rfl rfl ?_
            refine WR.k rfl rfl rfl (OS.pickT rfl (vb_t rfl hg2) rfl ?_)
            refine WR.nil ?_
            exact ⟨h5, h6, h7, h8, (or_t hg2), rfl⟩
          · refine WR.kT rfl rfl (vb_f rfl hg2) rfl rfl (OS.move (v := v_2) rfl h7 ?_)
            have o12 := o7.keep s7 (by decide)
            refine WR.kT rfl rfl (vb_f rfl hg2) rfl rfl (OS.lenSl rfl Try.runUnderlying25 rfl o12.isSl ?_)
            refine WR.kT rfl rfl (vb_f rfl hg2) rfl rfl (OS.move (v := vI (l1_0.length : Int)) rfl h6 ?_)
            refine WR.kT rfl rfl (vb_f rfl hg2) rfl rfl (OS.bin (a := vI (l1_0.length : Int)) (b := vI (24 : Int)) rfl rfl rfl bI_add ?_)
            refine WR.kT rfl rfl (vb_f rfl hg2) rfl rfl (OS.bin (a := vI (r_1.1.length : Int)) (b := vI (W ((l1_0.length : Int) + (24 : Int)))) rfl rfl rfl bI_neq ?_)
            refine WR.k rfl rfl rfl (OS.pickF rfl (vb_f rfl hg2) rfl ?_)
            refine WR.nil ?_
            exact ⟨h5, h6, h7, h8, (or_f hg2), rfl⟩
        · rintro f_2 _ ⟨h10, h11, h12, h13, h14, rfl⟩
          refine WR.k rfl rfl rfl (OS.move (v := vB (((!decide (r_1.2 = (0 : Int))) || (!decide (r_2.2 = (0 : Int)))) || (!decide ((r_1.1.length : Int) = W ((l1_0.length : Int) + (24 : Int)))))) rfl h14 ?_)
          refine WR.cut2 6 (fun f_3 w_8 => f_3 5 = p_1 ∧ f_3 7 = vI (l1_0.length : Int) ∧ f_3 8 = v_2 ∧ f_3 10 = v_3 ∧ f_3 61 = vB ((((!decide (r_1.2 = (0 : Int))) || (!decide (r_2.2 = (0 : Int)))) || (!decide ((r_1.1.length : Int) = W ((l1_0.length : Int) + (24 : Int))))) || (!decide ((r_2.1.length : Int) = W ((l1_0.length : Int) + (24 : Int))))) ∧ w_5 = w_8) ?_ ?_
          · rcases Bool.eq_false_or_eq_true (((!decide (r_1.2 = (0 : Int))) || (!decide (r_2.2 = (0 : Int)))) || (!decide ((r_1.1.length : Int) = W ((l1_0.length : Int) + (24 : Int))))) with hg3 | hg3
            · refine WR.gF rfl rfl (vb_t rfl hg3) rfl rfl ?_
              refine WR.gF rfl rfl (vb_t rfl hg3) rfl rfl ?_
              refine WR.gF rfl rfl (vb_t rfl hg3) rfl rfl ?_
              refine WR.gF rfl rfl (vb_t rfl hg3) rfl rfl ?_
              refine WR.gF rfl rfl (vb_t rfl hg3) rfl rfl ?_
              refine WR.k rfl rfl rfl (OS.pickT rfl (vb_t rfl hg3) rfl ?_)
              refine WR.nil ?_
              exact ⟨h10, h11, h12, h13, (or_t hg3), rfl⟩
            · refine WR.kT rfl rfl (vb_f rfl hg3) rfl rfl (OS.move (v := v_3) rfl h13 ?_)
              refine WR.kT rfl rfl (vb_f rfl hg3) rfl rfl (OS.lenSl rfl Try.runUnderlying25 rfl o11.isSl ?_)
              refine WR.kT rfl rfl (vb_f rfl hg3) rfl rfl (OS.move (v := vI (l1_0.length : Int)) rfl h11 ?_)
              refine WR.kT rfl rfl (vb_f rfl hg3) rfl rfl (OS.bin (a := vI (l1_0.length : Int)) (b := vI (24 : Int)) rfl rfl rfl bI_add ?_)
              refine WR.kT rfl rfl (vb_f rfl hg3) rfl rfl (OS.bin (a := vI (r_2.1.length : Int)) (b := vI (W ((l1_0.length : Int) + (24 : Int)))) rfl rfl rfl bI_neq ?_)
              refine WR.k rfl rfl rfl (OS.pickF rfl (vb_f rfl hg3) rfl ?_)
              refine WR.nil ?_
              exact ⟨h10, h11, h12, h13, (or_f hg3), rfl⟩
          · rintro f_3 _ ⟨h15, h16, h17, h18, h19, rfl⟩
            refine WR.nil ?_
            refine WC.cond ((((!decide (r_1.2 = (0 : Int))) || (!decide (r_2.2 = (0 : Int)))) || (!decide ((r_1.1.length : Int) = W ((l1_0.length : Int) + (24 : Int))))) || (!decide ((r_2.1.length : Int) = W ((l1_0.length : Int) + (24 : Int))))) h19 (fun hb1 => ?_) (fun hb1 => ?_)
            · rw [if_pos hb1] at hp
              refine WC.seq (WC.region ?_)
              refine WR.k rfl rfl rfl (OS.assign (v := vB false) rfl rfl ?_)
              refine WR.nil ?_
              refine WC.ret ?_
              repeat first | refine thenQ_ret ?_ | refine blkQ_ret ?_
              cases hp
              exact fnQ.l1 (fn := Try.f6) rfl (.inl ⟨_, rfl, rfl⟩) ⟨_, rfl, (((s.t s1).t s5).t s7).entry (by decide)⟩
            · rw [if_neg (nt hb1)] at hp
              refine WC.skip ?_
              refine WC.seq ?_
              refine WC.seq (WC.region ?_)
              refine WR.k rfl rfl rfl (OS.assign (v := vI (0 : Int)) rfl rfl ?_)
              refine WR.nil ?_
              obtain ⟨q, hl1, hp⟩ := bind_some hp
              refine WC.blockJ2 (fun f_4 w_9 => ∃ (c_9 : Col), q = .go () ∧ St [] w_5 c_5 w_9 c_9) ?_ ?_
              · refine WC.loop (fun n => fun f_5 w_10 => ∃ (i : Int) (c_10 : Col), holdfastlaw08_SealHides.l1 n l1_0 r_1 r_2 l1_1 i = some q ∧ f_5 5 = p_1 ∧ f_5 7 = vI (l1_0.length : Int) ∧ f_5 8 = v_2 ∧ f_5 10 = v_3 ∧ f_5 12 = vI i ∧ St [] w_5 c_5 w_10 c_10) K ⟨_, _, hl1, h15, h16, h17, h18, rfl, St.refl.mono (by decide)⟩ ?_
                rintro n f_5 w_10 ⟨i, c_10, hl1, h20, h21, h22, h23, h24, s8⟩
                cases n with
                | zero => exact absurd hl1 (by simp [holdfastlaw08_SealHides.l1])
                | succ k =>
                rw [holdfastlaw08_SealHides.l1] at hl1
                refine WC.seq ?_
                refine WC.seq (WC.region ?_)
                refine WR.k rfl rfl rfl (OS.move (v := vI i) rfl h24 ?_)
                refine WR.k rfl rfl rfl (OS.move (v := vI (l1_0.length : Int)) rfl h21 ?_)
                refine WR.k rfl rfl rfl (OS.bin (a := vI i) (b := vI (l1_0.length : Int)) rfl rfl rfl bI_lss ?_)
                refine WR.nil ?_
                refine WC.cond (decide (i < (l1_0.length : Int))) rfl (fun hb2 => ?_) (fun hb2 => ?_)
                · rw [if_pos hb2] at hl1
                  refine WC.skip ?_
                  refine WC.seq ?_
                  refine WC.block ?_
                  have o13 := o7.keep (s7.t s8) (by decide)
                  obtain ⟨e, he, hl1⟩ := bind_some hl1
                  obtain ⟨ha, hb3, hc⟩ := gt_some he
                  have o14 := o11.keep s8 (by decide)
                  obtain ⟨e1, he1, hl1⟩ := bind_some hl1
                  obtain ⟨ha1, hb4, hc1⟩ := gt_some he1
                  have o15 := o9.keep (s7.t s8) (by decide)
                  have o16 := o4.keep ((s5.t s7).t s8) (by decide)
                  obtain ⟨e2, he2, hl1⟩ := bind_some hl1
                  obtain ⟨ha2, hb5, hc2⟩ := gt_some he2
                  have o17 := o10.keep (s7.t s8) (by decide)
                  obtain ⟨e3, he3, hl1⟩ := bind_some hl1
                  obtain ⟨ha3, hb6, hc3⟩ := gt_some he3
                  refine WC.seq (WC.draw (c := c_10) ⟨22, [[1], [1], [1], [1], [1], [1], [1], [1], [1], [1], [1], [1], [1], [1], [1], [1], [1], [1], [1], [1], [1], [1]], [[], [], [], [], [], [], [], [], [], [], [], [], [], [], [], [], [], [], [], [], [], []], [], [[], [], [1], [0, 2], [3], [], [], [6], [5, 7], [8], [4, 9], [], [11], [], [12, 13], [14], [], [16], [], [17, 18], [19], [15, 20]], [10, 21]⟩ [fun v w c => v = v_2, fun v w c => v = vI i, fun v w c => v = vI (W ((8 : Int) + i)), fun v w c => Adr v_2 (W ((8 : Int) + i)).toNat 1 v, fun v w c => v = vU8 e, fun v w c => v = v_3, fun v w c => v = vI i, fun v w c => v = vI (W ((8 : Int) + i)), fun v w c => Adr v_3 (W ((8 : Int) + i)).toNat 1 v, fun v w c => v = vU8 e1, fun v w c => v = vU8 (e ^^^ e1), fun v w c => AdrP p_1 (0 : Int).toNat 1 v, fun v w c => v = v_, fun v w c => v = vI i, fun v w c => Adr v_ (i).toNat 1 v, fun v w c => v = vU8 e2, fun v w c => AdrP p_1 (1 : Int).toNat 1 v, fun v w c => v = v_1, fun v w c => v = vI i, fun v w c => Adr v_1 (i).toNat 1 v, fun v w c => v = vU8 e3, fun v w c => v = vU8 (e2 ^^^ e3)] hmix (by kernel_rfl) (by kernel_rfl) ⟨?_, ?_, ?_, ?_, ?_, ?_, ?_, ?_, ?_, ?_, ?_, ?_, ?_, ?_, ?_, ?_, ?_, ?_, ?_, ?_, ?_, ?_, trivial⟩ ⟨fun _ _ _ _ _ _ h _ _ => h, fun _ _ _ _ _ _ h _ _ => h, fun _ _ _ _ _ _ h _ _ => h, fun _ _ _ _ _ _ h _ _ => h, fun _ _ _ _ _ _ h _ _ => h, fun _ _ _ _ _ _ h _ _ => h, fun _ _ _ _ _ _ h _ _ => h, fun _ _ _ _ _ _ h _ _ => h, fun _ _ _ _ _ _ h _ _ => h, fun _ _ _ _ _ _ h _ _ => h, fun _ _ _ _ _ _ h _ _ => h, fun _ _ _ _ _ _ h _ _ => h, fun _ _ _ _ _ _ h _ _ => h, fun _ _ _ _ _ _ h _ _ => h, fun _ _ _ _ _ _ h _ _ => h, fun _ _ _ _ _ _ h _ _ => h, fun _ _ _ _ _ _ h _ _ => h, fun _ _ _ _ _ _ h _ _ => h, fun _ _ _ _ _ _ h _ _ => h, fun _ _ _ _ _ _ h _ _ => h, fun _ _ _ _ _ _ h _ _ => h, fun _ _ _ _ _ _ h _ _ => h, trivial⟩ ?_)
                  · rintro f_6 w_11 c_11 hB hs1 ⟨-⟩ o ho; obtain rfl : _ = o := Option.some.inj ho
                    exact OS.move (v := v_2) rfl ((hB 8 (by kernel_rfl)).trans h22) ⟨_, St.refl, rfl⟩
                  · rintro f_7 w_12 c_12 hB1 hs2 ⟨-⟩ o ho; obtain rfl : _ = o := Option.some.inj ho
                    exact OS.move (v := vI i) rfl ((hB1 12 (by kernel_rfl)).trans h24) ⟨_, St.refl, rfl⟩
                  · rintro f_8 w_13 c_13 hB2 hs3 ⟨g, -⟩ o ho; obtain rfl : _ = o := Option.some.inj ho
                    replace g : (f_8 68) = vI i := g
                    exact OS.bin (a := vI (8 : Int)) (b := vI i) rfl rfl g bI_add ⟨_, St.refl, rfl⟩
                  · rintro f_9 w_14 c_14 hB3 hs4 ⟨g1, g2, -⟩ o ho; obtain rfl : _ = o := Option.some.inj ho
                    replace g1 : (f_9 67) = v_2 := g1
                    replace g2 : (f_9 69) = vI (W ((8 : Int) + i)) := g2
                    have o18 := o7.keep ((s7.t s8).t hs4) (by decide)
                    exact OS.idx rfl Try.runUnderlying25 Try.sizeOf5 g1 o18.isSl g2 ha hb3 (fun _ h => ⟨_, St.refl, h⟩)
                  · rintro f_10 w_15 c_15 hB4 hs5 ⟨g3, -⟩ o ho; obtain rfl : _ = o := Option.some.inj ho
                    replace g3 : Adr v_2 (W ((8 : Int) + i)).toNat 1 (f_10 70) := g3
                    have o19 := o7.keep ((s7.t s8).t hs5) (by decide)
                    exact OS.ld1 (u := vU8 e) rfl Try.isAgg5 rfl (o19.ld g3 hc) ⟨_, St.refl, rfl⟩
                  · rintro f_11 w_16 c_16 hB5 hs6 ⟨-⟩ o ho; obtain rfl : _ = o := Option.some.inj ho
                    exact OS.move (v := v_3) rfl ((hB5 10 (by kernel_rfl)).trans h23) ⟨_, St.refl, rfl⟩
                  · rintro f_12 w_17 c_17 hB6 hs7 ⟨-⟩ o ho; obtain rfl : _ = o := Option.some.inj ho
                    exact OS.move (v := vI i) rfl ((hB6 12 (by kernel_rfl)).trans h24) ⟨_, St.refl, rfl⟩
                  · rintro f_13 w_18 c_18 hB7 hs8 ⟨g4, -⟩ o ho; obtain rfl : _ = o := Option.some.inj ho
                    replace g4 : (f_13 73) = vI i := g4
                    exact OS.bin (a := vI (8 : Int)) (b := vI i) rfl rfl g4 bI_add ⟨_, St.refl, rfl⟩
                  · rintro f_14 w_19 c_19 hB8 hs9 ⟨g5, g6, -⟩ o ho; obtain rfl : _ = o := Option.some.inj ho
                    replace g5 : (f_14 72) = v_3 := g5
                    replace g6 : (f_14 74) = vI (W ((8 : Int) + i)) := g6
                    have o20 := o11.keep (s8.t hs9) (by decide)
                    exact OS.idx rfl Try.runUnderlying25 Try.sizeOf5 g5 o20.isSl g6 ha1 hb4 (fun _ h => ⟨_, St.refl, h⟩)
                  · rintro f_15 w_20 c_20 hB9 hs10 ⟨g7, -⟩ o ho; obtain rfl : _ = o := Option.some.inj ho
                    replace g7 : Adr v_3 (W ((8 : Int) + i)).toNat 1 (f_15 75) := g7
                    have o21 := o11.keep (s8.t hs10) (by decide)
                    exact OS.ld1 (u := vU8 e1) rfl Try.isAgg5 rfl (o21.ld g7 hc1) ⟨_, St.refl, rfl⟩
                  · rintro f_16 w_21 c_21 hB10 hs11 ⟨g8, g9, -⟩ o ho; obtain rfl : _ = o := Option.some.inj ho
                    replace g8 : (f_16 71) = vU8 e := g8
                    replace g9 : (f_16 76) = vU8 e1 := g9
                    exact OS.bin (a := vU8 e) (b := vU8 e1) rfl g8 g9 b8_xor ⟨_, St.refl, rfl⟩
                  · rintro f_17 w_22 c_22 hB11 hs12 ⟨-⟩ o ho; obtain rfl : _ = o := Option.some.inj ho
                    have o22 := o9.keep ((s7.t s8).t hs12) (by decide)
                    exact OS.idxBx rfl Try.runUnderlying26 Try.sizeOf25 ((hB11 5 (by kernel_rfl)).trans h20) o22 rfl (by decide) (by decide) (fun _ h => ⟨_, St.refl, h⟩)
                  · rintro f_18 w_23 c_23 hB12 hs13 ⟨g10, -⟩ o ho; obtain rfl : _ = o := Option.some.inj ho
                    replace g10 : AdrP p_1 (0 : Int).toNat 1 (f_18 78) := g10
                    have o23 := o9.keep ((s7.t s8).t hs13) (by decide)
                    exact OS.ld1 (u := v_) rfl Try.isAgg25 rfl (o23.ldk g10 rfl) ⟨_, St.refl, rfl⟩
                  · rintro f_19 w_24 c_24 hB13 hs14 ⟨-⟩ o ho; obtain rfl : _ = o := Option.some.inj ho
                    exact OS.move (v := vI i) rfl ((hB13 12 (by kernel_rfl)).trans h24) ⟨_, St.refl, rfl⟩
                  · rintro f_20 w_25 c_25 hB14 hs15 ⟨g11, g12, -⟩ o ho; obtain rfl : _ = o := Option.some.inj ho
                    replace g11 : (f_20 79) = v_ := g11
                    replace g12 : (f_20 80) = vI i := g12
                    have o24 := o4.keep (((s5.t s7).t s8).t hs15) (by decide)
                    exact OS.idx rfl Try.runUnderlying25 Try.sizeOf5 g11 o24.isSl g12 ha2 hb5 (fun _ h => ⟨_, St.refl, h⟩)
                  · rintro f_21 w_26 c_26 hB15 hs16 ⟨g13, -⟩ o ho; obtain rfl : _ = o := Option.some.inj ho
                    replace g13 : Adr v_ (i).toNat 1 (f_21 81) := g13
                    have o25 := o4.keep (((s5.t s7).t s8).t hs16) (by decide)
                    exact OS.ld1 (u := vU8 e2) rfl Try.isAgg5 rfl (o25.ld g13 hc2) ⟨_, St.refl, rfl⟩
                  · rintro f_22 w_27 c_27 hB16 hs17 ⟨-⟩ o ho; obtain rfl : _ = o := Option.some.inj ho
                    have o26 := o9.keep ((s7.t s8).t hs17) (by decide)
                    exact OS.idxBx rfl Try.runUnderlying26 Try.sizeOf25 ((hB16 5 (by kernel_rfl)).trans h20) o26 rfl (by decide) (by decide) (fun _ h => ⟨_, St.refl, h⟩)
                  · rintro f_23 w_28 c_28 hB17 hs18 ⟨g14, -⟩ o ho; obtain rfl : _ = o := Option.some.inj ho
                    replace g14 : AdrP p_1 (1 : Int).toNat 1 (f_23 83) := g14
                    have o27 := o9.keep ((s7.t s8).t hs18) (by decide)
                    exact OS.ld1 (u := v_1) rfl Try.isAgg25 rfl (o27.ldk g14 rfl) ⟨_, St.refl, rfl⟩
                  · rintro f_24 w_29 c_29 hB18 hs19 ⟨-⟩ o ho; obtain rfl : _ = o := Option.some.inj ho
                    exact OS.move (v := vI i) rfl ((hB18 12 (by kernel_rfl)).trans h24) ⟨_, St.refl, rfl⟩
                  · rintro f_25 w_30 c_30 hB19 hs20 ⟨g15, g16, -⟩ o ho; obtain rfl : _ = o := Option.some.inj ho
                    replace g15 : (f_25 84) = v_1 := g15
                    replace g16 : (f_25 85) = vI i := g16
                    have o28 := o10.keep ((s7.t s8).t hs20) (by decide)
                    exact OS.idx rfl Try.runUnderlying25 Try.sizeOf5 g15 o28.isSl g16 ha3 hb6 (fun _ h => ⟨_, St.refl, h⟩)
                  · rintro f_26 w_31 c_31 hB20 hs21 ⟨g17, -⟩ o ho; obtain rfl : _ = o := Option.some.inj ho
                    replace g17 : Adr v_1 (i).toNat 1 (f_26 86) := g17
                    have o29 := o10.keep ((s7.t s8).t hs21) (by decide)
                    exact OS.ld1 (u := vU8 e3) rfl Try.isAgg5 rfl (o29.ld g17 hc3) ⟨_, St.refl, rfl⟩
                  · rintro f_27 w_32 c_32 hB21 hs22 ⟨g18, g19, -⟩ o ho; obtain rfl : _ = o := Option.some.inj ho
                    replace g18 : (f_27 82) = vU8 e2 := g18
                    replace g19 : (f_27 87) = vU8 e3 := g19
                    exact OS.bin (a := vU8 e2) (b := vU8 e3) rfl g18 g19 b8_xor ⟨_, St.refl, rfl⟩
                  · rintro f_28 w_33 c_33 hB22 hs23 ⟨g20, g21, -⟩
                    have h25 := (hB22 5 (by kernel_rfl)).trans h20
                    have h26 := (hB22 7 (by kernel_rfl)).trans h21
                    have h27 := (hB22 8 (by kernel_rfl)).trans h22
                    have h28 := (hB22 10 (by kernel_rfl)).trans h23
                    have h29 := (hB22 12 (by kernel_rfl)).trans h24
                    replace g20 : (f_28 77) = vU8 (e ^^^ e1) := g20
                    replace g21 : (f_28 88) = vU8 (e2 ^^^ e3) := g21
                    refine WR.k rfl rfl rfl (OS.bin (a := vU8 (e ^^^ e1)) (b := vU8 (e2 ^^^ e3)) rfl g20 g21 b8_neq ?_)
                    refine WR.nil ?_
                    refine WC.cond (!decide (e ^^^ e1 = e2 ^^^ e3)) rfl (fun hb7 => ?_) (fun hb7 => ?_)
                    · rw [if_pos hb7] at hl1
                      refine WC.seq (WC.region ?_)
                      refine WR.k rfl rfl rfl (OS.assign (v := vB false) rfl rfl ?_)
                      refine WR.nil ?_
                      refine WC.ret ?_
                      repeat first | refine thenQ_ret ?_ | refine blkQ_ret ?_
                      cases hl1
                      simp only [lrc] at hp
                      cases hp
                      exact fnQ.l1 (fn := Try.f6) rfl (.inl ⟨_, rfl, rfl⟩) ⟨_, rfl, (((((s.t s1).t s5).t s7).t s8).t hs23).entry (by decide)⟩
                    · rw [if_neg (nt hb7)] at hl1
                      refine WC.skip ?_
                      refine WC.region ?_
                      refine WR.k rfl rfl rfl (OS.move (v := vI i) rfl h29 ?_)
                      refine WR.k rfl rfl rfl (OS.bin (a := vI i) (b := vI (1 : Int)) rfl rfl rfl bI_add ?_)
                      refine WR.k rfl rfl rfl (OS.assign (v := vI (W (i + (1 : Int)))) rfl rfl ?_)
                      refine WR.nil ?_
                      exact ⟨k, by omega, _, _, hl1, h25, h26, h27, h28, rfl, (s8.t hs23).mono (by decide)⟩
                · rw [if_neg (nt hb2)] at hl1
                  refine WC.exit ?_
                  cases hl1
                  exact ⟨_, rfl, s8.mono (by decide)⟩
              · rintro f_4 w_9 ⟨c_9, rfl, s9⟩
                simp only [lrc] at hp
                refine WC.seq (WC.region ?_)
                obtain ⟨r_3, hr_3, hp⟩ := bind_some hp
                refine WR.k rfl rfl rfl (OS.callF (vs := []) rfl trivial Try.call14 ((W14 K w_9 hr_3).mono ?_))
                rintro _ w_34 ⟨d3, rfl, s10⟩
                refine ⟨_, rfl, ?_⟩
                obtain ⟨c_34, s11⟩ : ∃ c_34, St [] w_9 c_9 w_34 c_34 := ⟨_, s10.merge (fun x => x + 24)⟩
                refine WR.k rfl rfl rfl (OS.assign (v := vB r_3) rfl rfl ?_)
                refine WR.nil ?_
                refine WC.ret ?_
                repeat first | refine thenQ_ret ?_ | refine blkQ_ret ?_
                cases hp
                exact fnQ.l1 (fn := Try.f6) rfl (.inl ⟨_, rfl, rfl⟩) ⟨_, rfl, (((((s.t s1).t s5).t s7).t s9).t s11).entry (by decide)⟩

-- holdfast/holdfastref01.Copy
set_option maxHeartbeats 4000000 in
theorem W19 (K : Nat) (w0 : World) {b : List UInt8} {r : (List UInt8)} (hp : holdfastref01_Copy K b = some r) {v_ : Value} (o : Vw E5 0 w0 c0 v_ b) :
    Calls Try.prog 19 [v_].toArray w0 fun e w1 => ∃ (v0 : Value) (d : Col), e = .returned (v0) ∧ St [] w0 c0 w1 d ∧ Ow E5 2 w1 d v0 r := by
  refine calls_intro Try.func19 rfl Try.ntmps19 rfl ?_
  unfold holdfastref01_Copy at hp
  refine WC.seq (WC.region ?_)
  refine WR.k rfl rfl rfl (OS.assign (v := (.slice none 0 0)) rfl rfl ?_)
  refine WR.nil ?_
  refine WC.seq (WC.region ?_)
  refine WR.k rfl rfl rfl (OS.assign (v := (.slice none 0 0)) rfl rfl ?_)
  refine WR.nil ?_
  refine WC.seq (WC.region ?_)
  refine WR.k rfl rfl rfl (OS.move (v := (.slice none 0 0)) rfl rfl ?_)
  refine WR.k rfl rfl rfl (OS.move (v := v_) rfl rfl ?_)
  obtain ⟨xs, hxs, hp⟩ := bind_some hp
  obtain ⟨ha, hxs⟩ := app_some hxs
  refine WR.k rfl rfl rfl (OS.append (E := E5) (c := c0) (i := 12) (xs := ([] : List UInt8)) (ys := b) rfl Try.underlying25 Try.underlying25 (.inl rfl) I5 rfl rfl rfl rfl rfl Ow.nil o.src (lim_bytes (by decide) ha) (lim_max (b := 1) (by decide) ha) ?_); intro v_1 w_ c_ o1 s
  replace o1 : Ow E5 12 w_ c_ v_1 xs := by rw [hxs]; exact o1
  refine WR.k rfl rfl rfl (OS.assign (v := v_1) rfl rfl ?_)
  refine WR.nil ?_
  refine WC.ret ?_
  repeat first | refine thenQ_ret ?_ | refine blkQ_ret ?_
  cases hp
  obtain ⟨c_1, s1, o2⟩ := o1.recol 2
  exact fnQ.l1 (fn := Try.f19) rfl (.inl ⟨_, rfl, rfl⟩) ⟨_, _, rfl, (s.t s1).entry (by decide), o2⟩

-- holdfast/holdfastlaw08.SealTells
set_option maxHeartbeats 4000000 in
theorem W7 (K : Nat) (w0 : World) {key : List UInt8} {plain : List UInt8} {spoil : List UInt8} {r : Bool} (hp : holdfastlaw08_SealTells K key plain spoil = some r) (hl : key.length = 32) {v_ : Value} (o : Vw E5 0 w0 c0 v_ plain) (hl1 : spoil.length = 2) :
    Calls Try.prog 7 [.agg (fl E5 key).toArray, v_, .agg (fl E5 spoil).toArray].toArray w0 fun e w1 => ∃ (d : Col), e = .returned (vB r) ∧ St [] w0 c0 w1 d := by
  refine calls_intro Try.func7 rfl Try.ntmps7 rfl ?_
  unfold holdfastlaw08_SealTells at hp
  refine WC.seq (WC.region ?_)
  refine WR.k rfl rfl rfl (OS.boxArr (E := E5) (c := c0) 12 rfl rfl ?_); intro p_ w_ c_ o1 s
  refine WR.k rfl rfl rfl (OS.boxArr (E := E5) (c := c_) 13 rfl rfl ?_); intro p_1 w_1 c_1 o2 s1
  refine WR.k rfl rfl rfl (OS.assign (v := vB false) rfl rfl ?_)
  refine WR.nil ?_
  refine WC.seq (WC.draw (c := c_1) ⟨5, [[1], [1], [1], [1], [1]], [[], [], [], [], []], [], [[], [0], [], [2], [1]], [3, 4]⟩ [fun v w c => AdrP p_1 ((0 : Int)).toNat 1 v, fun v w c => v = vU8 (spoil.getD 0 0), fun v w c => AdrP p_1 ((1 : Int)).toNat 1 v, fun v w c => v = vU8 (spoil.getD 1 0), fun v w c => v = vU8 (spoil.getD 0 0)] hmix (by kernel_rfl) (by kernel_rfl) ⟨?_, ?_, ?_, ?_, ?_, trivial⟩ ⟨fun _ _ _ _ _ _ h _ _ => h, fun _ _ _ _ _ _ h _ _ => h, fun _ _ _ _ _ _ h _ _ => h, fun _ _ _ _ _ _ h _ _ => h, fun _ _ _ _ _ _ h _ _ => h, trivial⟩ ?_)
  · rintro f_ w_2 c_2 hB hs1 ⟨-⟩ o ho; obtain rfl : _ = o := Option.some.inj ho
    have o3 := o2.keep hs1 (by decide)
    exact OS.idxArr rfl Try.runUnderlying39 Try.sizeOf5 ((hB 5 (by kernel_rfl)).trans rfl) o3 rfl (by decide) (by decide) (fun _ h => ⟨_, St.refl, h⟩)
  · rintro f_1 w_3 c_3 hB1 hs2 ⟨g, -⟩ o ho; obtain rfl : _ = o := Option.some.inj ho
    replace g : AdrP p_1 ((0 : Int)).toNat 1 (f_1 16) := g
    have o4 := o2.keep hs2 (by decide)
    exact OS.ld1 (u := vU8 (spoil.getD 0 0)) rfl Try.isAgg5 rfl (o4.ld g (getD_some (by rw [hl1]; decide))) ⟨_, St.refl, rfl⟩
  · rintro f_2 w_4 c_4 hB2 hs3 ⟨-⟩ o ho; obtain rfl : _ = o := Option.some.inj ho
    have o5 := o2.keep hs3 (by decide)
    exact OS.idxArr rfl Try.runUnderlying39 Try.sizeOf5 ((hB2 5 (by kernel_rfl)).trans rfl) o5 rfl (by decide) (by decide) (fun _ h => ⟨_, St.refl, h⟩)
  · rintro f_3 w_5 c_5 hB3 hs4 ⟨g1, -⟩ o ho; obtain rfl : _ = o := Option.some.inj ho
    replace g1 : AdrP p_1 ((1 : Int)).toNat 1 (f_3 18) := g1
    have o6 := o2.keep hs4 (by decide)
    exact OS.ld1 (u := vU8 (spoil.getD 1 0)) rfl Try.isAgg5 rfl (o6.ld g1 (getD_some (by rw [hl1]; decide))) ⟨_, St.refl, rfl⟩
  · rintro f_4 w_6 c_6 hB4 hs5 ⟨g2, -⟩ o ho; obtain rfl : _ = o := Option.some.inj ho
    replace g2 : (f_4 17) = vU8 (spoil.getD 0 0) := g2
    exact OS.assign (v := vU8 (spoil.getD 0 0)) rfl g2 ⟨_, St.refl, rfl⟩
  · rintro f_5 w_7 c_7 hB5 hs6 ⟨g3, g4, -⟩
    have h := (hB5 1 (by kernel_rfl)).trans (show _ = v_ from rfl)
    have h1 := (hB5 3 (by kernel_rfl)).trans (show _ = p_ from rfl)
    replace g3 : (f_5 19) = vU8 (spoil.getD 1 0) := g3
    replace g4 : (f_5 7) = vU8 (spoil.getD 0 0) := g4
    refine WR.k rfl rfl rfl (OS.assign (v := vU8 (spoil.getD 1 0)) rfl g3 ?_)
    refine WR.nil ?_
    refine WC.seq (WC.region ?_)
    have o7 := o1.keep (s1.t hs6) (by decide)
    refine WR.k rfl rfl rfl (OS.ldN rfl Try.isAgg23 Try.sizeOf23 h1 o7.ldAll (by rw [fl_length, hl]; rfl) ?_)
    refine WR.k rfl rfl rfl (OS.move (v := v_) rfl h ?_)
    have o8 := o.keep ((s.t s1).t hs6) (by decide)
    obtain ⟨r_, hr_, hp⟩ := bind_some hp
    refine WR.k rfl rfl rfl (OS.callF (vs := [.agg (fl E5 key).toArray, vU64 (5 : UInt64), v_]) rfl ⟨rfl, (by kernel_rfl), rfl, trivial⟩ Try.call10 ((W10 K w_7 hr_ hl o8.forget).mono ?_))
    rintro _ w_8 ⟨v_1, d, rfl, s2, o9⟩
    refine ⟨_, rfl, ?_⟩
    obtain ⟨c_8, s3, o9⟩ : ∃ c_8, St [] w_7 c_7 w_8 c_8 ∧ Ow E5 15 w_8 c_8 v_1 r_.1 := ⟨_, s2.merge (fun x => x + 13), o9.merge (fun x => x + 13) s2 (by decide)⟩
    refine WR.k rfl rfl rfl (OS.move (v := .tuple #[v_1, vI r_.2]) rfl rfl ?_)
    refine WR.k rfl rfl rfl (OS.extract rfl rfl rfl ?_)
    refine WR.k rfl rfl rfl (OS.extract rfl rfl rfl ?_)
    refine WR.k rfl rfl rfl (OS.assign (v := v_1) rfl rfl ?_)
    refine WR.k rfl rfl rfl (OS.assign (v := vI r_.2) rfl rfl ?_)
    refine WR.nil ?_
    refine WC.seq ?_
    refine WC.seq (WC.region ?_)
    refine WR.k rfl rfl rfl (OS.move (v := vI r_.2) rfl rfl ?_)
    refine WR.k rfl rfl rfl (OS.bin (a := vI r_.2) (b := vI (0 : Int)) rfl rfl rfl bI_neq ?_)
    refine WR.nil ?_
    refine WC.cond (!decide (r_.2 = (0 : Int))) rfl (fun hb => ?_) (fun hb => ?_)
    · rw [if_pos hb] at hp
      refine WC.seq (WC.region ?_)
      obtain ⟨r_1, hr_1, hp⟩ := bind_some hp
      refine WR.k rfl rfl rfl (OS.callF (vs := []) rfl trivial Try.call14 ((W14 K w_8 hr_1).mono ?_))
      rintro _ w_9 ⟨d1, rfl, s4⟩
      refine ⟨_, rfl, ?_⟩
      obtain ⟨c_9, s5⟩ : ∃ c_9, St [] w_8 c_8 w_9 c_9 := ⟨_, s4.merge (fun x => x + 16)⟩
      refine WR.k rfl rfl rfl (OS.move (v := vB r_1) rfl rfl ?_)
      refine WR.cut2 3 (fun f_6 w_10 => f_6 32 = vB (r_1 && (decide (r_.2 = (6 : Int)))) ∧ w_9 = w_10) ?_ ?_
      · rcases Bool.eq_false_or_eq_true (r_1) with hg | hg
        · refine WR.kT rfl rfl (vb_t rfl hg) rfl rfl (OS.move (v := vI r_.2) rfl rfl ?_)
          refine WR.kT rfl rfl (vb_t rfl hg) rfl rfl (OS.bin (a := vI r_.2) (b := vI (6 : Int)) rfl rfl rfl bI_eql ?_)
          refine WR.k rfl rfl rfl (OS.pickT rfl (vb_t rfl hg) rfl ?_)
          refine WR.nil ?_
          exact ⟨(and_t hg), rfl⟩
        · refine WR.gF rfl rfl (vb_f rfl hg) rfl rfl ?_
          refine WR.gF rfl rfl (vb_f rfl hg) rfl rfl ?_
          refine WR.k rfl rfl rfl (OS.pickF rfl (vb_f rfl hg) rfl ?_)
          refine WR.nil ?_
          exact ⟨(and_f hg), rfl⟩
      · rintro f_6 _ ⟨h2, rfl⟩
        refine WR.k rfl rfl rfl (OS.assign (v := vB (r_1 && (decide (r_.2 = (6 : Int))))) rfl h2 ?_)
        refine WR.nil ?_
        refine WC.ret ?_
        repeat first | refine thenQ_ret ?_ | refine blkQ_ret ?_
        cases hp
        exact fnQ.l1 (fn := Try.f7) rfl (.inl ⟨_, rfl, rfl⟩) ⟨_, rfl, ((((s.t s1).t hs6).t s3).t s5).entry (by decide)⟩
    · rw [if_neg (nt hb)] at hp
      refine WC.skip ?_
      refine WC.seq ?_
      refine WC.seq (WC.region ?_)
      refine WR.k rfl rfl rfl (OS.move (v := v_1) rfl rfl ?_)
      refine WR.k rfl rfl rfl (OS.lenSl rfl Try.runUnderlying25 rfl o9.isSl ?_)
      refine WR.k rfl rfl rfl (OS.bin (a := vI (r_.1.length : Int)) (b := vI (24 : Int)) rfl rfl rfl bI_lss ?_)
      refine WR.nil ?_
      refine WC.cond (decide ((r_.1.length : Int) < (24 : Int))) rfl (fun hb1 => ?_) (fun hb1 => ?_)
      · rw [if_pos hb1] at hp
        refine WC.seq (WC.region ?_)
        refine WR.k rfl rfl rfl (OS.assign (v := vB false) rfl rfl ?_)
        refine WR.nil ?_
        refine WC.ret ?_
        repeat first | refine thenQ_ret ?_ | refine blkQ_ret ?_
        cases hp
        exact fnQ.l1 (fn := Try.f7) rfl (.inl ⟨_, rfl, rfl⟩) ⟨_, rfl, (((s.t s1).t hs6).t s3).entry (by decide)⟩
      · rw [if_neg (nt hb1)] at hp
        refine WC.skip ?_
        refine WC.seq (WC.region ?_)
        refine WR.k rfl rfl rfl (OS.move (v := v_1) rfl rfl ?_)
        obtain ⟨r_2, hr_2, hp⟩ := bind_some hp
        refine WR.k rfl rfl rfl (OS.callF (vs := [v_1]) rfl ⟨rfl, trivial⟩ Try.call19 ((W19 K w_8 hr_2 o9.vw.forget).mono ?_))
        rintro _ w_11 ⟨v_2, d2, rfl, s6, o10⟩
        refine ⟨_, rfl, ?_⟩
        obtain ⟨c_11, s7, o10⟩ : ∃ c_11, St [] w_8 c_8 w_11 c_11 ∧ Ow E5 20 w_11 c_11 v_2 r_2 := ⟨_, s6.merge (fun x => x + 18), o10.merge (fun x => x + 18) s6 (by decide)⟩
        refine WR.k rfl rfl rfl (OS.assign (v := v_2) rfl rfl ?_)
        refine WR.nil ?_
        refine WC.seq (WC.region ?_)
        refine WR.k rfl rfl rfl (OS.move (v := v_2) rfl rfl ?_)
        refine WR.k rfl rfl rfl (OS.move (v := vU8 (spoil.getD 0 0)) rfl g4 ?_)
        refine WR.k rfl rfl rfl (OS.conv rfl Try.runUnderlying5 Try.runUnderlying3 rfl (cv_8i _) ?_)
        refine WR.k rfl rfl rfl (OS.move (v := v_2) rfl rfl ?_)
        refine WR.k rfl rfl rfl (OS.lenSl rfl Try.runUnderlying25 rfl o10.isSl ?_)
        obtain ⟨u, hu, hp⟩ := bind_some hp
        have hz := req_some hu
        refine WR.k rfl rfl rfl (OS.bin (a := vI ((spoil.getD 0 0).toNat : Int)) (b := vI (r_2.length : Int)) rfl rfl rfl (bI_rem hz) ?_)
        obtain ⟨e, he, hp⟩ := bind_some hp
        obtain ⟨ha, hb2, hc⟩ := gt_some he
        refine WR.k rfl rfl rfl (OS.idx rfl Try.runUnderlying25 Try.sizeOf5 rfl o10.isSl rfl ha hb2 ?_); intro p_2 a3
        refine WR.k rfl rfl rfl (OS.ld1 (u := vU8 e) rfl Try.isAgg5 rfl (o10.ld a3 hc) ?_)
        refine WR.k rfl rfl rfl (OS.move (v := vU8 (spoil.getD 1 0)) rfl rfl ?_)
        refine WR.k rfl rfl rfl (OS.bin (a := vU8 e) (b := vU8 (spoil.getD 1 0)) rfl rfl rfl b8_xor ?_)
        obtain ⟨u1, hu1, hp⟩ := bind_some hp
        obtain ⟨ha1, hb3⟩ := req_some hu1
        refine WR.k rfl rfl rfl (OS.idx rfl Try.runUnderlying25 Try.sizeOf5 rfl o10.isSl rfl ha1 hb3 ?_); intro p_3 a4
        obtain ⟨r_3, hr_3, hp⟩ := bind_some hp
        replace hr_3 := (Option.some.inj hr_3).symm
        refine WR.k0 rfl rfl (OS.stOwn (q := e ^^^ (spoil.getD 1 0)) (u := vU8 (e ^^^ (spoil.getD 1 0))) rfl Try.sizeOf5 rfl rfl o10 rfl a4 (by omega) rfl ?_); intro w_12 o11 s8
        replace o11 : Ow E5 20 w_12 c_11 v_2 r_3 := by rw [hr_3]; exact o11
        refine WR.nil ?_
        refine WC.seq (WC.region ?_)
        refine WR.k rfl rfl rfl (OS.move (v := v_2) rfl rfl ?_)
        refine WR.k rfl rfl rfl (OS.lenSl rfl Try.runUnderlying25 rfl o11.isSl ?_)
        refine WR.k rfl rfl rfl (OS.bin (a := vI (r_3.length : Int)) (b := vI (16 : Int)) rfl rfl rfl bI_sub ?_)
        refine WR.k rfl rfl rfl (OS.assign (v := vI (W ((r_3.length : Int) - (16 : Int)))) rfl rfl ?_)
        refine WR.nil ?_
        refine WC.seq (WC.region ?_)
        have o12 := o7.keep ((s3.t s7).t s8) (by decide)
        refine WR.k rfl rfl rfl (OS.ldN rfl Try.isAgg23 Try.sizeOf23 h1 o12.ldAll (by rw [fl_length, hl]; rfl) ?_)
        refine WR.k rfl rfl rfl (OS.move (v := v_2) rfl rfl ?_)
        obtain ⟨r_4, hr_4, hp⟩ := bind_some hp
        refine WR.k rfl rfl rfl (OS.callF (vs := [.agg (fl E5 key).toArray, v_2]) rfl ⟨rfl, rfl, trivial⟩ Try.call12 ((W12 K w_12 hr_4 hl o11.vw.forget).mono ?_))
        rintro _ w_13 ⟨v_3, d3, rfl, s9, o13⟩
        refine ⟨_, rfl, ?_⟩
        obtain ⟨c_12, s10, o13⟩ : ∃ c_12, St [] w_12 c_11 w_13 c_12 ∧ Ow E5 23 w_13 c_12 v_3 r_4.1 := ⟨_, s9.merge (fun x => x + 21), o13.merge (fun x => x + 21) s9 (by decide)⟩
        refine WR.k rfl rfl rfl (OS.move (v := .tuple #[v_3, vU64 r_4.2.1, vI r_4.2.2]) rfl rfl ?_)
        refine WR.k rfl rfl rfl (OS.extract rfl rfl rfl ?_)
        refine WR.k rfl rfl rfl (OS.extract rfl rfl rfl ?_)
        refine WR.k rfl rfl rfl (OS.extract rfl rfl rfl ?_)
        refine WR.k rfl rfl rfl (OS.assign (v := v_3) rfl rfl ?_)
        refine WR.k rfl rfl rfl (OS.assign (v := vU64 r_4.2.1) rfl rfl ?_)
        refine WR.k rfl rfl rfl (OS.assign (v := vI r_4.2.2) rfl rfl ?_)
        refine WR.nil ?_
        refine WC.seq ?_
        have o14 := o12.keep s10 (by decide)
        have o15 := o11.keep s10 (by decide)
        obtain ⟨ys, hys, hp⟩ := bind_some hp
        obtain ⟨ha2, hb4, hc1, hys⟩ := sub_some hys
        obtain ⟨r_5, hr_5, hp⟩ := bind_some hp
        obtain ⟨ys1, hys1, hp⟩ := bind_some hp
        obtain ⟨ha3, hb5, hc2, hys1⟩ := sub_some hys1
        refine WC.seq (WC.draw (c := c_12) ⟨8, [[1], [1], [1], [20], [26], [1], [1], [20]], [[], [], [], [], [], [], [], []], [], [[], [], [], [1, 2], [0, 3], [], [], [5, 6]], [4, 7]⟩ [fun v w c => v = .agg (fl E5 key).toArray, fun v w c => v = v_2, fun v w c => v = vI (W ((r_3.length : Int) - (16 : Int))), fun v w c => Ow E5 20 w c v ys, fun v w c => Ow E5 26 w c v r_5, fun v w c => v = v_2, fun v w c => v = vI (W ((r_3.length : Int) - (16 : Int))), fun v w c => Vw E5 20 w c v ys1] hmix (by kernel_rfl) (by kernel_rfl) ⟨?_, ?_, ?_, ?_, ?_, ?_, ?_, ?_, trivial⟩ ⟨fun _ _ _ _ _ _ h _ _ => h, fun _ _ _ _ _ _ h _ _ => h, fun _ _ _ _ _ _ h _ _ => h, fun _ _ _ _ _ _ h s hk => Ow.keep h s (hk _ (by simp)), fun _ _ _ _ _ _ h s hk => Ow.keep h s (hk _ (by simp)), fun _ _ _ _ _ _ h _ _ => h, fun _ _ _ _ _ _ h _ _ => h, fun _ _ _ _ _ _ h s hk => Vw.keep h s (hk _ (by simp)), trivial⟩ ?_)
        · rintro f_7 w_14 c_13 hB6 hs7 ⟨-⟩ o ho; obtain rfl : _ = o := Option.some.inj ho
          have o16 := o12.keep (s10.t hs7) (by decide)
          exact OS.ldN rfl Try.isAgg23 Try.sizeOf23 ((hB6 3 (by kernel_rfl)).trans h1) o16.ldAll (by rw [fl_length, hl]; rfl) ⟨_, St.refl, rfl⟩
        · rintro f_8 w_15 c_14 hB7 hs8 ⟨-⟩ o ho; obtain rfl : _ = o := Option.some.inj ho
          exact OS.move (v := v_2) rfl ((hB7 11 (by kernel_rfl)).trans rfl) ⟨_, St.refl, rfl⟩
        · rintro f_9 w_16 c_15 hB8 hs9 ⟨-⟩ o ho; obtain rfl : _ = o := Option.some.inj ho
          exact OS.move (v := vI (W ((r_3.length : Int) - (16 : Int)))) rfl ((hB8 12 (by kernel_rfl)).trans rfl) ⟨_, St.refl, rfl⟩
        · rintro f_10 w_17 c_16 hB9 hs10 ⟨g5, g6, -⟩ o ho; obtain rfl : _ = o := Option.some.inj ho
          replace g5 : (f_10 60) = v_2 := g5
          replace g6 : (f_10 61) = vI (W ((r_3.length : Int) - (16 : Int))) := g6
          have o17 := o11.keep (s10.t hs10) (by decide)
          refine OS.sliceOwn rfl Try.underlying25 Try.sizeOf5 g5 o17 (Bd.some g6 (by omega)) (by omega) ?_
          intro v h
          exact ⟨_, St.refl, (show Ow E5 20 w_17 c_16 v ys by rw [hys]; exact h)⟩
        · rintro f_11 w_18 c_17 hB10 hs11 ⟨g7, g8, -⟩ o ho; obtain rfl : _ = o := Option.some.inj ho
          replace g7 : (f_11 59) = .agg (fl E5 key).toArray := g7
          replace g8 : Ow E5 20 w_18 c_17 (f_11 62) ys := g8
          refine OS.callF (vs := [.agg (fl E5 key).toArray, (f_11 62)]) rfl ⟨g7, rfl, trivial⟩ Try.call20 ((W20 K w_18 hr_5 hl g8.vw.forget).mono ?_)
          rintro _ w ⟨v, d, rfl, s, o⟩
          exact ⟨_, rfl, _, s.merge (fun x => x + 24), o.merge (fun x => x + 24) s (by decide)⟩
        · rintro f_12 w_19 c_18 hB11 hs12 ⟨-⟩ o ho; obtain rfl : _ = o := Option.some.inj ho
          exact OS.move (v := v_2) rfl ((hB11 11 (by kernel_rfl)).trans rfl) ⟨_, St.refl, rfl⟩
        · rintro f_13 w_20 c_19 hB12 hs13 ⟨-⟩ o ho; obtain rfl : _ = o := Option.some.inj ho
          exact OS.move (v := vI (W ((r_3.length : Int) - (16 : Int)))) rfl ((hB12 12 (by kernel_rfl)).trans rfl) ⟨_, St.refl, rfl⟩
        · rintro f_14 w_21 c_20 hB13 hs14 ⟨g9, g10, -⟩ o ho; obtain rfl : _ = o := Option.some.inj ho
          replace g9 : (f_14 64) = v_2 := g9
          replace g10 : (f_14 65) = vI (W ((r_3.length : Int) - (16 : Int))) := g10
          have o18 := o11.keep (s10.t hs14) (by decide)
          refine OS.sliceV rfl Try.underlying25 Try.sizeOf5 g9 o18.vw (Bd.some g10 ha3) Bd.none rfl (by omega) (by omega) ?_
          intro v h
          exact ⟨_, St.refl, (show Vw E5 20 w_21 c_20 v ys1 by rw [hys1]; exact h)⟩
        · rintro f_15 w_22 c_21 hB14 hs15 ⟨g11, g12, -⟩
          have h3 := (hB14 13 (by kernel_rfl)).trans (show _ = v_3 from rfl)
          have h4 := (hB14 14 (by kernel_rfl)).trans (show _ = vU64 r_4.2.1 from rfl)
          have h5 := (hB14 15 (by kernel_rfl)).trans (show _ = vI r_4.2.2 from rfl)
          replace g11 : Ow E5 26 w_22 c_21 (f_15 63) r_5 := g11
          replace g12 : Vw E5 20 w_22 c_21 (f_15 66) ys1 := g12
          obtain ⟨r_6, hr_6, hp⟩ := bind_some hp
          refine WR.k rfl rfl rfl (OS.callF (vs := [(f_15 63), (f_15 66)]) rfl ⟨rfl, rfl, trivial⟩ Try.call15 ((W15 K w_22 hr_6 g11.vw.forget g12.forget).mono ?_))
          rintro _ w_23 ⟨d4, rfl, s11⟩
          refine ⟨_, rfl, ?_⟩
          obtain ⟨c_22, s12⟩ : ∃ c_22, St [] w_22 c_21 w_23 c_22 := ⟨_, s11.merge (fun x => x + 28)⟩
          refine WR.nil ?_
          refine WC.cond (r_6) rfl (fun hb6 => ?_) (fun hb6 => ?_)
          · rw [if_pos hb6] at hp
            refine WC.seq (WC.region ?_)
            obtain ⟨r_7, hr_7, hp⟩ := bind_some hp
            refine WR.k rfl rfl rfl (OS.callF (vs := []) rfl trivial Try.call14 ((W14 K w_23 hr_7).mono ?_))
            rintro _ w_24 ⟨d5, rfl, s13⟩
            refine ⟨_, rfl, ?_⟩
            obtain ⟨c_23, s14⟩ : ∃ c_23, St [] w_23 c_22 w_24 c_23 := ⟨_, s13.merge (fun x => x + 30)⟩
            refine WR.k rfl rfl rfl (OS.move (v := vB r_7) rfl rfl ?_)
            refine WR.cut2 3 (fun f_16 w_25 => f_16 72 = vB (r_7 && (decide (r_4.2.2 = (0 : Int)))) ∧ w_24 = w_25) ?_ ?_
            · rcases Bool.eq_false_or_eq_true (r_7) with hg1 | hg1
              · refine WR.kT rfl rfl (vb_t rfl hg1) rfl rfl (OS.move (v := vI r_4.2.2) rfl h5 ?_)
                refine WR.kT rfl rfl (vb_t rfl hg1) rfl rfl (OS.bin (a := vI r_4.2.2) (b := vI (0 : Int)) rfl rfl rfl bI_eql ?_)
                refine WR.k rfl rfl rfl (OS.pickT rfl (vb_t rfl hg1) rfl ?_)
                refine WR.nil ?_
                exact ⟨(and_t hg1), rfl⟩
              · refine WR.gF rfl rfl (vb_f rfl hg1) rfl rfl ?_
                refine WR.gF rfl rfl (vb_f rfl hg1) rfl rfl ?_
                refine WR.k rfl rfl rfl (OS.pickF rfl (vb_f rfl hg1) rfl ?_)
                refine WR.nil ?_
                exact ⟨(and_f hg1), rfl⟩
            · rintro f_16 _ ⟨h6, rfl⟩
              refine WR.k rfl rfl rfl (OS.assign (v := vB (r_7 && (decide (r_4.2.2 = (0 : Int))))) rfl h6 ?_)
              refine WR.nil ?_
              refine WC.ret ?_
              repeat first | refine thenQ_ret ?_ | refine blkQ_ret ?_
              cases hp
              exact fnQ.l1 (fn := Try.f7) rfl (.inl ⟨_, rfl, rfl⟩) ⟨_, rfl, (((((((((s.t s1).t hs6).t s3).t s7).t s8).t s10).t hs15).t s12).t s14).entry (by decide)⟩
          · rw [if_neg (nt hb6)] at hp
            refine WC.skip ?_
            refine WC.seq (WC.region ?_)
            obtain ⟨r_8, hr_8, hp⟩ := bind_some hp
            refine WR.k rfl rfl rfl (OS.callF (vs := []) rfl trivial Try.call14 ((W14 K w_23 hr_8).mono ?_))
            rintro _ w_26 ⟨d6, rfl, s15⟩
            refine ⟨_, rfl, ?_⟩
            obtain ⟨c_25, s16⟩ : ∃ c_25, St [] w_23 c_22 w_26 c_25 := ⟨_, s15.merge (fun x => x + 32)⟩
            refine WR.k rfl rfl rfl (OS.move (v := vB r_8) rfl rfl ?_)
            refine WR.cut2 3 (fun f_17 w_27 => f_17 13 = v_3 ∧ f_17 14 = vU64 r_4.2.1 ∧ f_17 77 = vB (r_8 && (decide (r_4.2.2 = (10 : Int)))) ∧ w_26 = w_27) ?_ ?_
            · rcases Bool.eq_false_or_eq_true (r_8) with hg2 | hg2
              · refine WR.kT rfl rfl (vb_t rfl hg2) rfl rfl (OS.move (v := vI r_4.2.2) rfl h5 ?_)
                refine WR.kT rfl rfl (vb_t rfl hg2) rfl rfl (OS.bin (a := vI r_4.2.2) (b := vI (10 : Int)) rfl rfl rfl bI_eql ?_)
                refine WR.k rfl rfl rfl (OS.pickT rfl (vb_t rfl hg2) rfl ?_)
                refine WR.nil ?_
                exact ⟨h3, h4, (and_t hg2), rfl⟩
              · refine WR.gF rfl rfl (vb_f rfl hg2) rfl rfl ?_
                refine WR.gF rfl rfl (vb_f rfl hg2) rfl rfl ?_
                refine WR.k rfl rfl rfl (OS.pickF rfl (vb_f rfl hg2) rfl ?_)
                refine WR.nil ?_
                exact ⟨h3, h4, (and_f hg2), rfl⟩
            · rintro f_17 _ ⟨h7, h8, h9, rfl⟩
              refine WR.k rfl rfl rfl (OS.move (v := vB (r_8 && (decide (r_4.2.2 = (10 : Int))))) rfl h9 ?_)
              refine WR.cut2 4 (fun f_18 w_28 => f_18 14 = vU64 r_4.2.1 ∧ f_18 82 = vB ((r_8 && (decide (r_4.2.2 = (10 : Int)))) && (decide ((r_4.1.length : Int) = (0 : Int)))) ∧ w_26 = w_28) ?_ ?_
              · rcases Bool.eq_false_or_eq_true (r_8 && (decide (r_4.2.2 = (10 : Int)))) with hg3 | hg3
                · refine WR.kT rfl rfl (vb_t rfl hg3) rfl rfl (OS.move (v := v_3) rfl h7 ?_)
                  have o19 := o13.keep ((hs15.t s12).t s16) (by decide)
                  refine WR.kT rfl rfl (vb_t rfl hg3) rfl rfl (OS.lenSl rfl Try.runUnderlying25 rfl o19.isSl ?_)
                  refine WR.kT rfl rfl (vb_t rfl hg3) rfl rfl (OS.bin (a := vI (r_4.1.length : Int)) (b := vI (0 : Int)) rfl rfl rfl bI_eql ?_)
                  refine WR.k rfl rfl rfl (OS.pickT rfl (vb_t rfl hg3) rfl ?_)
                  refine WR.nil ?_
                  exact ⟨h8, (and_t hg3), rfl⟩
                · refine WR.gF rfl rfl (vb_f rfl hg3) rfl rfl ?_
                  refine WR.gF rfl rfl (vb_f rfl hg3) rfl rfl ?_
                  refine WR.gF rfl rfl (vb_f rfl hg3) rfl rfl ?_
                  refine WR.k rfl rfl rfl (OS.pickF rfl (vb_f rfl hg3) rfl ?_)
                  refine WR.nil ?_
                  exact ⟨h8, (and_f hg3), rfl⟩
              · rintro f_18 _ ⟨h10, h11, rfl⟩
                refine WR.k rfl rfl rfl (OS.move (v := vB ((r_8 && (decide (r_4.2.2 = (10 : Int)))) && (decide ((r_4.1.length : Int) = (0 : Int))))) rfl h11 ?_)
                refine WR.cut2 3 (fun f_19 w_29 => f_19 86 = vB (((r_8 && (decide (r_4.2.2 = (10 : Int)))) && (decide ((r_4.1.length : Int) = (0 : Int)))) && (decide (r_4.2.1 = (0 : UInt64)))) ∧ w_26 = w_29) ?_ ?_
                · rcases Bool.eq_false_or_eq_true ((r_8 && (decide (r_4.2.2 = (10 : Int)))) && (decide ((r_4.1.length : Int) = (0 : Int)))) with hg4 | hg4
                  · refine WR.kT rfl rfl (vb_t rfl hg4) rfl rfl (OS.move (v := vU64 r_4.2.1) rfl h10 ?_)
                    refine WR.kT rfl rfl (vb_t rfl hg4) rfl rfl (OS.bin (a := vU64 r_4.2.1) (b := vU64 (0 : UInt64)) rfl rfl (by kernel_rfl) b64_eql ?_)
                    refine WR.k rfl rfl rfl (OS.pickT rfl (vb_t rfl hg4) rfl ?_)
                    refine WR.nil ?_
                    exact ⟨(and_t hg4), rfl⟩
                  · refine WR.gF rfl rfl (vb_f rfl hg4) rfl rfl ?_
                    refine WR.gF rfl rfl (vb_f rfl hg4) rfl rfl ?_
                    refine WR.k rfl rfl rfl (OS.pickF rfl (vb_f rfl hg4) rfl ?_)
                    refine WR.nil ?_
                    exact ⟨(and_f hg4), rfl⟩
                · rintro f_19 _ ⟨h12, rfl⟩
                  refine WR.k rfl rfl rfl (OS.assign (v := vB (((r_8 && (decide (r_4.2.2 = (10 : Int)))) && (decide ((r_4.1.length : Int) = (0 : Int)))) && (decide (r_4.2.1 = (0 : UInt64))))) rfl h12 ?_)
                  refine WR.nil ?_
                  refine WC.ret ?_
                  repeat first | refine thenQ_ret ?_ | refine blkQ_ret ?_
                  cases hp
                  exact fnQ.l1 (fn := Try.f7) rfl (.inl ⟨_, rfl, rfl⟩) ⟨_, rfl, (((((((((s.t s1).t hs6).t s3).t s7).t s8).t s10).t hs15).t s12).t s16).entry (by decide)⟩

-- holdfast/holdfastlaw08.SealStarts
set_option maxHeartbeats 4000000 in
theorem W8 (K : Nat) (w0 : World) {key : List UInt8} {once : UInt64} {l1 : List UInt16} {r : Bool} (hp : holdfastlaw08_SealStarts K key once l1 = some r) (hl : key.length = 32) (hl1 : l1.length = 2) :
    Calls Try.prog 8 [.agg (fl E5 key).toArray, vU64 once, .agg (fl E43 l1).toArray].toArray w0 fun e w1 => ∃ (d : Col), e = .returned (vB r) ∧ St [] w0 c0 w1 d := by
  refine calls_intro Try.func8 rfl Try.ntmps8 rfl ?_
  unfold holdfastlaw08_SealStarts at hp
  refine WC.seq (WC.region ?_)
  refine WR.k rfl rfl rfl (OS.boxArr (E := E5) (c := c0) 12 rfl rfl ?_); intro p_ w_ c_ o s
  refine WR.k rfl rfl rfl (OS.boxArr (E := E43) (c := c_) 13 rfl rfl ?_); intro p_1 w_1 c_1 o1 s1
  refine WR.k rfl rfl rfl (OS.assign (v := vB false) rfl rfl ?_)
  refine WR.nil ?_
  refine WC.seq (WC.draw (c := c_1) ⟨9, [[1], [1], [1], [1], [1], [1], [1], [1], [1]], [[], [], [], [], [], [], [], [], []], [], [[], [0], [1], [2], [], [4], [5], [6], [3]], [7, 8]⟩ [fun v w c => AdrP p_1 ((0 : Int)).toNat 1 v, fun v w c => v = vU16 (l1.getD 0 0), fun v w c => v = vI ((l1.getD 0 0).toNat : Int), fun v w c => v = vI (((l1.getD 0 0).toNat : Int).tmod (1025 : Int)), fun v w c => AdrP p_1 ((1 : Int)).toNat 1 v, fun v w c => v = vU16 (l1.getD 1 0), fun v w c => v = vI ((l1.getD 1 0).toNat : Int), fun v w c => v = vI (((l1.getD 1 0).toNat : Int).tmod (1025 : Int)), fun v w c => v = vI (((l1.getD 0 0).toNat : Int).tmod (1025 : Int))] hmix (by kernel_rfl) (by kernel_rfl) ⟨?_, ?_, ?_, ?_, ?_, ?_, ?_, ?_, ?_, trivial⟩ ⟨fun _ _ _ _ _ _ h _ _ => h, fun _ _ _ _ _ _ h _ _ => h, fun _ _ _ _ _ _ h _ _ => h, fun _ _ _ _ _ _ h _ _ => h, fun _ _ _ _ _ _ h _ _ => h, fun _ _ _ _ _ _ h _ _ => h, fun _ _ _ _ _ _ h _ _ => h, fun _ _ _ _ _ _ h _ _ => h, fun _ _ _ _ _ _ h _ _ => h, trivial⟩ ?_)
  · rintro f_ w_2 c_2 hB hs1 ⟨-⟩ o ho; obtain rfl : _ = o := Option.some.inj ho
    have o2 := o1.keep hs1 (by decide)
    exact OS.idxArr rfl Try.runUnderlying44 Try.sizeOf43 ((hB 5 (by kernel_rfl)).trans rfl) o2 rfl (by decide) (by decide) (fun _ h => ⟨_, St.refl, h⟩)
  · rintro f_1 w_3 c_3 hB1 hs2 ⟨g, -⟩ o ho; obtain rfl : _ = o := Option.some.inj ho
    replace g : AdrP p_1 ((0 : Int)).toNat 1 (f_1 13) := g
    have o3 := o1.keep hs2 (by decide)
    exact OS.ld1 (u := vU16 (l1.getD 0 0)) rfl Try.isAgg43 rfl (o3.ld g (getD_some (by rw [hl1]; decide))) ⟨_, St.refl, rfl⟩
  · rintro f_2 w_4 c_4 hB2 hs3 ⟨g1, -⟩ o ho; obtain rfl : _ = o := Option.some.inj ho
    replace g1 : (f_2 14) = vU16 (l1.getD 0 0) := g1
    exact OS.conv rfl Try.runUnderlying43 Try.runUnderlying3 g1 (cv_16i _) ⟨_, St.refl, rfl⟩
  · rintro f_3 w_5 c_5 hB3 hs4 ⟨g2, -⟩ o ho; obtain rfl : _ = o := Option.some.inj ho
    replace g2 : (f_3 15) = vI ((l1.getD 0 0).toNat : Int) := g2
    exact OS.bin (a := vI ((l1.getD 0 0).toNat : Int)) (b := vI (1025 : Int)) rfl g2 rfl (bI_rem (by decide)) ⟨_, St.refl, rfl⟩
  · rintro f_4 w_6 c_6 hB4 hs5 ⟨-⟩ o ho; obtain rfl : _ = o := Option.some.inj ho
    have o4 := o1.keep hs5 (by decide)
    exact OS.idxArr rfl Try.runUnderlying44 Try.sizeOf43 ((hB4 5 (by kernel_rfl)).trans rfl) o4 rfl (by decide) (by decide) (fun _ h => ⟨_, St.refl, h⟩)
  · rintro f_5 w_7 c_7 hB5 hs6 ⟨g3, -⟩ o ho; obtain rfl : _ = o := Option.some.inj ho
    replace g3 : AdrP p_1 ((1 : Int)).toNat 1 (f_5 17) := g3
    have o5 := o1.keep hs6 (by decide)
    exact OS.ld1 (u := vU16 (l1.getD 1 0)) rfl Try.isAgg43 rfl (o5.ld g3 (getD_some (by rw [hl1]; decide))) ⟨_, St.refl, rfl⟩
  · rintro f_6 w_8 c_8 hB6 hs7 ⟨g4, -⟩ o ho; obtain rfl : _ = o := Option.some.inj ho
    replace g4 : (f_6 18) = vU16 (l1.getD 1 0) := g4
    exact OS.conv rfl Try.runUnderlying43 Try.runUnderlying3 g4 (cv_16i _) ⟨_, St.refl, rfl⟩
  · rintro f_7 w_9 c_9 hB7 hs8 ⟨g5, -⟩ o ho; obtain rfl : _ = o := Option.some.inj ho
    replace g5 : (f_7 19) = vI ((l1.getD 1 0).toNat : Int) := g5
    exact OS.bin (a := vI ((l1.getD 1 0).toNat : Int)) (b := vI (1025 : Int)) rfl g5 rfl (bI_rem (by decide)) ⟨_, St.refl, rfl⟩
  · rintro f_8 w_10 c_10 hB8 hs9 ⟨g6, -⟩ o ho; obtain rfl : _ = o := Option.some.inj ho
    replace g6 : (f_8 16) = vI (((l1.getD 0 0).toNat : Int).tmod (1025 : Int)) := g6
    exact OS.assign (v := vI (((l1.getD 0 0).toNat : Int).tmod (1025 : Int))) rfl g6 ⟨_, St.refl, rfl⟩
  · rintro f_9 w_11 c_11 hB9 hs10 ⟨g7, g8, -⟩
    have h := (hB9 1 (by kernel_rfl)).trans (show _ = vU64 once from rfl)
    have h1 := (hB9 3 (by kernel_rfl)).trans (show _ = p_ from rfl)
    replace g7 : (f_9 20) = vI (((l1.getD 1 0).toNat : Int).tmod (1025 : Int)) := g7
    replace g8 : (f_9 7) = vI (((l1.getD 0 0).toNat : Int).tmod (1025 : Int)) := g8
    refine WR.k rfl rfl rfl (OS.assign (v := vI (((l1.getD 1 0).toNat : Int).tmod (1025 : Int))) rfl g7 ?_)
    refine WR.nil ?_
    refine WC.seq ?_
    refine WC.seq (WC.region ?_)
    refine WR.k rfl rfl rfl (OS.move (v := vI (((l1.getD 0 0).toNat : Int).tmod (1025 : Int))) rfl g8 ?_)
    refine WR.k rfl rfl rfl (OS.move (v := vI (((l1.getD 1 0).toNat : Int).tmod (1025 : Int))) rfl rfl ?_)
    refine WR.k rfl rfl rfl (OS.bin (a := vI (((l1.getD 0 0).toNat : Int).tmod (1025 : Int))) (b := vI (((l1.getD 1 0).toNat : Int).tmod (1025 : Int))) rfl rfl rfl bI_gtr ?_)
    refine WR.nil ?_
    refine WC.endJ (fun f_10 w_12 => ∃ (m : Int) (n1 : Int), holdfastlaw08_SealStarts.j1 K key once m n1 = some r ∧ f_10 1 = vU64 once ∧ f_10 3 = p_ ∧ f_10 7 = vI m ∧ f_10 8 = vI n1 ∧ w_11 = w_12) ?_ ?_
    · refine WC.cond (decide (((l1.getD 1 0).toNat : Int).tmod (1025 : Int) < ((l1.getD 0 0).toNat : Int).tmod (1025 : Int))) rfl (fun hb => ?_) (fun hb => ?_)
      · rw [if_pos hb] at hp
        refine WC.region ?_
        refine WR.k rfl rfl rfl (OS.move (v := vI (((l1.getD 1 0).toNat : Int).tmod (1025 : Int))) rfl rfl ?_)
        refine WR.k rfl rfl rfl (OS.move (v := vI (((l1.getD 0 0).toNat : Int).tmod (1025 : Int))) rfl g8 ?_)
        refine WR.k rfl rfl rfl (OS.assign (v := vI (((l1.getD 1 0).toNat : Int).tmod (1025 : Int))) rfl rfl ?_)
        refine WR.k rfl rfl rfl (OS.assign (v := vI (((l1.getD 0 0).toNat : Int).tmod (1025 : Int))) rfl rfl ?_)
        refine WR.nil ?_
        exact ⟨_, _, hp, h, h1, rfl, rfl, rfl⟩
      · rw [if_neg (nt hb)] at hp
        refine WC.skip ?_
        exact ⟨_, _, hp, h, h1, g8, rfl, rfl⟩
    · rintro f_10 _ ⟨m, n1, hp, h2, h3, h4, h5, rfl⟩
      unfold holdfastlaw08_SealStarts.j1 at hp
      refine WC.seq (WC.region ?_)
      have o6 := o.keep (s1.t hs10) (by decide)
      refine WR.k rfl rfl rfl (OS.ldN rfl Try.isAgg23 Try.sizeOf23 h3 o6.ldAll (by rw [fl_length, hl]; rfl) ?_)
      refine WR.k rfl rfl rfl (OS.move (v := vU64 once) rfl h2 ?_)
      refine WR.k rfl rfl rfl (OS.move (v := vI m) rfl h4 ?_)
      obtain ⟨r_, hr_, hp⟩ := bind_some hp
      refine WR.k rfl rfl rfl (OS.callF (vs := [.agg (fl E5 key).toArray, vU64 once, vI m]) rfl ⟨rfl, rfl, rfl, trivial⟩ Try.call16 ((W16 K w_11 hr_ hl).mono ?_))
      rintro _ w_13 ⟨v_, d, rfl, s2, o7⟩
      refine ⟨_, rfl, ?_⟩
      obtain ⟨c_13, s3, o7⟩ : ∃ c_13, St [] w_11 c_11 w_13 c_13 ∧ Ow E5 15 w_13 c_13 v_ r_.1 := ⟨_, s2.merge (fun x => x + 13), o7.merge (fun x => x + 13) s2 (by decide)⟩
      refine WR.k rfl rfl rfl (OS.move (v := .tuple #[v_, vI r_.2]) rfl rfl ?_)
      refine WR.k rfl rfl rfl (OS.extract rfl rfl rfl ?_)
      refine WR.k rfl rfl rfl (OS.extract rfl rfl rfl ?_)
      refine WR.k rfl rfl rfl (OS.assign (v := v_) rfl rfl ?_)
      refine WR.k rfl rfl rfl (OS.assign (v := vI r_.2) rfl rfl ?_)
      refine WR.nil ?_
      refine WC.seq (WC.region ?_)
      have o8 := o6.keep s3 (by decide)
      refine WR.k rfl rfl rfl (OS.ldN rfl Try.isAgg23 Try.sizeOf23 h3 o8.ldAll (by rw [fl_length, hl]; rfl) ?_)
      refine WR.k rfl rfl rfl (OS.move (v := vU64 once) rfl h2 ?_)
      refine WR.k rfl rfl rfl (OS.move (v := vI n1) rfl h5 ?_)
      obtain ⟨r_1, hr_1, hp⟩ := bind_some hp
      refine WR.k rfl rfl rfl (OS.callF (vs := [.agg (fl E5 key).toArray, vU64 once, vI n1]) rfl ⟨rfl, rfl, rfl, trivial⟩ Try.call16 ((W16 K w_13 hr_1 hl).mono ?_))
      rintro _ w_14 ⟨v_1, d1, rfl, s4, o9⟩
      refine ⟨_, rfl, ?_⟩
      obtain ⟨c_14, s5, o9⟩ : ∃ c_14, St [] w_13 c_13 w_14 c_14 ∧ Ow E5 18 w_14 c_14 v_1 r_1.1 := ⟨_, s4.merge (fun x => x + 16), o9.merge (fun x => x + 16) s4 (by decide)⟩
      refine WR.k rfl rfl rfl (OS.move (v := .tuple #[v_1, vI r_1.2]) rfl rfl ?_)
      refine WR.k rfl rfl rfl (OS.extract rfl rfl rfl ?_)
      refine WR.k rfl rfl rfl (OS.extract rfl rfl rfl ?_)
      refine WR.k rfl rfl rfl (OS.assign (v := v_1) rfl rfl ?_)
      refine WR.k rfl rfl rfl (OS.assign (v := vI r_1.2) rfl rfl ?_)
      refine WR.nil ?_
      refine WC.seq (WC.region ?_)
      obtain ⟨r_2, hr_2, hp⟩ := bind_some hp
      refine WR.k rfl rfl rfl (OS.callF (vs := []) rfl trivial Try.call14 ((W14 K w_14 hr_2).mono ?_))
      rintro _ w_15 ⟨d2, rfl, s6⟩
      refine ⟨_, rfl, ?_⟩
      obtain ⟨c_15, s7⟩ : ∃ c_15, St [] w_14 c_14 w_15 c_15 := ⟨_, s6.merge (fun x => x + 19)⟩
      refine WR.k rfl rfl rfl (OS.move (v := vB r_2) rfl rfl ?_)
      refine WR.cut2 3 (fun f_11 w_16 => f_11 7 = vI m ∧ f_11 8 = vI n1 ∧ f_11 9 = v_ ∧ f_11 11 = v_1 ∧ f_11 12 = vI r_1.2 ∧ f_11 44 = vB (r_2 && (decide (r_.2 = (0 : Int)))) ∧ w_15 = w_16) ?_ ?_
      · rcases Bool.eq_false_or_eq_true (r_2) with hg | hg
        · refine WR.kT rfl rfl (vb_t rfl hg) rfl rfl (OS.move (v := vI r_.2) rfl rfl ?_)
          refine WR.kT rfl rfl (vb_t rfl hg) rfl rfl (OS.bin (a := vI r_.2) (b := vI (0 : Int)) rfl rfl rfl bI_eql ?_)
          refine WR.k rfl rfl rfl (OS.pickT rfl (vb_t rfl hg) rfl ?_)
          refine WR.nil ?_
          exact ⟨h4, h5, rfl, rfl, rfl, (and_t hg), rfl⟩
        · refine WR.gF rfl rfl (vb_f rfl hg) rfl rfl ?_
          refine WR.gF rfl rfl (vb_f rfl hg) rfl rfl ?_
          refine WR.k rfl rfl rfl (OS.pickF rfl (vb_f rfl hg) rfl ?_)
          refine WR.nil ?_
          exact ⟨h4, h5, rfl, rfl, rfl, (and_f hg), rfl⟩
      · rintro f_11 _ ⟨h6, h7, h8, h9, h10, h11, rfl⟩
        refine WR.k rfl rfl rfl (OS.move (v := vB (r_2 && (decide (r_.2 = (0 : Int))))) rfl h11 ?_)
        refine WR.cut2 3 (fun f_12 w_17 => f_12 7 = vI m ∧ f_12 8 = vI n1 ∧ f_12 9 = v_ ∧ f_12 11 = v_1 ∧ f_12 48 = vB ((r_2 && (decide (r_.2 = (0 : Int)))) && (decide (r_1.2 = (0 : Int)))) ∧ w_15 = w_17) ?_ ?_
        · rcases Bool.eq_false_or_eq_true (r_2 && (decide (r_.2 = (0 : Int)))) with hg1 | hg1
          · refine WR.kT rfl rfl (vb_t rfl hg1) rfl rfl (OS.move (v := vI r_1.2) rfl h10 ?_)
            refine WR.kT rfl rfl (vb_t rfl hg1) rfl rfl (OS.bin (a := vI r_1.2) (b := vI (0 : Int)) rfl rfl rfl bI_eql ?_)
            refine WR.k rfl rfl rfl (OS.pickT rfl (vb_t rfl hg1) rfl ?_)
            refine WR.nil ?_
            exact ⟨h6, h7, h8, h9, (and_t hg1), rfl⟩
          · refine WR.gF rfl rfl (vb_f rfl hg1) rfl rfl ?_
            refine WR.gF rfl rfl (vb_f rfl hg1) rfl rfl ?_
            refine WR.k rfl rfl rfl (OS.pickF rfl (vb_f rfl hg1) rfl ?_)
            refine WR.nil ?_
            exact ⟨h6, h7, h8, h9, (and_f hg1), rfl⟩
        · rintro f_12 _ ⟨h12, h13, h14, h15, h16, rfl⟩
          refine WR.k rfl rfl rfl (OS.move (v := vB ((r_2 && (decide (r_.2 = (0 : Int)))) && (decide (r_1.2 = (0 : Int))))) rfl h16 ?_)
          refine WR.cut2 5 (fun f_13 w_18 => f_13 7 = vI m ∧ f_13 8 = vI n1 ∧ f_13 9 = v_ ∧ f_13 11 = v_1 ∧ f_13 54 = vB (((r_2 && (decide (r_.2 = (0 : Int)))) && (decide (r_1.2 = (0 : Int)))) && (decide ((r_.1.length : Int) = m))) ∧ w_15 = w_18) ?_ ?_
          · rcases Bool.eq_false_or_eq_true ((r_2 && (decide (r_.2 = (0 : Int)))) && (decide (r_1.2 = (0 : Int)))) with hg2 | hg2
            · refine WR.kT rfl rfl (vb_t rfl hg2) rfl rfl (OS.move (v := v_) rfl h14 ?_)
              have o10 := o7.keep (s5.t s7) (by decide)
              refine WR.kT rfl rfl (vb_t rfl hg2) rfl rfl (OS.lenSl rfl Try.runUnderlying25 rfl o10.isSl ?_)
              refine WR.kT rfl rfl (vb_t rfl hg2) rfl rfl (OS.move (v := vI m) rfl h12 ?_)
              refine WR.kT rfl rfl (vb_t rfl hg2) rfl rfl (OS.bin (a := vI (r_.1.length : Int)) (b := vI m) rfl rfl rfl bI_eql ?_)
              refine WR.k rfl rfl rfl (OS.pickT rfl (vb_t rfl hg2) rfl ?_)
              refine WR.nil ?_
              exact ⟨h12, h13, h14, h15, (and_t hg2), rfl⟩
            · refine WR.gF rfl rfl (vb_f rfl hg2) rfl rfl ?_
              refine WR.gF rfl rfl (vb_f rfl hg2) rfl rfl ?_
              refine WR.gF rfl rfl (vb_f rfl hg2) rfl rfl ?_
              refine WR.gF rfl rfl (vb_f rfl hg2) rfl rfl ?_
              refine WR.k rfl rfl rfl (OS.pickF rfl (vb_f rfl hg2) rfl ?_)
              refine WR.nil ?_
              exact ⟨h12, h13, h14, h15, (and_f hg2), rfl⟩
          · rintro f_13 _ ⟨h17, h18, h19, h20, h21, rfl⟩
            refine WR.k rfl rfl rfl (OS.move (v := vB (((r_2 && (decide (r_.2 = (0 : Int)))) && (decide (r_1.2 = (0 : Int)))) && (decide ((r_.1.length : Int) = m)))) rfl h21 ?_)
            refine WR.cut2 5 (fun f_14 w_19 => f_14 7 = vI m ∧ f_14 9 = v_ ∧ f_14 11 = v_1 ∧ f_14 60 = vB ((((r_2 && (decide (r_.2 = (0 : Int)))) && (decide (r_1.2 = (0 : Int)))) && (decide ((r_.1.length : Int) = m))) && (decide ((r_1.1.length : Int) = n1))) ∧ w_15 = w_19) ?_ ?_
            · rcases Bool.eq_false_or_eq_true (((r_2 && (decide (r_.2 = (0 : Int)))) && (decide (r_1.2 = (0 : Int)))) && (decide ((r_.1.length : Int) = m))) with hg3 | hg3
              · refine WR.kT rfl rfl (vb_t rfl hg3) rfl rfl (OS.move (v := v_1) rfl h20 ?_)
                have o11 := o9.keep s7 (by decide)
                refine WR.kT rfl rfl (vb_t rfl hg3) rfl rfl (OS.lenSl rfl Try.runUnderlying25 rfl o11.isSl ?_)
                refine WR.kT rfl rfl (vb_t rfl hg3) rfl rfl (OS.move (v := vI n1) rfl h18 ?_)
                refine WR.kT rfl rfl (vb_t rfl hg3) rfl rfl (OS.bin (a := vI (r_1.1.length : Int)) (b := vI n1) rfl rfl rfl bI_eql ?_)
                refine WR.k rfl rfl rfl (OS.pickT rfl (vb_t rfl hg3) rfl ?_)
                refine WR.nil ?_
                exact ⟨h17, h19, h20, (and_t hg3), rfl⟩
              · refine WR.gF rfl rfl (vb_f rfl hg3) rfl rfl ?_
                refine WR.gF rfl rfl (vb_f rfl hg3) rfl rfl ?_
                refine WR.gF rfl rfl (vb_f rfl hg3) rfl rfl ?_
                refine WR.gF rfl rfl (vb_f rfl hg3) rfl rfl ?_
                refine WR.k rfl rfl rfl (OS.pickF rfl (vb_f rfl hg3) rfl ?_)
                refine WR.nil ?_
                exact ⟨h17, h19, h20, (and_f hg3), rfl⟩
            · rintro f_14 _ ⟨h22, h23, h24, h25, rfl⟩
              refine WR.k rfl rfl rfl (OS.move (v := vB ((((r_2 && (decide (r_.2 = (0 : Int)))) && (decide (r_1.2 = (0 : Int)))) && (decide ((r_.1.length : Int) = m))) && (decide ((r_1.1.length : Int) = n1)))) rfl h25 ?_)
              obtain ⟨b, ht, hp⟩ := bind_some hp
              refine WR.cut2 6 (fun f_15 w_20 => ∃ (c_20 : Col), f_15 67 = vB b ∧ St [] w_15 c_15 w_20 c_20) ?_ ?_
              · rcases Bool.eq_false_or_eq_true ((((r_2 && (decide (r_.2 = (0 : Int)))) && (decide (r_1.2 = (0 : Int)))) && (decide ((r_.1.length : Int) = m))) && (decide ((r_1.1.length : Int) = n1))) with hg4 | hg4
                · rw [if_pos hg4] at ht
                  refine WR.kT rfl rfl (vb_t rfl hg4) rfl rfl (OS.move (v := v_) rfl h23 ?_)
                  refine WR.kT rfl rfl (vb_t rfl hg4) rfl rfl (OS.move (v := v_1) rfl h24 ?_)
                  refine WR.kT rfl rfl (vb_t rfl hg4) rfl rfl (OS.move (v := vI m) rfl h22 ?_)
                  have o12 := o9.keep s7 (by decide)
                  obtain ⟨ys, hys, ht⟩ := bind_some ht
                  obtain ⟨ha, hb1, hc, hys⟩ := sub_some hys
                  refine WR.kT rfl rfl (vb_t rfl hg4) rfl rfl (OS.sliceOwn rfl Try.underlying25 Try.sizeOf5 rfl o12 (Bd.some rfl (by omega)) (by omega) ?_); intro v_2 y
                  replace y : Ow E5 18 w_15 c_15 v_2 ys := by rw [hys]; exact y
                  have o13 := o7.keep (s5.t s7) (by decide)
                  obtain ⟨r_3, hr_3, ht⟩ := bind_some ht
                  refine WR.kT rfl rfl (vb_t rfl hg4) rfl rfl (OS.callF (vs := [v_, v_2]) rfl ⟨rfl, rfl, trivial⟩ Try.call15 ((W15 K w_15 hr_3 o13.vw.forget y.vw.forget).mono ?_))
                  rintro _ w_21 ⟨d3, rfl, s8⟩
                  refine ⟨_, rfl, ?_⟩
                  obtain ⟨c_21, s9⟩ : ∃ c_21, St [] w_15 c_15 w_21 c_21 := ⟨_, s8.merge (fun x => x + 23)⟩
                  refine WR.k rfl rfl rfl (OS.pickT rfl (vb_t rfl hg4) rfl ?_)
                  cases ht
                  refine WR.nil ?_
                  exact ⟨_, rfl, s9.mono (by decide)⟩
                · rw [if_neg (nt hg4)] at ht
                  refine WR.gF rfl rfl (vb_f rfl hg4) rfl rfl ?_
                  refine WR.gF rfl rfl (vb_f rfl hg4) rfl rfl ?_
                  refine WR.gF rfl rfl (vb_f rfl hg4) rfl rfl ?_
                  refine WR.gF rfl rfl (vb_f rfl hg4) rfl rfl ?_
                  refine WR.gF rfl rfl (vb_f rfl hg4) rfl rfl ?_
                  refine WR.k rfl rfl rfl (OS.pickF rfl (vb_f rfl hg4) rfl ?_)
                  cases ht
                  refine WR.nil ?_
                  exact ⟨_, rfl, St.refl.mono (by decide)⟩
              · rintro f_15 w_20 ⟨c_20, h26, s10⟩
                refine WR.k rfl rfl rfl (OS.assign (v := vB b) rfl h26 ?_)
                refine WR.nil ?_
                refine WC.ret ?_
                repeat first | refine thenQ_ret ?_ | refine blkQ_ret ?_
                cases hp
                exact fnQ.l1 (fn := Try.f8) rfl (.inl ⟨_, rfl, rfl⟩) ⟨_, rfl, ((((((s.t s1).t hs10).t s3).t s5).t s7).t s10).entry (by decide)⟩

-- holdfast/holdfastlaw08.SealNumber
set_option maxHeartbeats 4000000 in
theorem W9 (K : Nat) (w0 : World) {key : List UInt8} {once : UInt64} {plain : List UInt8} {r : Bool} (hp : holdfastlaw08_SealNumber K key once plain = some r) (hl : key.length = 32) {v_ : Value} (o : Vw E5 0 w0 c0 v_ plain) :
    Calls Try.prog 9 [.agg (fl E5 key).toArray, vU64 once, v_].toArray w0 fun e w1 => ∃ (d : Col), e = .returned (vB r) ∧ St [] w0 c0 w1 d := by
  refine calls_intro Try.func9 rfl Try.ntmps9 rfl ?_
  unfold holdfastlaw08_SealNumber at hp
  refine WC.seq (WC.region ?_)
  refine WR.k rfl rfl rfl (OS.boxArr (E := E5) (c := c0) 12 rfl rfl ?_); intro p_ w_ c_ o1 s
  refine WR.k rfl rfl rfl (OS.assign (v := vB false) rfl rfl ?_)
  refine WR.nil ?_
  refine WC.seq (WC.region ?_)
  refine WR.k rfl rfl rfl (OS.move (v := v_) rfl rfl ?_)
  have o2 := o.keep s (by decide)
  obtain ⟨r_, hr_, hp⟩ := bind_some hp
  refine WR.k rfl rfl rfl (OS.callF (vs := [v_]) rfl ⟨rfl, trivial⟩ Try.call19 ((W19 K w_ hr_ o2.forget).mono ?_))
  rintro _ w_1 ⟨v_1, d, rfl, s1, o3⟩
  refine ⟨_, rfl, ?_⟩
  obtain ⟨c_1, s2, o3⟩ : ∃ c_1, St [] w_ c_ w_1 c_1 ∧ Ow E5 14 w_1 c_1 v_1 r_ := ⟨_, s1.merge (fun x => x + 12), o3.merge (fun x => x + 12) s1 (by decide)⟩
  refine WR.k rfl rfl rfl (OS.assign (v := v_1) rfl rfl ?_)
  refine WR.nil ?_
  refine WC.seq (WC.region ?_)
  have o4 := o1.keep s2 (by decide)
  refine WR.k rfl rfl rfl (OS.ldN rfl Try.isAgg23 Try.sizeOf23 rfl o4.ldAll (by rw [fl_length, hl]; rfl) ?_)
  refine WR.k rfl rfl rfl (OS.move (v := vU64 once) rfl rfl ?_)
  refine WR.k rfl rfl rfl (OS.move (v := v_1) rfl rfl ?_)
  obtain ⟨r_1, hr_1, hp⟩ := bind_some hp
  refine WR.k rfl rfl rfl (OS.callF (vs := [.agg (fl E5 key).toArray, vU64 once, v_1]) rfl ⟨rfl, rfl, rfl, trivial⟩ Try.call10 ((W10 K w_1 hr_1 hl o3.vw.forget).mono ?_))
  rintro _ w_2 ⟨v_2, d1, rfl, s3, o5⟩
  refine ⟨_, rfl, ?_⟩
  obtain ⟨c_2, s4, o5⟩ : ∃ c_2, St [] w_1 c_1 w_2 c_2 ∧ Ow E5 17 w_2 c_2 v_2 r_1.1 := ⟨_, s3.merge (fun x => x + 15), o5.merge (fun x => x + 15) s3 (by decide)⟩
  refine WR.k rfl rfl rfl (OS.move (v := .tuple #[v_2, vI r_1.2]) rfl rfl ?_)
  refine WR.k rfl rfl rfl (OS.extract rfl rfl rfl ?_)
  refine WR.k rfl rfl rfl (OS.extract rfl rfl rfl ?_)
  refine WR.k rfl rfl rfl (OS.assign (v := v_2) rfl rfl ?_)
  refine WR.k rfl rfl rfl (OS.assign (v := vI r_1.2) rfl rfl ?_)
  refine WR.nil ?_
  refine WC.seq ?_
  refine WC.seq (WC.region ?_)
  refine WR.k rfl rfl rfl (OS.move (v := vI r_1.2) rfl rfl ?_)
  refine WR.k rfl rfl rfl (OS.bin (a := vI r_1.2) (b := vI (0 : Int)) rfl rfl rfl bI_neq ?_)
  refine WR.nil ?_
  refine WC.cond (!decide (r_1.2 = (0 : Int))) rfl (fun hb => ?_) (fun hb => ?_)
  · rw [if_pos hb] at hp
    refine WC.seq (WC.region ?_)
    obtain ⟨r_2, hr_2, hp⟩ := bind_some hp
    refine WR.k rfl rfl rfl (OS.callF (vs := []) rfl trivial Try.call14 ((W14 K w_2 hr_2).mono ?_))
    rintro _ w_3 ⟨d2, rfl, s5⟩
    refine ⟨_, rfl, ?_⟩
    obtain ⟨c_3, s6⟩ : ∃ c_3, St [] w_2 c_2 w_3 c_3 := ⟨_, s5.merge (fun x => x + 18)⟩
    refine WR.k rfl rfl rfl (OS.move (v := vB r_2) rfl rfl ?_)
    refine WR.cut2 3 (fun f_ w_4 => f_ 32 = vB (r_2 && (decide (r_1.2 = (6 : Int)))) ∧ w_3 = w_4) ?_ ?_
    · rcases Bool.eq_false_or_eq_true (r_2) with hg | hg
      · refine WR.kT rfl rfl (vb_t rfl hg) rfl rfl (OS.move (v := vI r_1.2) rfl rfl ?_)
        refine WR.kT rfl rfl (vb_t rfl hg) rfl rfl (OS.bin (a := vI r_1.2) (b := vI (6 : Int)) rfl rfl rfl bI_eql ?_)
        refine WR.k rfl rfl rfl (OS.pickT rfl (vb_t rfl hg) rfl ?_)
        refine WR.nil ?_
        exact ⟨(and_t hg), rfl⟩
      · refine WR.gF rfl rfl (vb_f rfl hg) rfl rfl ?_
        refine WR.gF rfl rfl (vb_f rfl hg) rfl rfl ?_
        refine WR.k rfl rfl rfl (OS.pickF rfl (vb_f rfl hg) rfl ?_)
        refine WR.nil ?_
        exact ⟨(and_f hg), rfl⟩
    · rintro f_ _ ⟨h, rfl⟩
      refine WR.k rfl rfl rfl (OS.assign (v := vB (r_2 && (decide (r_1.2 = (6 : Int))))) rfl h ?_)
      refine WR.nil ?_
      refine WC.ret ?_
      repeat first | refine thenQ_ret ?_ | refine blkQ_ret ?_
      cases hp
      exact fnQ.l1 (fn := Try.f9) rfl (.inl ⟨_, rfl, rfl⟩) ⟨_, rfl, (((s.t s2).t s4).t s6).entry (by decide)⟩
  · rw [if_neg (nt hb)] at hp
    refine WC.skip ?_
    refine WC.seq ?_
    refine WC.seq (WC.region ?_)
    refine WR.k rfl rfl rfl (OS.move (v := v_2) rfl rfl ?_)
    refine WR.k rfl rfl rfl (OS.lenSl rfl Try.runUnderlying25 rfl o5.isSl ?_)
    refine WR.k rfl rfl rfl (OS.bin (a := vI (r_1.1.length : Int)) (b := vI (24 : Int)) rfl rfl rfl bI_lss ?_)
    refine WR.nil ?_
    refine WC.cond (decide ((r_1.1.length : Int) < (24 : Int))) rfl (fun hb1 => ?_) (fun hb1 => ?_)
    · rw [if_pos hb1] at hp
      refine WC.seq (WC.region ?_)
      refine WR.k rfl rfl rfl (OS.assign (v := vB false) rfl rfl ?_)
      refine WR.nil ?_
      refine WC.ret ?_
      repeat first | refine thenQ_ret ?_ | refine blkQ_ret ?_
      cases hp
      exact fnQ.l1 (fn := Try.f9) rfl (.inl ⟨_, rfl, rfl⟩) ⟨_, rfl, ((s.t s2).t s4).entry (by decide)⟩
    · rw [if_neg (nt hb1)] at hp
      refine WC.skip ?_
      refine WC.seq (WC.region ?_)
      refine WR.k rfl rfl rfl (OS.assign (v := vU64 (0 : UInt64)) rfl (by kernel_rfl) ?_)
      refine WR.nil ?_
      refine WC.seq ?_
      refine WC.seq (WC.region ?_)
      refine WR.k rfl rfl rfl (OS.assign (v := vI (0 : Int)) rfl rfl ?_)
      refine WR.nil ?_
      obtain ⟨q, hl1, hp⟩ := bind_some hp
      obtain ⟨n2, hx⟩ : ∃ z, z = q := ⟨_, rfl⟩; subst hx
      refine WC.blockJ2 (fun f_1 w_5 => f_1 1 = vU64 once ∧ f_1 2 = v_ ∧ f_1 3 = p_ ∧ f_1 7 = v_1 ∧ f_1 8 = v_2 ∧ f_1 10 = vU64 n2 ∧ w_2 = w_5) ?_ ?_
      · refine WC.loop (fun n => fun f_2 w_6 => ∃ (n1 : UInt64) (i : Int), holdfastlaw08_SealNumber.l1 n r_1 n1 i = some n2 ∧ f_2 1 = vU64 once ∧ f_2 2 = v_ ∧ f_2 3 = p_ ∧ f_2 7 = v_1 ∧ f_2 8 = v_2 ∧ f_2 10 = vU64 n1 ∧ f_2 11 = vI i ∧ w_2 = w_6) K ⟨_, _, hl1, rfl, rfl, rfl, rfl, rfl, rfl, rfl, rfl⟩ ?_
        rintro n f_2 _ ⟨n1, i, hl1, h1, h2, h3, h4, h5, h6, h7, rfl⟩
        cases n with
        | zero => exact absurd hl1 (by simp [holdfastlaw08_SealNumber.l1])
        | succ k =>
        rw [holdfastlaw08_SealNumber.l1] at hl1
        refine WC.seq ?_
        refine WC.seq (WC.region ?_)
        refine WR.k rfl rfl rfl (OS.move (v := vI i) rfl h7 ?_)
        refine WR.k rfl rfl rfl (OS.bin (a := vI i) (b := vI (8 : Int)) rfl rfl rfl bI_lss ?_)
        refine WR.nil ?_
        refine WC.cond (decide (i < (8 : Int))) rfl (fun hb2 => ?_) (fun hb2 => ?_)
        · rw [if_pos hb2] at hl1
          refine WC.skip ?_
          refine WC.seq ?_
          refine WC.block ?_
          refine WC.region ?_
          refine WR.k rfl rfl rfl (OS.move (v := vU64 n1) rfl h6 ?_)
          refine WR.k rfl rfl rfl (OS.bin (a := vU64 n1) (b := vU64 (8 : UInt64)) rfl rfl (by kernel_rfl) (b64_shl (by decide)) ?_)
          refine WR.k rfl rfl rfl (OS.move (v := v_2) rfl h5 ?_)
          refine WR.k rfl rfl rfl (OS.move (v := vI i) rfl h7 ?_)
          obtain ⟨e, he, hl1⟩ := bind_some hl1
          obtain ⟨ha, hb3, hc⟩ := gt_some he
          refine WR.k rfl rfl rfl (OS.idx rfl Try.runUnderlying25 Try.sizeOf5 rfl o5.isSl rfl ha hb3 ?_); intro p_1 a1
          refine WR.k rfl rfl rfl (OS.ld1 (u := vU8 e) rfl Try.isAgg5 rfl (o5.ld a1 hc) ?_)
          refine WR.k rfl rfl rfl (OS.conv rfl Try.runUnderlying5 Try.runUnderlying24 rfl (cv_8_64 _) ?_)
          refine WR.k rfl rfl rfl (OS.bin (a := vU64 (shl64 n1 8)) (b := vU64 e.toUInt64) rfl rfl rfl b64_or ?_)
          refine WR.k rfl rfl rfl (OS.assign (v := vU64 ((shl64 n1 8) ||| e.toUInt64)) rfl rfl ?_)
          refine WR.nil ?_
          refine WC.region ?_
          refine WR.k rfl rfl rfl (OS.move (v := vI i) rfl h7 ?_)
          refine WR.k rfl rfl rfl (OS.bin (a := vI i) (b := vI (1 : Int)) rfl rfl rfl bI_add ?_)
          refine WR.k rfl rfl rfl (OS.assign (v := vI (W (i + (1 : Int)))) rfl rfl ?_)
          refine WR.nil ?_
          exact ⟨k, by omega, _, _, hl1, h1, h2, h3, h4, h5, rfl, rfl, rfl⟩
        · rw [if_neg (nt hb2)] at hl1
          refine WC.exit ?_
          cases hl1
          exact ⟨h1, h2, h3, h4, h5, h6, rfl⟩
      · rintro f_1 _ ⟨h8, h9, h10, h11, h12, h13, rfl⟩
        refine WC.seq (WC.region ?_)
        refine WR.k rfl rfl rfl (OS.move (v := v_2) rfl h12 ?_)
        obtain ⟨r_3, hr_3, hp⟩ := bind_some hp
        refine WR.k rfl rfl rfl (OS.callF (vs := [v_2]) rfl ⟨rfl, trivial⟩ Try.call19 ((W19 K w_2 hr_3 o5.vw.forget).mono ?_))
        rintro _ w_7 ⟨v_3, d3, rfl, s7, o6⟩
        refine ⟨_, rfl, ?_⟩
        obtain ⟨c_7, s8, o6⟩ : ∃ c_7, St [] w_2 c_2 w_7 c_7 ∧ Ow E5 25 w_7 c_7 v_3 r_3 := ⟨_, s7.merge (fun x => x + 23), o6.merge (fun x => x + 23) s7 (by decide)⟩
        refine WR.k rfl rfl rfl (OS.assign (v := v_3) rfl rfl ?_)
        refine WR.nil ?_
        refine WC.seq (WC.region ?_)
        have o7 := o4.keep (s4.t s8) (by decide)
        refine WR.k rfl rfl rfl (OS.ldN rfl Try.isAgg23 Try.sizeOf23 h10 o7.ldAll (by rw [fl_length, hl]; rfl) ?_)
        refine WR.k rfl rfl rfl (OS.move (v := v_2) rfl h12 ?_)
        have o8 := o5.keep s8 (by decide)
        obtain ⟨r_4, hr_4, hp⟩ := bind_some hp
        refine WR.k rfl rfl rfl (OS.callF (vs := [.agg (fl E5 key).toArray, v_2]) rfl ⟨rfl, rfl, trivial⟩ Try.call12 ((W12 K w_7 hr_4 hl o8.vw.forget).mono ?_))
        rintro _ w_8 ⟨v_4, d4, rfl, s9, o9⟩
        refine ⟨_, rfl, ?_⟩
        obtain ⟨c_8, s10, o9⟩ : ∃ c_8, St [] w_7 c_7 w_8 c_8 ∧ Ow E5 28 w_8 c_8 v_4 r_4.1 := ⟨_, s9.merge (fun x => x + 26), o9.merge (fun x => x + 26) s9 (by decide)⟩
        refine WR.k rfl rfl rfl (OS.move (v := .tuple #[v_4, vU64 r_4.2.1, vI r_4.2.2]) rfl rfl ?_)
        refine WR.k rfl rfl rfl (OS.extract rfl rfl rfl ?_)
        refine WR.k rfl rfl rfl (OS.extract rfl rfl rfl ?_)
        refine WR.k rfl rfl rfl (OS.extract rfl rfl rfl ?_)
        refine WR.k rfl rfl rfl (OS.assign (v := v_4) rfl rfl ?_)
        refine WR.k rfl rfl rfl (OS.assign (v := vU64 r_4.2.1) rfl rfl ?_)
        refine WR.k rfl rfl rfl (OS.assign (v := vI r_4.2.2) rfl rfl ?_)
        refine WR.nil ?_
        refine WC.seq ?_
        refine WC.seq (WC.region ?_)
        refine WR.k rfl rfl rfl (OS.assign (v := vI (0 : Int)) rfl rfl ?_)
        refine WR.nil ?_
        obtain ⟨q1, hl2, hp⟩ := bind_some hp
        refine WC.blockJ2 (fun f_3 w_9 => ∃ (c_9 : Col), f_3 1 = vU64 once ∧ f_3 2 = v_ ∧ f_3 7 = v_1 ∧ f_3 8 = v_2 ∧ f_3 10 = vU64 n2 ∧ f_3 12 = v_3 ∧ f_3 15 = vI r_4.2.2 ∧ St [28] w_8 c_8 w_9 c_9) ?_ ?_
        · refine WC.loop (fun n => fun f_4 w_10 => ∃ (p_2 : List UInt8) (i1 : Int) (c_10 : Col), holdfastlaw08_SealNumber.l2 n p_2 i1 = some q1 ∧ f_4 1 = vU64 once ∧ f_4 2 = v_ ∧ f_4 7 = v_1 ∧ f_4 8 = v_2 ∧ f_4 10 = vU64 n2 ∧ f_4 12 = v_3 ∧ f_4 13 = v_4 ∧ Ow E5 28 w_10 c_10 v_4 p_2 ∧ f_4 15 = vI r_4.2.2 ∧ f_4 16 = vI i1 ∧ St [28] w_8 c_8 w_10 c_10) K ⟨_, _, _, hl2, h8, h9, h11, h12, h13, rfl, rfl, o9, rfl, rfl, St.refl.mono (by decide)⟩ ?_
          rintro n f_4 w_10 ⟨p_2, i1, c_10, hl2, h14, h15, h16, h17, h18, h19, h20, o10, h21, h22, s11⟩
          cases n with
          | zero => exact absurd hl2 (by simp [holdfastlaw08_SealNumber.l2])
          | succ k =>
          rw [holdfastlaw08_SealNumber.l2] at hl2
          refine WC.seq ?_
          refine WC.seq (WC.region ?_)
          refine WR.k rfl rfl rfl (OS.move (v := vI i1) rfl h22 ?_)
          refine WR.k rfl rfl rfl (OS.move (v := v_4) rfl h20 ?_)
          refine WR.k rfl rfl rfl (OS.lenSl rfl Try.runUnderlying25 rfl o10.isSl ?_)
          refine WR.k rfl rfl rfl (OS.bin (a := vI i1) (b := vI (p_2.length : Int)) rfl rfl rfl bI_lss ?_)
          refine WR.nil ?_
          refine WC.cond (decide (i1 < (p_2.length : Int))) rfl (fun hb4 => ?_) (fun hb4 => ?_)
          · rw [if_pos hb4] at hl2
            refine WC.skip ?_
            refine WC.seq ?_
            refine WC.block ?_
            refine WC.region ?_
            refine WR.k rfl rfl rfl (OS.move (v := v_4) rfl h20 ?_)
            refine WR.k rfl rfl rfl (OS.move (v := vI i1) rfl h22 ?_)
            obtain ⟨u, hu, hl2⟩ := bind_some hl2
            obtain ⟨ha1, hb5⟩ := req_some hu
            refine WR.k rfl rfl rfl (OS.idx rfl Try.runUnderlying25 Try.sizeOf5 rfl o10.isSl rfl ha1 hb5 ?_); intro p_3 a2
            obtain ⟨p_4, hp_4, hl2⟩ := bind_some hl2
            replace hp_4 := (Option.some.inj hp_4).symm
            refine WR.k0 rfl rfl (OS.stOwn (q := (0 : UInt8)) (u := vU8 (0 : UInt8)) rfl Try.sizeOf5 rfl (by kernel_rfl) o10 rfl a2 (by omega) rfl ?_); intro w_11 o11 s12
            replace o11 : Ow E5 28 w_11 c_10 v_4 p_4 := by rw [hp_4]; exact o11
            refine WR.nil ?_
            refine WC.region ?_
            refine WR.k rfl rfl rfl (OS.move (v := vI i1) rfl h22 ?_)
            refine WR.k rfl rfl rfl (OS.bin (a := vI i1) (b := vI (1 : Int)) rfl rfl rfl bI_add ?_)
            refine WR.k rfl rfl rfl (OS.assign (v := vI (W (i1 + (1 : Int)))) rfl rfl ?_)
            refine WR.nil ?_
            exact ⟨k, by omega, _, _, _, hl2, h14, h15, h16, h17, h18, h19, h20, o11, h21, rfl, (s11.t s12).mono (by decide)⟩
          · rw [if_neg (nt hb4)] at hl2
            refine WC.exit ?_
            cases hl2
            exact ⟨_, h14, h15, h16, h17, h18, h19, h21, s11.mono (by decide)⟩
        · rintro f_3 w_9 ⟨c_9, h23, h24, h25, h26, h27, h28, h29, s13⟩
          refine WC.seq (WC.region ?_)
          obtain ⟨r_5, hr_5, hp⟩ := bind_some hp
          refine WR.k rfl rfl rfl (OS.callF (vs := []) rfl trivial Try.call14 ((W14 K w_9 hr_5).mono ?_))
          rintro _ w_12 ⟨d5, rfl, s14⟩
          refine ⟨_, rfl, ?_⟩
          obtain ⟨c_11, s15⟩ : ∃ c_11, St [] w_9 c_9 w_12 c_11 := ⟨_, s14.merge (fun x => x + 32)⟩
          refine WR.k rfl rfl rfl (OS.move (v := vB r_5) rfl rfl ?_)
          refine WR.cut2 4 (fun f_5 w_13 => f_5 2 = v_ ∧ f_5 7 = v_1 ∧ f_5 8 = v_2 ∧ f_5 12 = v_3 ∧ f_5 15 = vI r_4.2.2 ∧ f_5 71 = vB (r_5 && (decide (n2 = once))) ∧ w_12 = w_13) ?_ ?_
          · rcases Bool.eq_false_or_eq_true (r_5) with hg1 | hg1
            · refine WR.kT rfl rfl (vb_t rfl hg1) rfl rfl (OS.move (v := vU64 n2) rfl h27 ?_)
              refine WR.kT rfl rfl (vb_t rfl hg1) rfl rfl (OS.move (v := vU64 once) rfl h23 ?_)
              refine WR.kT rfl rfl (vb_t rfl hg1) rfl rfl (OS.bin (a := vU64 n2) (b := vU64 once) rfl rfl rfl b64_eql ?_)
              refine WR.k rfl rfl rfl (OS.pickT rfl (vb_t rfl hg1) rfl ?_)
              refine WR.nil ?_
              exact ⟨h24, h25, h26, h28, h29, (and_t hg1), rfl⟩
            · refine WR.gF rfl rfl (vb_f rfl hg1) rfl rfl ?_
              refine WR.gF rfl rfl (vb_f rfl hg1) rfl rfl ?_
              refine WR.gF rfl rfl (vb_f rfl hg1) rfl rfl ?_
              refine WR.k rfl rfl rfl (OS.pickF rfl (vb_f rfl hg1) rfl ?_)
              refine WR.nil ?_
              exact ⟨h24, h25, h26, h28, h29, (and_f hg1), rfl⟩
          · rintro f_5 _ ⟨h30, h31, h32, h33, h34, h35, rfl⟩
            refine WR.k rfl rfl rfl (OS.move (v := vB (r_5 && (decide (n2 = once)))) rfl h35 ?_)
            refine WR.cut2 3 (fun f_6 w_14 => f_6 2 = v_ ∧ f_6 7 = v_1 ∧ f_6 8 = v_2 ∧ f_6 12 = v_3 ∧ f_6 75 = vB ((r_5 && (decide (n2 = once))) && (decide (r_4.2.2 = (0 : Int)))) ∧ w_12 = w_14) ?_ ?_
            · rcases Bool.eq_false_or_eq_true (r_5 && (decide (n2 = once))) with hg2 | hg2
              · refine WR.kT rfl rfl (vb_t rfl hg2) rfl rfl (OS.move (v := vI r_4.2.2) rfl h34 ?_)
                refine WR.kT rfl rfl (vb_t rfl hg2) rfl rfl (OS.bin (a := vI r_4.2.2) (b := vI (0 : Int)) rfl rfl rfl bI_eql ?_)
                refine WR.k rfl rfl rfl (OS.pickT rfl (vb_t rfl hg2) rfl ?_)
                refine WR.nil ?_
                exact ⟨h30, h31, h32, h33, (and_t hg2), rfl⟩
              · refine WR.gF rfl rfl (vb_f rfl hg2) rfl rfl ?_
                refine WR.gF rfl rfl (vb_f rfl hg2) rfl rfl ?_
                refine WR.k rfl rfl rfl (OS.pickF rfl (vb_f rfl hg2) rfl ?_)
                refine WR.nil ?_
                exact ⟨h30, h31, h32, h33, (and_f hg2), rfl⟩
            · rintro f_6 _ ⟨h36, h37, h38, h39, h40, rfl⟩
              refine WR.k rfl rfl rfl (OS.move (v := vB ((r_5 && (decide (n2 = once))) && (decide (r_4.2.2 = (0 : Int))))) rfl h40 ?_)
              obtain ⟨b, ht, hp⟩ := bind_some hp
              refine WR.cut2 4 (fun f_7 w_15 => ∃ (c_14 : Col), f_7 8 = v_2 ∧ f_7 12 = v_3 ∧ f_7 80 = vB b ∧ St [] w_12 c_11 w_15 c_14) ?_ ?_
              · rcases Bool.eq_false_or_eq_true ((r_5 && (decide (n2 = once))) && (decide (r_4.2.2 = (0 : Int)))) with hg3 | hg3
                · rw [if_pos hg3] at ht
                  refine WR.kT rfl rfl (vb_t rfl hg3) rfl rfl (OS.move (v := v_1) rfl h37 ?_)
                  refine WR.kT rfl rfl (vb_t rfl hg3) rfl rfl (OS.move (v := v_) rfl h36 ?_)
                  have o12 := o3.keep ((((s4.t s8).t s10).t s13).t s15) (by decide)
                  have o13 := o2.keep (((((s2.t s4).t s8).t s10).t s13).t s15) (by decide)
                  obtain ⟨r_6, hr_6, ht⟩ := bind_some ht
                  refine WR.kT rfl rfl (vb_t rfl hg3) rfl rfl (OS.callF (vs := [v_1, v_]) rfl ⟨rfl, rfl, trivial⟩ Try.call15 ((W15 K w_12 hr_6 o12.vw.forget o13.forget).mono ?_))
                  rintro _ w_16 ⟨d6, rfl, s16⟩
                  refine ⟨_, rfl, ?_⟩
                  obtain ⟨c_15, s17⟩ : ∃ c_15, St [] w_12 c_11 w_16 c_15 := ⟨_, s16.merge (fun x => x + 36)⟩
                  refine WR.k rfl rfl rfl (OS.pickT rfl (vb_t rfl hg3) rfl ?_)
                  cases ht
                  refine WR.nil ?_
                  exact ⟨_, h38, h39, rfl, s17.mono (by decide)⟩
                · rw [if_neg (nt hg3)] at ht
                  refine WR.gF rfl rfl (vb_f rfl hg3) rfl rfl ?_
                  refine WR.gF rfl rfl (vb_f rfl hg3) rfl rfl ?_
                  refine WR.gF rfl rfl (vb_f rfl hg3) rfl rfl ?_
                  refine WR.k rfl rfl rfl (OS.pickF rfl (vb_f rfl hg3) rfl ?_)
                  cases ht
                  refine WR.nil ?_
                  exact ⟨_, h38, h39, rfl, St.refl.mono (by decide)⟩
              · rintro f_7 w_15 ⟨c_14, h41, h42, h43, s18⟩
                refine WR.k rfl rfl rfl (OS.move (v := vB b) rfl h43 ?_)
                obtain ⟨b1, ht1, hp⟩ := bind_some hp
                refine WR.cut2 4 (fun f_8 w_17 => ∃ (c_16 : Col), f_8 85 = vB b1 ∧ St [] w_15 c_14 w_17 c_16) ?_ ?_
                · rcases Bool.eq_false_or_eq_true (b) with hg4 | hg4
                  · rw [if_pos hg4] at ht1
                    refine WR.kT rfl rfl (vb_t rfl hg4) rfl rfl (OS.move (v := v_2) rfl h41 ?_)
                    refine WR.kT rfl rfl (vb_t rfl hg4) rfl rfl (OS.move (v := v_3) rfl h42 ?_)
                    have o14 := o8.keep (((s10.t s13).t s15).t s18) (by decide)
                    have o15 := o6.keep (((s10.t s13).t s15).t s18) (by decide)
                    obtain ⟨r_7, hr_7, ht1⟩ := bind_some ht1
                    refine WR.kT rfl rfl (vb_t rfl hg4) rfl rfl (OS.callF (vs := [v_2, v_3]) rfl ⟨rfl, rfl, trivial⟩ Try.call15 ((W15 K w_15 hr_7 o14.vw.forget o15.vw.forget).mono ?_))
                    rintro _ w_18 ⟨d7, rfl, s19⟩
                    refine ⟨_, rfl, ?_⟩
                    obtain ⟨c_17, s20⟩ : ∃ c_17, St [] w_15 c_14 w_18 c_17 := ⟨_, s19.merge (fun x => x + 40)⟩
                    refine WR.k rfl rfl rfl (OS.pickT rfl (vb_t rfl hg4) rfl ?_)
                    cases ht1
                    refine WR.nil ?_
                    exact ⟨_, rfl, s20.mono (by decide)⟩
                  · rw [if_neg (nt hg4)] at ht1
                    refine WR.gF rfl rfl (vb_f rfl hg4) rfl rfl ?_
                    refine WR.gF rfl rfl (vb_f rfl hg4) rfl rfl ?_
                    refine WR.gF rfl rfl (vb_f rfl hg4) rfl rfl ?_
                    refine WR.k rfl rfl rfl (OS.pickF rfl (vb_f rfl hg4) rfl ?_)
                    cases ht1
                    refine WR.nil ?_
                    exact ⟨_, rfl, St.refl.mono (by decide)⟩
                · rintro f_8 w_17 ⟨c_16, h44, s21⟩
                  refine WR.k rfl rfl rfl (OS.assign (v := vB b1) rfl h44 ?_)
                  refine WR.nil ?_
                  refine WC.ret ?_
                  repeat first | refine thenQ_ret ?_ | refine blkQ_ret ?_
                  cases hp
                  exact fnQ.l1 (fn := Try.f9) rfl (.inl ⟨_, rfl, rfl⟩) ⟨_, rfl, ((((((((s.t s2).t s4).t s8).t s10).t s13).t s15).t s18).t s21).entry (by decide)⟩
end Go.Proofs.Ytbbenllkjpomdaa
