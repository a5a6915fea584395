import Derived.Test.YtjgbakieogadfabGreatDoorTypes
import Derived.Test.YtjgbakieogadfabGreatDoorPure
namespace Go.Proofs.YtjgbakieogadfabGreatDoor
open Go Go.Proofs L
set_option linter.unusedVariables false

-- strings.Trim
theorem W55 (K : Nat) (w0 : World) (cw : Col) (hcw : ∀ b, cw b < 40) {s cut : List UInt8} {r : List UInt8} (hp : strings_Trim K s cut = some r) :
    Calls Tryz.prog 55 [vS s, vS cut].toArray w0 fun e w1 => ∃ (d : Col), e = .returned (vS r) ∧ St [] w0 cw w1 d := by
  unfold strings_Trim at hp
  split at hp
  · rename_i h; obtain ⟨h1, h2, h3⟩ := h
    cases hp
    refine (Any.strings_Trim_laid Tryz.lays55 (by kernel_rfl) ⟨s.toArray⟩ ⟨cut.toArray⟩ w0 h2 h3 (ascii_of_all h1)).mono ?_
    rintro e w1 ⟨he, hb⟩
    exact ⟨cw, he, St.of_below hb⟩
  · cases hp

-- holdfast/codec.IsName
set_option maxHeartbeats 4000000 in
theorem W34 (K : Nat) (w0 : World) (cw : Col) (hcw : ∀ b, cw b < 40) {s : List UInt8} {r : Bool} (hp : codec_IsName K s = some r) :
    Calls Tryz.prog 34 [vS s].toArray w0 fun e w1 => ∃ (d : Col), e = .returned (vB r) ∧ St [] w0 cw w1 d := by
  refine calls_intro Tryz.func34 rfl Tryz.ntmps34 rfl ?_
  unfold codec_IsName at hp
  refine WC.seq (WC.region ?_)
  refine WR.k rfl rfl rfl (OS.assign (v := vB false) rfl rfl ?_)
  refine WR.nil ?_
  refine WC.seq (WC.region ?_)
  refine WR.k rfl rfl rfl (OS.move (v := vS s) rfl rfl ?_)
  refine WR.k rfl rfl rfl (OS.bin (a := vS s) (b := vS ([] : List UInt8)) rfl rfl rfl bS_neq ?_)
  refine WR.k rfl rfl rfl (OS.move (v := vB (!decide (s = ([] : List UInt8)))) rfl rfl ?_)
  refine WR.cut2 4 (fun f_ w_ => f_ 0 = vS s ∧ f_ 9 = vB ((!decide (s = ([] : List UInt8))) && (decide ((s.length : Int) ≤ (9 : Int)))) ∧ w0 = w_) ?_ ?_
  · rcases Bool.eq_false_or_eq_true (!decide (s = ([] : List UInt8))) with hg | hg
    · refine WR.kT rfl rfl (vb_t rfl hg) rfl rfl (OS.move (v := vS s) rfl rfl ?_)
      refine WR.kT rfl rfl (vb_t rfl hg) rfl rfl (OS.lenS rfl Tryz.runUnderlying9 rfl ?_)
      refine WR.kT rfl rfl (vb_t rfl hg) rfl rfl (OS.bin (a := vI (s.length : Int)) (b := vI (9 : Int)) rfl rfl rfl bI_leq ?_)
      refine WR.k rfl rfl rfl (OS.pickT rfl (vb_t rfl hg) rfl ?_)
      refine WR.nil ?_
      exact ⟨rfl, (and_t hg), rfl⟩
    · refine WR.gF rfl rfl (vb_f rfl hg) rfl rfl ?_
      refine WR.gF rfl rfl (vb_f rfl hg) rfl rfl ?_
      refine WR.gF rfl rfl (vb_f rfl hg) rfl rfl ?_
      refine WR.k rfl rfl rfl (OS.pickF rfl (vb_f rfl hg) rfl ?_)
      refine WR.nil ?_
      exact ⟨rfl, (and_f hg), rfl⟩
  · rintro f_ _ ⟨h, h1, rfl⟩
    refine WR.k rfl rfl rfl (OS.move (v := vB ((!decide (s = ([] : List UInt8))) && (decide ((s.length : Int) ≤ (9 : Int))))) rfl h1 ?_)
    obtain ⟨b, ht, hp⟩ := bind_some hp
    refine WR.cut2 4 (fun f_1 w_1 => ∃ (c_1 : Col), f_1 14 = vB b ∧ St [] w0 cw w_1 c_1) ?_ ?_
    · rcases Bool.eq_false_or_eq_true ((!decide (s = ([] : List UInt8))) && (decide ((s.length : Int) ≤ (9 : Int)))) with hg1 | hg1
      · rw [if_pos hg1] at ht
        refine WR.kT rfl rfl (vb_t rfl hg1) rfl rfl (OS.move (v := vS s) rfl h ?_)
        obtain ⟨r_, hr_, ht⟩ := bind_some ht
        refine WR.kT rfl rfl (vb_t rfl hg1) rfl rfl (OS.callF (vs := [vS s, vS ([97, 98, 99, 100, 101, 102, 103, 104, 105, 106, 107, 108, 109, 110, 111, 112, 113, 114, 115, 116, 117, 118, 119, 120, 121, 122, 48, 49, 50, 51, 52, 53, 54, 55, 56, 57, 45] : List UInt8)]) rfl ⟨rfl, rfl, trivial⟩ Tryz.call55 ((W55 K w0 (rcc [] cw) (rcc_lt cw rfl) hr_).mono ?_))
        rintro _ w_2 ⟨d1, rfl, s1⟩
        refine ⟨_, rfl, ?_⟩
        obtain ⟨c_2, s2⟩ : ∃ c_2, St [] w0 cw w_2 c_2 := ⟨_, s1.mg2 (sh := 20000) rfl⟩
        refine WR.kT rfl rfl (vb_t rfl hg1) rfl rfl (OS.bin (a := vS r_) (b := vS ([] : List UInt8)) rfl rfl rfl bS_eql ?_)
        refine WR.k rfl rfl rfl (OS.pickT rfl (vb_t rfl hg1) rfl ?_)
        cases ht
        refine WR.nil ?_
        exact ⟨_, rfl, s2.mono (by decide)⟩
      · rw [if_neg (nt hg1)] at ht
        refine WR.gF rfl rfl (vb_f rfl hg1) rfl rfl ?_
        refine WR.gF rfl rfl (vb_f rfl hg1) rfl rfl ?_
        refine WR.gF rfl rfl (vb_f rfl hg1) rfl rfl ?_
        refine WR.k rfl rfl rfl (OS.pickF rfl (vb_f rfl hg1) rfl ?_)
        cases ht
        refine WR.nil ?_
        exact ⟨_, rfl, St.refl.mono (by decide)⟩
    · rintro f_1 w_1 ⟨c_1, h2, s3⟩
      refine WR.k rfl rfl rfl (OS.assign (v := vB b) rfl h2 ?_)
      refine WR.nil ?_
      refine WC.ret ?_
      repeat first | refine thenQ_ret ?_ | refine blkQ_ret ?_
      cases hp
      exact fnQ.l1 (fn := Tryz.f34) rfl (.inl ⟨_, rfl, rfl⟩) ⟨_, rfl, s3.leave hcw (by decide)⟩

-- (*holdfast/keys.Tree).Current
set_option maxHeartbeats 4000000 in
theorem W13 (K : Nat) (w0 : World) (cw : Col) (hcw : ∀ b, cw b < 40) {t : S_keys_Tree} {tenant : List UInt8} {name : List UInt8} {r : Int × Int} (hp : keys_Tree_Current K t tenant name = some r) {b : Nat} {b1 : Nat} {p_ : Value} (o : Bx 3 w0 cw p_ (fa 32 t.root ++ [vI t.sealed, (.map (some b)), (.map (some b1))])) (hl : t.root.length = 32) (o1 : Mp kv9 (VR.flat vv4) 4 w0 cw (.map (some b)) t.gone) (o2 : Mp kv71 (VR.flat vv3) 5 w0 cw (.map (some b1)) t.at_) :
    Calls Tryz.prog 13 [p_, vS tenant, vS name].toArray w0 fun e w1 => ∃ (d : Col), e = .returned (.tuple #[vI r.1, vI r.2]) ∧ St [] w0 cw w1 d := by
  refine calls_intro Tryz.func13 rfl Tryz.ntmps13 rfl ?_
  unfold keys_Tree_Current at hp
  refine WC.seq (WC.region ?_)
  refine WR.k rfl rfl rfl (OS.assign (v := vI (0 : Int)) rfl rfl ?_)
  refine WR.k rfl rfl rfl (OS.assign (v := vI (0 : Int)) rfl rfl ?_)
  refine WR.nil ?_
  refine WC.seq ?_
  refine WC.block ?_
  refine WC.seq (WC.region ?_)
  refine WR.k rfl rfl rfl (OS.move (v := p_) rfl rfl ?_)
  refine WR.k rfl rfl rfl (OS.eqPtrS rfl (.inl ⟨rfl, rfl⟩) Tryz.underlying28 rfl o rfl ?_)
  refine WR.k rfl rfl rfl (OS.assign (v := vB false) rfl rfl ?_)
  refine WR.nil ?_
  refine WC.condF rfl ?_
  refine WC.seq (WC.region ?_)
  refine WR.k rfl rfl rfl (OS.move (v := vS tenant) rfl rfl ?_)
  obtain ⟨r_, hr_, hp⟩ := bind_some hp
  refine WR.k rfl rfl rfl (OS.callF (vs := [vS tenant]) rfl ⟨rfl, trivial⟩ Tryz.call34 ((W34 K w0 (rcc [] cw) (rcc_lt cw rfl) hr_).mono ?_))
  rintro _ w_ ⟨d1, rfl, s⟩
  refine ⟨_, rfl, ?_⟩
  obtain ⟨c_, s1⟩ : ∃ c_, St [] w0 cw w_ c_ := ⟨_, s.mg2 (sh := 10000) rfl⟩
  refine WR.k rfl rfl rfl (OS.not rfl rfl ?_)
  refine WR.k rfl rfl rfl (OS.move (v := vB (!r_)) rfl rfl ?_)
  obtain ⟨b2, ht, hp⟩ := bind_some hp
  refine WR.cut2 4 (fun f_ w_1 => ∃ (c_1 : Col), f_ 0 = p_ ∧ f_ 1 = vS tenant ∧ f_ 2 = vS name ∧ f_ 19 = vB b2 ∧ St [] w_ c_ w_1 c_1) ?_ ?_
  · rcases Bool.eq_false_or_eq_true (!r_) with hg | hg
    · rw [if_pos hg] at ht
      refine WR.gF rfl rfl (vb_t rfl hg) rfl rfl ?_
      refine WR.gF rfl rfl (vb_t rfl hg) rfl rfl ?_
      refine WR.gF rfl rfl (vb_t rfl hg) rfl rfl ?_
      refine WR.k rfl rfl rfl (OS.pickT rfl (vb_t rfl hg) rfl ?_)
      cases ht
      refine WR.nil ?_
      exact ⟨_, rfl, rfl, rfl, rfl, St.refl.mono (by decide)⟩
    · rw [if_neg (nt hg)] at ht
      refine WR.kT rfl rfl (vb_f rfl hg) rfl rfl (OS.move (v := vS name) rfl rfl ?_)
      obtain ⟨r_1, hr_1, ht⟩ := bind_some ht
      refine WR.kT rfl rfl (vb_f rfl hg) rfl rfl (OS.callF (vs := [vS name]) rfl ⟨rfl, trivial⟩ Tryz.call34 ((W34 K w_ (rcc [] c_) (rcc_lt c_ rfl) hr_1).mono ?_))
      rintro _ w_2 ⟨d2, rfl, s2⟩
      refine ⟨_, rfl, ?_⟩
      obtain ⟨c_2, s3⟩ : ∃ c_2, St [] w_ c_ w_2 c_2 := ⟨_, s2.mg2 (sh := 30000) rfl⟩
      refine WR.kT rfl rfl (vb_f rfl hg) rfl rfl (OS.not rfl rfl ?_)
      refine WR.k rfl rfl rfl (OS.pickF rfl (vb_f rfl hg) rfl ?_)
      cases ht
      refine WR.nil ?_
      exact ⟨_, rfl, rfl, rfl, rfl, s3.mono (by decide)⟩
  · rintro f_ w_1 ⟨c_1, h, h1, h2, h3, s4⟩
    refine WR.k rfl rfl rfl (OS.assign (v := vB b2) rfl h3 ?_)
    refine WR.nil ?_
    refine WC.cond (b2) rfl (fun hb => ?_) (fun hb => ?_)
    · rw [if_pos hb] at hp
      refine WC.seq (WC.region ?_)
      refine WR.k rfl rfl rfl (OS.assign (v := vI (0 : Int)) rfl rfl ?_)
      refine WR.k rfl rfl rfl (OS.assign (v := vI (8 : Int)) rfl rfl ?_)
      refine WR.nil ?_
      refine WC.ret ?_
      repeat first | refine thenQ_ret ?_ | refine blkQ_ret ?_
      cases hp
      exact fnQ.ls (fn := Tryz.f13) (rs := [.tmp 6, .tmp 7]) (vs := [vI (0 : Int), vI (8 : Int)]) rfl ⟨(.inl ⟨_, rfl, rfl⟩), (.inl ⟨_, rfl, rfl⟩), trivial⟩ ⟨_, rfl, (s1.t s4).leave hcw (by decide)⟩ (by simp)
    · rw [if_neg (nt hb)] at hp
      refine WC.seq (WC.region ?_)
      refine WR.k rfl rfl rfl (OS.move (v := p_) rfl h ?_)
      have o3 := o.keep (s1.t s4) (by decide)
      refine WR.k rfl rfl rfl (OS.nilCheckBx rfl rfl o3 ?_)
      refine WR.k rfl rfl rfl (OS.fieldAddrBx rfl Tryz.runUnderlying63 rfl Tryz.sizeOf60 rfl rfl o3 ?_); intro p_1 a1
      refine WR.k rfl rfl rfl (OS.ld1 (u := (.map (some b))) rfl Tryz.isAgg60 rfl (o3.ldn a1 (sub_of rfl)) ?_)
      refine WR.k rfl rfl rfl (OS.move (v := vS tenant) rfl h1 ?_)
      have o4 := o1.keep (s1.t s4) (by decide) (by decide)
      refine WR.k rfl rfl rfl (OS.look1 (zv := vB false) (zx := false) (a := tenant) rfl K9 Tryz.underlying60 Tryz.zeroValue4 rfl rfl o4 rfl ?_); rintro _ rfl
      refine WR.k rfl rfl rfl (OS.assign (v := vB ((mget t.gone tenant).getD false)) rfl rfl ?_)
      refine WR.nil ?_
      refine WC.cond (((mget t.gone tenant).getD false)) rfl (fun hb1 => ?_) (fun hb1 => ?_)
      · rw [if_pos hb1] at hp
        refine WC.seq (WC.region ?_)
        refine WR.k rfl rfl rfl (OS.assign (v := vI (0 : Int)) rfl rfl ?_)
        refine WR.k rfl rfl rfl (OS.assign (v := vI (12 : Int)) rfl rfl ?_)
        refine WR.nil ?_
        refine WC.ret ?_
        repeat first | refine thenQ_ret ?_ | refine blkQ_ret ?_
        cases hp
        exact fnQ.ls (fn := Tryz.f13) (rs := [.tmp 6, .tmp 7]) (vs := [vI (0 : Int), vI (12 : Int)]) rfl ⟨(.inl ⟨_, rfl, rfl⟩), (.inl ⟨_, rfl, rfl⟩), trivial⟩ ⟨_, rfl, (s1.t s4).leave hcw (by decide)⟩ (by simp)
      · rw [if_neg (nt hb1)] at hp
        refine WC.skip ?_
        refine WC.seq (WC.region ?_)
        refine WR.k rfl rfl rfl (OS.move (v := p_) rfl h ?_)
        refine WR.k rfl rfl rfl (OS.nilCheckBx rfl rfl o3 ?_)
        refine WR.k rfl rfl rfl (OS.fieldAddrBx rfl Tryz.runUnderlying63 rfl Tryz.sizeOf61 rfl rfl o3 ?_); intro p_2 a2
        refine WR.k rfl rfl rfl (OS.ld1 (u := (.map (some b1))) rfl Tryz.isAgg61 rfl (o3.ldn a2 (sub_of rfl)) ?_)
        refine WR.k rfl rfl rfl (OS.move (v := vS tenant) rfl h1 ?_)
        refine WR.k rfl rfl rfl (OS.move (v := vS name) rfl h2 ?_)
        refine WR.k rfl rfl rfl (OS.build (v := .agg (E71.e (⟨tenant, name⟩ : S_keys_purpose)).toArray) [(0, vS tenant), (1, vS name)] rfl ⟨rfl, rfl, rfl, rfl, trivial⟩ (fun _ => by kernel_rfl) ?_)
        have o5 := o2.keep (s1.t s4) (by decide) (by decide)
        refine WR.k rfl rfl rfl (OS.look1 (zv := vI (0 : Int)) (zx := (0 : Int)) (a := (⟨tenant, name⟩ : S_keys_purpose)) rfl K71 Tryz.underlying61 Tryz.zeroValue3 rfl rfl o5 rfl ?_); rintro _ rfl
        refine WR.k rfl rfl rfl (OS.maxI2 rfl rfl rfl ?_)
        refine WR.k rfl rfl rfl (OS.assign (v := vI (maxI ((mget t.at_ (⟨tenant, name⟩ : S_keys_purpose)).getD (0 : Int)) (1 : Int))) rfl rfl ?_)
        refine WR.k rfl rfl rfl (OS.assign (v := vI (0 : Int)) rfl rfl ?_)
        refine WR.nil ?_
        refine WC.ret ?_
        repeat first | refine thenQ_ret ?_ | refine blkQ_ret ?_
        cases hp
        exact fnQ.ls (fn := Tryz.f13) (rs := [.tmp 6, .tmp 7]) (vs := [vI (maxI ((mget t.at_ (⟨tenant, name⟩ : S_keys_purpose)).getD (0 : Int)) (1 : Int)), vI (0 : Int)]) rfl ⟨(.inl ⟨_, rfl, rfl⟩), (.inl ⟨_, rfl, rfl⟩), trivial⟩ ⟨_, rfl, (s1.t s4).leave hcw (by decide)⟩ (by simp)

-- (*holdfast/keys.Tree).Current
set_option maxHeartbeats 4000000 in
theorem W13n0 (K : Nat) (w0 : World) (cw : Col) (hcw : ∀ b, cw b < 40) {tenant : List UInt8} {name : List UInt8} {r : Int × Int} (hp : keys_Tree_Current_nil0 K tenant name = some r) :
    Calls Tryz.prog 13 [.pointer none, vS tenant, vS name].toArray w0 fun e w1 => ∃ (d : Col), e = .returned (.tuple #[vI r.1, vI r.2]) ∧ St [] w0 cw w1 d := by
  refine calls_intro Tryz.func13 rfl Tryz.ntmps13 rfl ?_
  unfold keys_Tree_Current_nil0 at hp
  refine WC.seq (WC.region ?_)
  refine WR.k rfl rfl rfl (OS.assign (v := vI (0 : Int)) rfl rfl ?_)
  refine WR.k rfl rfl rfl (OS.assign (v := vI (0 : Int)) rfl rfl ?_)
  refine WR.nil ?_
  refine WC.seq ?_
  refine WC.block ?_
  refine WC.seq (WC.region ?_)
  refine WR.k rfl rfl rfl (OS.move (v := .pointer none) rfl rfl ?_)
  refine WR.k rfl rfl rfl (OS.eqPtr (a := none) rfl (.inl ⟨rfl, rfl⟩) Tryz.underlying28 rfl rfl ?_)
  refine WR.k rfl rfl rfl (OS.assign (v := vB true) rfl rfl ?_)
  refine WR.nil ?_
  refine WC.condT rfl ?_
  refine WC.seq (WC.region ?_)
  refine WR.k rfl rfl rfl (OS.assign (v := vI (0 : Int)) rfl rfl ?_)
  refine WR.k rfl rfl rfl (OS.assign (v := vI (1 : Int)) rfl rfl ?_)
  refine WR.nil ?_
  refine WC.ret ?_
  repeat first | refine thenQ_ret ?_ | refine blkQ_ret ?_
  cases hp
  exact fnQ.ls (fn := Tryz.f13) (rs := [.tmp 6, .tmp 7]) (vs := [vI (0 : Int), vI (1 : Int)]) rfl ⟨(.inl ⟨_, rfl, rfl⟩), (.inl ⟨_, rfl, rfl⟩), trivial⟩ ⟨_, rfl, (St.refl.mono (by decide))⟩ (by simp)

-- (*holdfast/keys.Tree).Rotate
set_option maxHeartbeats 4000000 in
theorem W15n0 (K : Nat) (w0 : World) (cw : Col) (hcw : ∀ b, cw b < 40) {tenant : List UInt8} {name : List UInt8} {r : Int × Int} (hp : keys_Tree_Rotate_nil0 K tenant name = some r) :
    Calls Tryz.prog 15 [.pointer none, vS tenant, vS name].toArray w0 fun e w1 => ∃ (d : Col), e = .returned (.tuple #[vI r.1, vI r.2]) ∧ St [] w0 cw w1 d := by
  refine calls_intro Tryz.func15 rfl Tryz.ntmps15 rfl ?_
  unfold keys_Tree_Rotate_nil0 at hp
  refine WC.seq (WC.region ?_)
  refine WR.k rfl rfl rfl (OS.assign (v := vI (0 : Int)) rfl rfl ?_)
  refine WR.k rfl rfl rfl (OS.assign (v := vI (0 : Int)) rfl rfl ?_)
  refine WR.nil ?_
  refine WC.seq (WC.region ?_)
  refine WR.k rfl rfl rfl (OS.move (v := .pointer none) rfl rfl ?_)
  refine WR.k rfl rfl rfl (OS.move (v := vS tenant) rfl rfl ?_)
  refine WR.k rfl rfl rfl (OS.move (v := vS name) rfl rfl ?_)
  obtain ⟨r_, hr_, hp⟩ := bind_some hp
  refine WR.k rfl rfl rfl (OS.callF (vs := [.pointer none, vS tenant, vS name]) rfl ⟨rfl, rfl, rfl, trivial⟩ Tryz.call13 ((W13n0 K w0 (rcc [] cw) (rcc_lt cw rfl) hr_).mono ?_))
  rintro _ w_ ⟨d1, rfl, s⟩
  refine ⟨_, rfl, ?_⟩
  obtain ⟨c_, s1⟩ : ∃ c_, St [] w0 cw w_ c_ := ⟨_, s.mg2 (sh := 10000) rfl⟩
  refine WR.k rfl rfl rfl (OS.move (v := .tuple #[vI r_.1, vI r_.2]) rfl rfl ?_)
  refine WR.k rfl rfl rfl (OS.extract (v := vI r_.1) rfl rfl rfl ?_)
  refine WR.k rfl rfl rfl (OS.extract (v := vI r_.2) rfl rfl rfl ?_)
  refine WR.k rfl rfl rfl (OS.assign (v := vI r_.1) rfl rfl ?_)
  refine WR.k rfl rfl rfl (OS.assign (v := vI r_.2) rfl rfl ?_)
  refine WR.nil ?_
  refine WC.seq ?_
  refine WC.block ?_
  refine WC.seq (WC.region ?_)
  refine WR.k rfl rfl rfl (OS.move (v := vI r_.2) rfl rfl ?_)
  refine WR.k rfl rfl rfl (OS.bin (a := vI r_.2) (b := vI (0 : Int)) rfl rfl rfl bI_neq ?_)
  refine WR.k rfl rfl rfl (OS.assign (v := vB (!decide (r_.2 = (0 : Int)))) rfl rfl ?_)
  refine WR.nil ?_
  refine WC.cond (!decide (r_.2 = (0 : Int))) rfl (fun hb => ?_) (fun hb => ?_)
  · rw [if_pos hb] at hp
    refine WC.seq (WC.region ?_)
    refine WR.k rfl rfl rfl (OS.move (v := vI r_.2) rfl rfl ?_)
    refine WR.k rfl rfl rfl (OS.assign (v := vI (0 : Int)) rfl rfl ?_)
    refine WR.k rfl rfl rfl (OS.assign (v := vI r_.2) rfl rfl ?_)
    refine WR.nil ?_
    refine WC.ret ?_
    repeat first | refine thenQ_ret ?_ | refine blkQ_ret ?_
    cases hp
    exact fnQ.ls (fn := Tryz.f15) (rs := [.tmp 6, .tmp 7]) (vs := [vI (0 : Int), vI r_.2]) rfl ⟨(.inl ⟨_, rfl, rfl⟩), (.inl ⟨_, rfl, rfl⟩), trivial⟩ ⟨_, rfl, s1.leave hcw (by decide)⟩ (by simp)
  · rw [if_neg (nt hb)] at hp
    cases hp

-- math/bits.Len64
set_option maxHeartbeats 4000000 in
theorem W97 (K : Nat) (w0 : World) {x : UInt64} {r : Int} (hp : bits_Len64 K x = some r) :
    Calls Tryz.prog 97 [vU64 x].toArray w0 fun e w1 => ∃ (d : Col), e = .returned (vI r) ∧ St [] w0 c0 w1 d := by
  refine calls_intro Tryz.func97 rfl Tryz.ntmps97 rfl ?_
  unfold bits_Len64 at hp
  refine WC.seq (WC.region ?_)
  refine WR.k rfl rfl rfl (OS.assign (v := vI (0 : Int)) rfl rfl ?_)
  refine WR.nil ?_
  refine WC.seq ?_
  refine WC.seq (WC.region ?_)
  refine WR.k rfl rfl rfl (OS.move (v := vU64 x) rfl rfl ?_)
  refine WR.k rfl rfl rfl (OS.bin (a := vU64 x) (b := vU64 (4294967296 : UInt64)) rfl rfl (by kernel_rfl) b64_geq ?_)
  refine WR.nil ?_
  refine WC.endJ (fun f_ w_ => ∃ (x1 : UInt64) (n1 : Int), bits_Len64.j1 K x1 n1 = some r ∧ f_ 0 = vU64 x1 ∧ f_ 2 = vI n1 ∧ w0 = w_) ?_ ?_
  · refine WC.cond (decide ((4294967296 : UInt64) ≤ x)) rfl (fun hb => ?_) (fun hb => ?_)
    · rw [if_pos hb] at hp
      refine WC.seq (WC.region ?_)
      refine WR.k rfl rfl rfl (OS.move (v := vU64 x) rfl rfl ?_)
      refine WR.k rfl rfl rfl (OS.bin (a := vU64 x) (b := vU64 (32 : UInt64)) rfl rfl (by kernel_rfl) (b64_shr (by decide)) ?_)
      refine WR.k rfl rfl rfl (OS.assign (v := vU64 (shr64 x 32)) rfl rfl ?_)
      refine WR.nil ?_
      refine WC.region ?_
      refine WR.k rfl rfl rfl (OS.assign (v := vI (32 : Int)) rfl rfl ?_)
      refine WR.nil ?_
      exact ⟨_, _, hp, rfl, rfl, rfl⟩
    · rw [if_neg (nt hb)] at hp
      refine WC.skip ?_
      exact ⟨_, _, hp, rfl, rfl, rfl⟩
  · rintro f_ _ ⟨x1, n1, hp, h, h1, rfl⟩
    unfold bits_Len64.j1 at hp
    refine WC.seq ?_
    refine WC.seq (WC.region ?_)
    refine WR.k rfl rfl rfl (OS.move (v := vU64 x1) rfl h ?_)
    refine WR.k rfl rfl rfl (OS.bin (a := vU64 x1) (b := vU64 (65536 : UInt64)) rfl rfl (by kernel_rfl) b64_geq ?_)
    refine WR.nil ?_
    refine WC.endJ (fun f_1 w_1 => ∃ (x2 : UInt64) (n2 : Int), bits_Len64.j2 K x2 n2 = some r ∧ f_1 0 = vU64 x2 ∧ f_1 2 = vI n2 ∧ w0 = w_1) ?_ ?_
    · refine WC.cond (decide ((65536 : UInt64) ≤ x1)) rfl (fun hb1 => ?_) (fun hb1 => ?_)
      · rw [if_pos hb1] at hp
        refine WC.seq (WC.region ?_)
        refine WR.k rfl rfl rfl (OS.move (v := vU64 x1) rfl h ?_)
        refine WR.k rfl rfl rfl (OS.bin (a := vU64 x1) (b := vU64 (16 : UInt64)) rfl rfl (by kernel_rfl) (b64_shr (by decide)) ?_)
        refine WR.k rfl rfl rfl (OS.assign (v := vU64 (shr64 x1 16)) rfl rfl ?_)
        refine WR.nil ?_
        refine WC.region ?_
        refine WR.k rfl rfl rfl (OS.move (v := vI n1) rfl h1 ?_)
        refine WR.k rfl rfl rfl (OS.bin (a := vI n1) (b := vI (16 : Int)) rfl rfl rfl bI_add ?_)
        refine WR.k rfl rfl rfl (OS.assign (v := vI (W (n1 + (16 : Int)))) rfl rfl ?_)
        refine WR.nil ?_
        exact ⟨_, _, hp, rfl, rfl, rfl⟩
      · rw [if_neg (nt hb1)] at hp
        refine WC.skip ?_
        exact ⟨_, _, hp, h, h1, rfl⟩
    · rintro f_1 _ ⟨x2, n2, hp, h2, h3, rfl⟩
      unfold bits_Len64.j2 at hp
      refine WC.seq ?_
      refine WC.seq (WC.region ?_)
      refine WR.k rfl rfl rfl (OS.move (v := vU64 x2) rfl h2 ?_)
      refine WR.k rfl rfl rfl (OS.bin (a := vU64 x2) (b := vU64 (256 : UInt64)) rfl rfl (by kernel_rfl) b64_geq ?_)
      refine WR.nil ?_
      refine WC.endJ (fun f_2 w_2 => ∃ (x3 : UInt64) (n3 : Int), bits_Len64.j3 K x3 n3 = some r ∧ f_2 0 = vU64 x3 ∧ f_2 2 = vI n3 ∧ w0 = w_2) ?_ ?_
      · refine WC.cond (decide ((256 : UInt64) ≤ x2)) rfl (fun hb2 => ?_) (fun hb2 => ?_)
        · rw [if_pos hb2] at hp
          refine WC.seq (WC.region ?_)
          refine WR.k rfl rfl rfl (OS.move (v := vU64 x2) rfl h2 ?_)
          refine WR.k rfl rfl rfl (OS.bin (a := vU64 x2) (b := vU64 (8 : UInt64)) rfl rfl (by kernel_rfl) (b64_shr (by decide)) ?_)
          refine WR.k rfl rfl rfl (OS.assign (v := vU64 (shr64 x2 8)) rfl rfl ?_)
          refine WR.nil ?_
          refine WC.region ?_
          refine WR.k rfl rfl rfl (OS.move (v := vI n2) rfl h3 ?_)
          refine WR.k rfl rfl rfl (OS.bin (a := vI n2) (b := vI (8 : Int)) rfl rfl rfl bI_add ?_)
          refine WR.k rfl rfl rfl (OS.assign (v := vI (W (n2 + (8 : Int)))) rfl rfl ?_)
          refine WR.nil ?_
          exact ⟨_, _, hp, rfl, rfl, rfl⟩
        · rw [if_neg (nt hb2)] at hp
          refine WC.skip ?_
          exact ⟨_, _, hp, h2, h3, rfl⟩
      · rintro f_2 _ ⟨x3, n3, hp, h4, h5, rfl⟩
        unfold bits_Len64.j3 at hp
        refine WC.seq (WC.region ?_)
        refine WR.k rfl rfl rfl (OS.move (v := vI n3) rfl h5 ?_)
        refine WR.k rfl rfl rfl (OS.move (v := vU64 x3) rfl h4 ?_)
        refine WR.k rfl rfl rfl (OS.conv rfl Tryz.runUnderlying76 Tryz.runUnderlying5 rfl (cv_64_8 _) ?_)
        obtain ⟨e, he, hp⟩ := bind_some hp
        obtain ⟨ha, hb3, hc⟩ := gt_some he
        refine WR.k rfl rfl rfl (OS.indexS rfl Tryz.runUnderlying9 rfl rfl ha hc ?_)
        refine WR.k rfl rfl rfl (OS.conv rfl Tryz.runUnderlying5 Tryz.runUnderlying3 rfl (cv_8i _) ?_)
        refine WR.k rfl rfl rfl (OS.bin (a := vI n3) (b := vI (e.toNat : Int)) rfl rfl rfl bI_add ?_)
        refine WR.k rfl rfl rfl (OS.assign (v := vI (W (n3 + (e.toNat : Int)))) rfl rfl ?_)
        refine WR.nil ?_
        refine WC.ret ?_
        repeat first | refine thenQ_ret ?_ | refine blkQ_ret ?_
        cases hp
        exact fnQ.l1 (fn := Tryz.f97) rfl (.inl ⟨_, rfl, rfl⟩) ⟨_, rfl, St.refl⟩

-- internal/strconv.log10Pow2
set_option maxHeartbeats 4000000 in
theorem W129 (K : Nat) (w0 : World) {x : Int} {r : Int} (hp : strconv_log10Pow2 K x = some r) :
    Calls Tryz.prog 129 [vI x].toArray w0 fun e w1 => ∃ (d : Col), e = .returned (vI r) ∧ St [] w0 c0 w1 d := by
  refine calls_intro Tryz.func129 rfl Tryz.ntmps129 rfl ?_
  unfold strconv_log10Pow2 at hp
  refine WC.seq (WC.region ?_)
  refine WR.k rfl rfl rfl (OS.assign (v := vI (0 : Int)) rfl rfl ?_)
  refine WR.nil ?_
  refine WC.seq (WC.region ?_)
  refine WR.k rfl rfl rfl (OS.move (v := vI x) rfl rfl ?_)
  refine WR.k rfl rfl rfl (OS.bin (a := vI x) (b := vI (78913 : Int)) rfl rfl rfl bI_mul ?_)
  refine WR.k rfl rfl rfl (OS.bin (a := vI (W (x * (78913 : Int)))) (b := vU64 (18 : UInt64)) rfl rfl (by kernel_rfl) (bI_shr (by decide)) ?_)
  refine WR.k rfl rfl rfl (OS.assign (v := vI (shrI (W (x * (78913 : Int))) 18)) rfl rfl ?_)
  refine WR.nil ?_
  refine WC.ret ?_
  repeat first | refine thenQ_ret ?_ | refine blkQ_ret ?_
  cases hp
  exact fnQ.l1 (fn := Tryz.f129) rfl (.inl ⟨_, rfl, rfl⟩) ⟨_, rfl, St.refl⟩

-- internal/strconv.bool2[int]
set_option maxHeartbeats 4000000 in
theorem W130 (K : Nat) (w0 : World) {b : Bool} {r : Int} (hp : strconv_bool2_int K b = some r) :
    Calls Tryz.prog 130 [vB b].toArray w0 fun e w1 => ∃ (d : Col), e = .returned (vI r) ∧ St [] w0 c0 w1 d := by
  refine calls_intro Tryz.func130 rfl Tryz.ntmps130 rfl ?_
  unfold strconv_bool2_int at hp
  refine WC.seq (WC.region ?_)
  refine WR.k rfl rfl rfl (OS.assign (v := vI (0 : Int)) rfl rfl ?_)
  refine WR.nil ?_
  refine WC.seq ?_
  refine WC.seq (WC.region ?_)
  refine WR.k rfl rfl rfl (OS.move (v := vB b) rfl rfl ?_)
  refine WR.nil ?_
  refine WC.cond (b) rfl (fun hb => ?_) (fun hb => ?_)
  · rw [if_pos hb] at hp
    refine WC.seq (WC.region ?_)
    refine WR.k rfl rfl rfl (OS.assign (v := vI (1 : Int)) rfl rfl ?_)
    refine WR.nil ?_
    refine WC.ret ?_
    repeat first | refine thenQ_ret ?_ | refine blkQ_ret ?_
    cases hp
    exact fnQ.l1 (fn := Tryz.f130) rfl (.inl ⟨_, rfl, rfl⟩) ⟨_, rfl, St.refl⟩
  · rw [if_neg (nt hb)] at hp
    refine WC.skip ?_
    refine WC.seq (WC.region ?_)
    refine WR.k rfl rfl rfl (OS.assign (v := vI (0 : Int)) rfl rfl ?_)
    refine WR.nil ?_
    refine WC.ret ?_
    repeat first | refine thenQ_ret ?_ | refine blkQ_ret ?_
    cases hp
    exact fnQ.l1 (fn := Tryz.f130) rfl (.inl ⟨_, rfl, rfl⟩) ⟨_, rfl, St.refl⟩

-- internal/strconv.numDigits
set_option maxHeartbeats 4000000 in
theorem W109 (K : Nat) (w0 : World) (cw : Col) (hcw : ∀ b, cw b < 40) {d1 : UInt64} {r : Int} (hp : strconv_numDigits K d1 = some r) {gi0 : Nat} (hgi0 : gi0 ≤ 1) (og0 : Arr E76 gi0 w0 cw (.pointer (some ⟨0, 0, none⟩)) tab0) :
    Calls Tryz.prog 109 [vU64 d1].toArray w0 fun e w1 => ∃ (d : Col), e = .returned (vI r) ∧ St [] w0 cw w1 d := by
  refine calls_intro Tryz.func109 rfl Tryz.ntmps109 rfl ?_
  unfold strconv_numDigits at hp
  refine WC.seq (WC.region ?_)
  refine WR.k rfl rfl rfl (OS.assign (v := vI (0 : Int)) rfl rfl ?_)
  refine WR.nil ?_
  refine WC.seq (WC.region ?_)
  refine WR.k rfl rfl rfl (OS.move (v := vU64 d1) rfl rfl ?_)
  obtain ⟨r_, hr_, hp⟩ := bind_some hp
  refine WR.k rfl rfl rfl (OS.callF (vs := [vU64 d1]) rfl ⟨rfl, trivial⟩ Tryz.call97 ((W97 K w0 hr_).mono ?_))
  rintro _ w_ ⟨d2, rfl, s⟩
  refine ⟨_, rfl, ?_⟩
  obtain ⟨c_, s1⟩ : ∃ c_, St [] w0 cw w_ c_ := ⟨_, s.merge (fun x => x + 39)⟩
  obtain ⟨r_1, hr_1, hp⟩ := bind_some hp
  refine WR.k rfl rfl rfl (OS.callF (vs := [vI r_]) rfl ⟨rfl, trivial⟩ Tryz.call129 ((W129 K w_ hr_1).mono ?_))
  rintro _ w_1 ⟨d3, rfl, s2⟩
  refine ⟨_, rfl, ?_⟩
  obtain ⟨c_1, s3⟩ : ∃ c_1, St [] w_ c_ w_1 c_1 := ⟨_, s2.merge (fun x => x + 41)⟩
  refine WR.k rfl rfl rfl (OS.assign (v := vI r_1) rfl rfl ?_)
  refine WR.nil ?_
  refine WC.seq (WC.region ?_)
  refine WR.k rfl rfl rfl (OS.move (v := vI r_1) rfl rfl ?_)
  refine WR.k rfl rfl rfl (OS.move (v := vU64 d1) rfl rfl ?_)
  refine WR.k rfl rfl rfl (OS.move (v := vI r_1) rfl rfl ?_)
  have og := og0.keep (s1.t s3) (nin hgi0 (by decide))
  obtain ⟨e1, he1, hp⟩ := bind_some hp
  obtain ⟨ha, hb, hc⟩ := gt_some he1
  refine WR.k rfl rfl rfl (OS.idxArr rfl Tryz.runUnderlying168 Tryz.sizeOf76 rfl og rfl ha (by have := hb; rw [(rfl : tab0.length = 20)] at this; exact this) ?_); intro p_ a1
  refine WR.k rfl rfl rfl (OS.ld1 (u := vU64 e1) rfl Tryz.isAgg76 rfl (og.ld a1 hc) ?_)
  refine WR.k rfl rfl rfl (OS.bin (a := vU64 d1) (b := vU64 e1) rfl rfl rfl b64_geq ?_)
  obtain ⟨r_2, hr_2, hp⟩ := bind_some hp
  refine WR.k rfl rfl rfl (OS.callF (vs := [vB (decide (e1 ≤ d1))]) rfl ⟨rfl, trivial⟩ Tryz.call130 ((W130 K w_1 hr_2).mono ?_))
  rintro _ w_2 ⟨d4, rfl, s4⟩
  refine ⟨_, rfl, ?_⟩
  obtain ⟨c_2, s5⟩ : ∃ c_2, St [] w_1 c_1 w_2 c_2 := ⟨_, s4.merge (fun x => x + 43)⟩
  refine WR.k rfl rfl rfl (OS.bin (a := vI r_1) (b := vI r_2) rfl rfl rfl bI_add ?_)
  refine WR.k rfl rfl rfl (OS.assign (v := vI (W (r_1 + r_2))) rfl rfl ?_)
  refine WR.nil ?_
  refine WC.ret ?_
  repeat first | refine thenQ_ret ?_ | refine blkQ_ret ?_
  cases hp
  exact fnQ.l1 (fn := Tryz.f109) rfl (.inl ⟨_, rfl, rfl⟩) ⟨_, rfl, ((s1.t s3).t s5).leave hcw (by decide)⟩

-- internal/strconv.isPowerOfTwo
set_option maxHeartbeats 4000000 in
theorem W131 (K : Nat) (w0 : World) {x : Int} {r : Bool} (hp : strconv_isPowerOfTwo K x = some r) :
    Calls Tryz.prog 131 [vI x].toArray w0 fun e w1 => ∃ (d : Col), e = .returned (vB r) ∧ St [] w0 c0 w1 d := by
  refine calls_intro Tryz.func131 rfl Tryz.ntmps131 rfl ?_
  unfold strconv_isPowerOfTwo at hp
  refine WC.seq (WC.region ?_)
  refine WR.k rfl rfl rfl (OS.assign (v := vB false) rfl rfl ?_)
  refine WR.nil ?_
  refine WC.seq (WC.region ?_)
  refine WR.k rfl rfl rfl (OS.move (v := vI x) rfl rfl ?_)
  refine WR.k rfl rfl rfl (OS.move (v := vI x) rfl rfl ?_)
  refine WR.k rfl rfl rfl (OS.bin (a := vI x) (b := vI (1 : Int)) rfl rfl rfl bI_sub ?_)
  refine WR.k rfl rfl rfl (OS.bin (a := vI x) (b := vI (W (x - (1 : Int)))) rfl rfl rfl bI_and ?_)
  refine WR.k rfl rfl rfl (OS.bin (a := vI (andI x (W (x - (1 : Int))))) (b := vI (0 : Int)) rfl rfl rfl bI_eql ?_)
  refine WR.k rfl rfl rfl (OS.assign (v := vB (decide (andI x (W (x - (1 : Int))) = (0 : Int)))) rfl rfl ?_)
  refine WR.nil ?_
  refine WC.ret ?_
  repeat first | refine thenQ_ret ?_ | refine blkQ_ret ?_
  cases hp
  exact fnQ.l1 (fn := Tryz.f131) rfl (.inl ⟨_, rfl, rfl⟩) ⟨_, rfl, St.refl⟩

-- math/bits.TrailingZeros64
set_option maxHeartbeats 4000000 in
theorem W155 (K : Nat) (w0 : World) (cw : Col) (hcw : ∀ b, cw b < 40) {x : UInt64} {r : Int} (hp : bits_TrailingZeros64 K x = some r) {gi7 : Nat} (hgi7 : gi7 ≤ 1) (og7 : Arr E5 gi7 w0 cw (.pointer (some ⟨7, 0, none⟩)) tab7) :
    Calls Tryz.prog 155 [vU64 x].toArray w0 fun e w1 => ∃ (d : Col), e = .returned (vI r) ∧ St [] w0 cw w1 d := by
  refine calls_intro Tryz.func155 rfl Tryz.ntmps155 rfl ?_
  unfold bits_TrailingZeros64 at hp
  refine WC.seq (WC.region ?_)
  refine WR.k rfl rfl rfl (OS.assign (v := vI (0 : Int)) rfl rfl ?_)
  refine WR.nil ?_
  refine WC.seq ?_
  refine WC.seq (WC.region ?_)
  refine WR.k rfl rfl rfl (OS.move (v := vU64 x) rfl rfl ?_)
  refine WR.k rfl rfl rfl (OS.bin (a := vU64 x) (b := vU64 (0 : UInt64)) rfl rfl (by kernel_rfl) b64_eql ?_)
  refine WR.nil ?_
  refine WC.cond (decide (x = (0 : UInt64))) rfl (fun hb => ?_) (fun hb => ?_)
  · rw [if_pos hb] at hp
    refine WC.seq (WC.region ?_)
    refine WR.k rfl rfl rfl (OS.assign (v := vI (64 : Int)) rfl rfl ?_)
    refine WR.nil ?_
    refine WC.ret ?_
    repeat first | refine thenQ_ret ?_ | refine blkQ_ret ?_
    cases hp
    exact fnQ.l1 (fn := Tryz.f155) rfl (.inl ⟨_, rfl, rfl⟩) ⟨_, rfl, (St.refl.mono (by decide))⟩
  · rw [if_neg (nt hb)] at hp
    refine WC.skip ?_
    refine WC.seq (WC.region ?_)
    refine WR.k rfl rfl rfl (OS.move (v := vU64 x) rfl rfl ?_)
    refine WR.k rfl rfl rfl (OS.move (v := vU64 x) rfl rfl ?_)
    refine WR.k rfl rfl rfl (OS.neg64 rfl rfl ?_)
    refine WR.k rfl rfl rfl (OS.bin (a := vU64 x) (b := vU64 (0 - x)) rfl rfl rfl b64_and ?_)
    refine WR.k rfl rfl rfl (OS.bin (a := vU64 (x &&& (0 - x))) (b := vU64 (285870213051353865 : UInt64)) rfl rfl (by kernel_rfl) b64_mul ?_)
    refine WR.k rfl rfl rfl (OS.bin (a := vU64 ((x &&& (0 - x)) * (285870213051353865 : UInt64))) (b := vU64 (58 : UInt64)) rfl rfl (by kernel_rfl) (b64_shr (by decide)) ?_)
    obtain ⟨e1, he1, hp⟩ := bind_some hp
    obtain ⟨ha, hb1, hc⟩ := gt_some he1
    refine WR.k rfl rfl rfl (OS.idxArr rfl Tryz.runUnderlying122 Tryz.sizeOf5 rfl og7 rfl ha (by have := hb1; rw [(rfl : tab7.length = 64)] at this; exact this) ?_); intro p_ a1
    refine WR.k rfl rfl rfl (OS.ld1 (u := vU8 e1) rfl Tryz.isAgg5 rfl (og7.ld a1 hc) ?_)
    refine WR.k rfl rfl rfl (OS.conv rfl Tryz.runUnderlying5 Tryz.runUnderlying3 rfl (cv_8i _) ?_)
    refine WR.k rfl rfl rfl (OS.assign (v := vI (e1.toNat : Int)) rfl rfl ?_)
    refine WR.nil ?_
    refine WC.ret ?_
    repeat first | refine thenQ_ret ?_ | refine blkQ_ret ?_
    cases hp
    exact fnQ.l1 (fn := Tryz.f155) rfl (.inl ⟨_, rfl, rfl⟩) ⟨_, rfl, (St.refl.mono (by decide))⟩

-- math/bits.TrailingZeros
set_option maxHeartbeats 4000000 in
theorem W132 (K : Nat) (w0 : World) (cw : Col) (hcw : ∀ b, cw b < 40) {x : UInt64} {r : Int} (hp : bits_TrailingZeros K x = some r) {gi7 : Nat} (hgi7 : gi7 ≤ 1) (og7 : Arr E5 gi7 w0 cw (.pointer (some ⟨7, 0, none⟩)) tab7) :
    Calls Tryz.prog 132 [vU64 x].toArray w0 fun e w1 => ∃ (d : Col), e = .returned (vI r) ∧ St [] w0 cw w1 d := by
  refine calls_intro Tryz.func132 rfl Tryz.ntmps132 rfl ?_
  unfold bits_TrailingZeros at hp
  refine WC.seq (WC.region ?_)
  refine WR.k rfl rfl rfl (OS.assign (v := vI (0 : Int)) rfl rfl ?_)
  refine WR.nil ?_
  refine WC.seq ?_
  refine WC.condF rfl ?_
  refine WC.skip ?_
  refine WC.seq (WC.region ?_)
  refine WR.k rfl rfl rfl (OS.move (v := vU64 x) rfl rfl ?_)
  obtain ⟨r_, hr_, hp⟩ := bind_some hp
  refine WR.k rfl rfl rfl (OS.callF (vs := [vU64 x]) rfl ⟨rfl, trivial⟩ Tryz.call155 ((W155 (gi7 := gi7) K w0 (rcc [] cw) (rcc_lt cw rfl) hr_ hgi7 (og7.tr (rc_tr (rc_low hgi7 rfl)))).mono ?_))
  rintro _ w_ ⟨d1, rfl, s⟩
  refine ⟨_, rfl, ?_⟩
  obtain ⟨c_, s1⟩ : ∃ c_, St [] w0 cw w_ c_ := ⟨_, s.mg2 (sh := 10000) rfl⟩
  refine WR.k rfl rfl rfl (OS.assign (v := vI r_) rfl rfl ?_)
  refine WR.nil ?_
  refine WC.ret ?_
  repeat first | refine thenQ_ret ?_ | refine blkQ_ret ?_
  cases hp
  exact fnQ.l1 (fn := Tryz.f132) rfl (.inl ⟨_, rfl, rfl⟩) ⟨_, rfl, s1.leave hcw (by decide)⟩

-- internal/strconv.formatBits
set_option maxHeartbeats 4000000 in
theorem W111 (K : Nat) (w0 : World) (cw : Col) (hcw : ∀ b, cw b < 40) {dst : List UInt8} {u : UInt64} {base : Int} {neg : Bool} {append_ : Bool} {r : (List UInt8) × (List UInt8)} (hp : strconv_formatBits K dst u base neg append_ = some r) {i : Nat} (hi : i ≤ 1) {v_ : Value} (o : Vw E5 i w0 cw v_ dst) {gi7 : Nat} (hgi7 : gi7 ≤ 1) (og7 : Arr E5 gi7 w0 cw (.pointer (some ⟨7, 0, none⟩)) tab7) :
    Calls Tryz.prog 111 [v_, vU64 u, vI base, vB neg, vB append_].toArray w0 fun e w1 => ∃ (sl : Sl) (d : Col), e = .returned (.tuple #[sl.val, vS r.2]) ∧ St [] w0 cw w1 d ∧ Ow E5 2000 w1 d sl.val r.1 := by
  refine calls_intro Tryz.func111 rfl Tryz.ntmps111 rfl ?_
  unfold strconv_formatBits at hp
  refine WC.seq (WC.region ?_)
  refine WR.k rfl rfl rfl (OS.assign (v := (.slice none 0 0)) rfl rfl ?_)
  refine WR.k rfl rfl rfl (OS.assign (v := vS ([] : List UInt8)) rfl rfl ?_)
  refine WR.nil ?_
  refine WC.seq ?_
  refine WC.seq (WC.region ?_)
  refine WR.k rfl rfl rfl (OS.move (v := vI base) rfl rfl ?_)
  refine WR.k rfl rfl rfl (OS.bin (a := vI base) (b := vI (2 : Int)) rfl rfl rfl bI_lss ?_)
  refine WR.k rfl rfl rfl (OS.move (v := vB (decide (base < (2 : Int)))) rfl rfl ?_)
  refine WR.cut2 3 (fun f_ w_ => f_ 0 = v_ ∧ f_ 1 = vU64 u ∧ f_ 2 = vI base ∧ f_ 3 = vB neg ∧ f_ 4 = vB append_ ∧ f_ 10 = (.slice none 0 0) ∧ f_ 11 = vS ([] : List UInt8) ∧ f_ 24 = vB ((decide (base < (2 : Int))) || (decide (base = (10 : Int)))) ∧ w0 = w_) ?_ ?_
  · rcases Bool.eq_false_or_eq_true (decide (base < (2 : Int))) with hg | hg
    · refine WR.gF rfl rfl (vb_t rfl hg) rfl rfl ?_
      refine WR.gF rfl rfl (vb_t rfl hg) rfl rfl ?_
      refine WR.k rfl rfl rfl (OS.pickT rfl (vb_t rfl hg) rfl ?_)
      refine WR.nil ?_
      exact ⟨rfl, rfl, rfl, rfl, rfl, rfl, rfl, (or_t hg), rfl⟩
    · refine WR.kT rfl rfl (vb_f rfl hg) rfl rfl (OS.move (v := vI base) rfl rfl ?_)
      refine WR.kT rfl rfl (vb_f rfl hg) rfl rfl (OS.bin (a := vI base) (b := vI (10 : Int)) rfl rfl rfl bI_eql ?_)
      refine WR.k rfl rfl rfl (OS.pickF rfl (vb_f rfl hg) rfl ?_)
      refine WR.nil ?_
      exact ⟨rfl, rfl, rfl, rfl, rfl, rfl, rfl, (or_f hg), rfl⟩
  · rintro f_ _ ⟨h, h1, h2, h3, h4, h5, h6, h7, rfl⟩
    refine WR.k rfl rfl rfl (OS.move (v := vB ((decide (base < (2 : Int))) || (decide (base = (10 : Int))))) rfl h7 ?_)
    refine WR.cut2 3 (fun f_1 w_1 => f_1 0 = v_ ∧ f_1 1 = vU64 u ∧ f_1 2 = vI base ∧ f_1 3 = vB neg ∧ f_1 4 = vB append_ ∧ f_1 10 = (.slice none 0 0) ∧ f_1 11 = vS ([] : List UInt8) ∧ f_1 28 = vB (((decide (base < (2 : Int))) || (decide (base = (10 : Int)))) || (decide ((36 : Int) < base))) ∧ w0 = w_1) ?_ ?_
    · rcases Bool.eq_false_or_eq_true ((decide (base < (2 : Int))) || (decide (base = (10 : Int)))) with hg1 | hg1
      · refine WR.gF rfl rfl (vb_t rfl hg1) rfl rfl ?_
        refine WR.gF rfl rfl (vb_t rfl hg1) rfl rfl ?_
        refine WR.k rfl rfl rfl (OS.pickT rfl (vb_t rfl hg1) rfl ?_)
        refine WR.nil ?_
        exact ⟨h, h1, h2, h3, h4, h5, h6, (or_t hg1), rfl⟩
      · refine WR.kT rfl rfl (vb_f rfl hg1) rfl rfl (OS.move (v := vI base) rfl h2 ?_)
        refine WR.kT rfl rfl (vb_f rfl hg1) rfl rfl (OS.bin (a := vI base) (b := vI (36 : Int)) rfl rfl rfl bI_gtr ?_)
        refine WR.k rfl rfl rfl (OS.pickF rfl (vb_f rfl hg1) rfl ?_)
        refine WR.nil ?_
        exact ⟨h, h1, h2, h3, h4, h5, h6, (or_f hg1), rfl⟩
    · rintro f_1 _ ⟨h8, h9, h10, h11, h12, h13, h14, h15, rfl⟩
      refine WR.nil ?_
      refine WC.endJ (fun f_2 w_2 => strconv_formatBits.j1 K neg base append_ u = some r ∧ f_2 0 = v_ ∧ f_2 1 = vU64 u ∧ f_2 2 = vI base ∧ f_2 3 = vB neg ∧ f_2 4 = vB append_ ∧ f_2 10 = (.slice none 0 0) ∧ f_2 11 = vS ([] : List UInt8) ∧ w0 = w_2) ?_ ?_
      · refine WC.cond (((decide (base < (2 : Int))) || (decide (base = (10 : Int)))) || (decide ((36 : Int) < base))) h15 (fun hb => ?_) (fun hb => ?_)
        · rw [if_pos hb] at hp
          refine WC.region ?_
          cases hp
        · rw [if_neg (nt hb)] at hp
          refine WC.skip ?_
          exact ⟨hp, h8, h9, h10, h11, h12, h13, h14, rfl⟩
      · rintro f_2 _ ⟨hp, h16, h17, h18, h19, h20, h21, h22, rfl⟩
        unfold strconv_formatBits.j1 at hp
        refine WC.seq (WC.region ?_)
        refine WR.k rfl rfl rfl (OS.allocArr (E := E5) (xs := (List.replicate 65 (0 : UInt8))) (c := cw) 40 rfl Tryz.zeroValue169 (by kernel_rfl) ?_); intro p_ w_3 c_3 o1 s
        refine WR.nil ?_
        refine WC.seq (WC.region ?_)
        refine WR.k rfl rfl rfl (OS.assign (v := vI (65 : Int)) rfl rfl ?_)
        refine WR.nil ?_
        refine WC.seq ?_
        refine WC.seq (WC.region ?_)
        refine WR.k rfl rfl rfl (OS.move (v := vB neg) rfl h19 ?_)
        refine WR.nil ?_
        refine WC.endJ (fun f_3 w_4 => ∃ (u1 : UInt64), strconv_formatBits.j2 K base neg append_ u1 = some r ∧ f_3 0 = v_ ∧ f_3 1 = vU64 u1 ∧ f_3 2 = vI base ∧ f_3 3 = vB neg ∧ f_3 4 = vB append_ ∧ f_3 10 = (.slice none 0 0) ∧ f_3 11 = vS ([] : List UInt8) ∧ f_3 12 = p_ ∧ f_3 13 = vI (65 : Int) ∧ w_3 = w_4) ?_ ?_
        · refine WC.cond (neg) rfl (fun hb1 => ?_) (fun hb1 => ?_)
          · rw [if_pos hb1] at hp
            refine WC.region ?_
            refine WR.k rfl rfl rfl (OS.move (v := vU64 u) rfl h17 ?_)
            refine WR.k rfl rfl rfl (OS.neg64 rfl rfl ?_)
            refine WR.k rfl rfl rfl (OS.assign (v := vU64 (0 - u)) rfl rfl ?_)
            refine WR.nil ?_
            exact ⟨_, hp, h16, rfl, h18, h19, h20, h21, h22, rfl, rfl, rfl⟩
          · rw [if_neg (nt hb1)] at hp
            refine WC.skip ?_
            exact ⟨_, hp, h16, h17, h18, h19, h20, h21, h22, rfl, rfl, rfl⟩
        · rintro f_3 _ ⟨u1, hp, h23, h24, h25, h26, h27, h28, h29, h30, h31, rfl⟩
          unfold strconv_formatBits.j2 at hp
          refine WC.seq ?_
          refine WC.seq (WC.region ?_)
          refine WR.k rfl rfl rfl (OS.move (v := vI base) rfl h25 ?_)
          obtain ⟨r_, hr_, hp⟩ := bind_some hp
          refine WR.k rfl rfl rfl (OS.callF (vs := [vI base]) rfl ⟨rfl, trivial⟩ Tryz.call131 ((W131 K w_3 hr_).mono ?_))
          rintro _ w_5 ⟨d1, rfl, s1⟩
          refine ⟨_, rfl, ?_⟩
          obtain ⟨c_5, s2⟩ : ∃ c_5, St [] w_3 c_3 w_5 c_5 := ⟨_, s1.merge (fun x => x + 40)⟩
          refine WR.nil ?_
          refine WC.endJ (fun f_4 w_6 => ∃ (a1 : List UInt8) (i1 : Int) (c_6 : Col), strconv_formatBits.j3 K neg append_ a1 i1 = some r ∧ f_4 0 = v_ ∧ f_4 3 = vB neg ∧ f_4 4 = vB append_ ∧ f_4 10 = (.slice none 0 0) ∧ f_4 11 = vS ([] : List UInt8) ∧ f_4 12 = p_ ∧ f_4 13 = vI i1 ∧ Arr E5 40 w_6 c_6 p_ a1 ∧ a1.length = 65 ∧ St [40] w_5 c_5 w_6 c_6) ?_ ?_
          · refine WC.cond (r_) rfl (fun hb2 => ?_) (fun hb2 => ?_)
            · rw [if_pos hb2] at hp
              refine WC.seq (WC.region ?_)
              refine WR.k rfl rfl rfl (OS.move (v := vI base) rfl h25 ?_)
              refine WR.k rfl rfl rfl (OS.conv rfl Tryz.runUnderlying3 Tryz.runUnderlying105 rfl (cv_i64 _) ?_)
              have og := og7.keep (s.t s2) (nin hgi7 (by decide))
              obtain ⟨r_1, hr_1, hp⟩ := bind_some hp
              refine WR.k rfl rfl rfl (OS.callF (vs := [vU64 (iU64 base)]) rfl ⟨rfl, trivial⟩ Tryz.call132 ((W132 (gi7 := gi7) K w_5 (rcc [] c_5) (rcc_lt c_5 rfl) hr_1 hgi7 (og.tr (rc_tr (rc_low hgi7 rfl)))).mono ?_))
              rintro _ w_7 ⟨d2, rfl, s3⟩
              refine ⟨_, rfl, ?_⟩
              obtain ⟨c_7, s4⟩ : ∃ c_7, St [] w_5 c_5 w_7 c_7 := ⟨_, s3.mg2 (sh := 20000) rfl⟩
              refine WR.k rfl rfl rfl (OS.conv rfl Tryz.runUnderlying3 Tryz.runUnderlying105 rfl (cv_i64 _) ?_)
              refine WR.k rfl rfl rfl (OS.assign (v := vU64 (iU64 r_1)) rfl rfl ?_)
              refine WR.nil ?_
              refine WC.seq (WC.region ?_)
              refine WR.k rfl rfl rfl (OS.move (v := vI base) rfl h25 ?_)
              refine WR.k rfl rfl rfl (OS.conv rfl Tryz.runUnderlying3 Tryz.runUnderlying76 rfl (cv_i64 _) ?_)
              refine WR.k rfl rfl rfl (OS.assign (v := vU64 (iU64 base)) rfl rfl ?_)
              refine WR.nil ?_
              refine WC.seq (WC.region ?_)
              refine WR.k rfl rfl rfl (OS.move (v := vI base) rfl h25 ?_)
              refine WR.k rfl rfl rfl (OS.conv rfl Tryz.runUnderlying3 Tryz.runUnderlying105 rfl (cv_i64 _) ?_)
              refine WR.k rfl rfl rfl (OS.bin (a := vU64 (iU64 base)) (b := vU64 (1 : UInt64)) rfl rfl (by kernel_rfl) b64_sub ?_)
              refine WR.k rfl rfl rfl (OS.assign (v := vU64 ((iU64 base) - (1 : UInt64))) rfl rfl ?_)
              refine WR.nil ?_
              refine WC.seq ?_
              obtain ⟨q, hl3, hp⟩ := bind_some hp
              obtain ⟨u3, a3, i3⟩ := q; dsimp only at hp
              refine WC.blockJ2 (fun f_5 w_8 => ∃ (c_8 : Col), f_5 0 = v_ ∧ f_5 1 = vU64 u3 ∧ f_5 3 = vB neg ∧ f_5 4 = vB append_ ∧ f_5 10 = (.slice none 0 0) ∧ f_5 11 = vS ([] : List UInt8) ∧ f_5 12 = p_ ∧ f_5 13 = vI i3 ∧ Arr E5 40 w_8 c_8 p_ a3 ∧ a3.length = 65 ∧ St [40] w_7 c_7 w_8 c_8) ?_ ?_
              · have o5 := o1.keep (s2.t s4) (by decide)
                refine WC.loop (fun n => fun f_6 w_9 => ∃ (u2 : UInt64) (a2 : List UInt8) (i2 : Int) (c_9 : Col), strconv_formatBits.l1 n base r_1 u2 a2 i2 = some (u3, a3, i3) ∧ f_6 0 = v_ ∧ f_6 1 = vU64 u2 ∧ f_6 3 = vB neg ∧ f_6 4 = vB append_ ∧ f_6 10 = (.slice none 0 0) ∧ f_6 11 = vS ([] : List UInt8) ∧ f_6 12 = p_ ∧ f_6 13 = vI i2 ∧ f_6 14 = vU64 (iU64 r_1) ∧ f_6 15 = vU64 (iU64 base) ∧ f_6 16 = vU64 ((iU64 base) - (1 : UInt64)) ∧ Arr E5 40 w_9 c_9 p_ a2 ∧ a2.length = 65 ∧ St [40] w_7 c_7 w_9 c_9) K ⟨_, _, _, _, hl3, h23, h24, h26, h27, h28, h29, h30, h31, rfl, rfl, rfl, o5, (List.length_replicate (n := 65) (a := (0 : UInt8))), St.refl.mono (by decide)⟩ ?_
                rintro n f_6 w_9 ⟨u2, a2, i2, c_9, hl3, h32, h33, h34, h35, h36, h37, h38, h39, h40, h41, h42, o3, hl1, s5⟩
                cases n with
                | zero => exact absurd hl3 (by simp [strconv_formatBits.l1])
                | succ k =>
                rw [strconv_formatBits.l1] at hl3
                refine WC.seq ?_
                refine WC.seq (WC.region ?_)
                refine WR.k rfl rfl rfl (OS.move (v := vU64 u2) rfl h33 ?_)
                refine WR.k rfl rfl rfl (OS.move (v := vU64 (iU64 base)) rfl h41 ?_)
                refine WR.k rfl rfl rfl (OS.bin (a := vU64 u2) (b := vU64 (iU64 base)) rfl rfl rfl b64_geq ?_)
                refine WR.nil ?_
                refine WC.cond (decide (iU64 base ≤ u2)) rfl (fun hb3 => ?_) (fun hb3 => ?_)
                · rw [if_pos hb3] at hl3
                  refine WC.skip ?_
                  refine WC.block ?_
                  refine WC.seq (WC.region ?_)
                  refine WR.k rfl rfl rfl (OS.move (v := vI i2) rfl h39 ?_)
                  refine WR.k rfl rfl rfl (OS.bin (a := vI i2) (b := vI (1 : Int)) rfl rfl rfl bI_sub ?_)
                  refine WR.k rfl rfl rfl (OS.assign (v := vI (W (i2 - (1 : Int)))) rfl rfl ?_)
                  refine WR.nil ?_
                  refine WC.seq (WC.region ?_)
                  refine WR.k rfl rfl rfl (OS.move (v := vI (W (i2 - (1 : Int)))) rfl rfl ?_)
                  refine WR.k rfl rfl rfl (OS.move (v := vU64 u2) rfl h33 ?_)
                  refine WR.k rfl rfl rfl (OS.move (v := vU64 ((iU64 base) - (1 : UInt64))) rfl h42 ?_)
                  refine WR.k rfl rfl rfl (OS.bin (a := vU64 u2) (b := vU64 ((iU64 base) - (1 : UInt64))) rfl rfl rfl b64_and ?_)
                  obtain ⟨e1, he1, hl3⟩ := bind_some hl3
                  obtain ⟨ha, hb4, hc⟩ := gt_some he1
                  refine WR.k rfl rfl rfl (OS.indexS rfl Tryz.runUnderlying9 rfl rfl ha hc ?_)
                  obtain ⟨u4, hu4, hl3⟩ := bind_some hl3
                  obtain ⟨ha1, hb5⟩ := req_some hu4
                  refine WR.k rfl rfl rfl (OS.idxArr rfl Tryz.runUnderlying169 Tryz.sizeOf5 h38 o3 rfl ha1 (by have := hb5; rw [hl1] at this; exact this) ?_); intro p_1 a4
                  obtain ⟨a5, ha5, hl3⟩ := bind_some hl3
                  replace ha5 := (Option.some.inj ha5).symm
                  refine WR.k0 rfl rfl (OS.stArr (q := e1) (u := vU8 e1) rfl Tryz.sizeOf5 rfl rfl o3 rfl a4 (by have h1 := (by have := hb5; rw [hl1] at this; exact this); rw [hl1]; omega) rfl ?_); intro w_10 o6 s6
                  replace o6 : Arr E5 40 w_10 c_9 p_ a5 := by rw [ha5]; exact o6
                  have hl4 : a5.length = 65 := (by rw [ha5, List.length_set]; exact hl1)
                  refine WR.nil ?_
                  refine WC.region ?_
                  refine WR.k rfl rfl rfl (OS.move (v := vU64 u2) rfl h33 ?_)
                  refine WR.k rfl rfl rfl (OS.move (v := vU64 (iU64 r_1)) rfl h40 ?_)
                  refine WR.k rfl rfl rfl (OS.bin (a := vU64 u2) (b := vU64 (iU64 r_1)) rfl rfl rfl (b64_shr (Int.natCast_nonneg _)) ?_)
                  refine WR.k rfl rfl rfl (OS.assign (v := vU64 (shr64 u2 (iU64 r_1).toNat)) rfl rfl ?_)
                  refine WR.nil ?_
                  exact ⟨k, by omega, _, _, _, _, hl3, h32, rfl, h34, h35, h36, h37, h38, rfl, h40, h41, h42, o6, hl4, (s5.t s6).mono (by decide)⟩
                · rw [if_neg (nt hb3)] at hl3
                  refine WC.exit ?_
                  cases hl3
                  exact ⟨_, h32, h33, h34, h35, h36, h37, h38, h39, o3, hl1, s5.mono (by decide)⟩
              · rintro f_5 w_8 ⟨c_8, h43, h44, h45, h46, h47, h48, h49, h50, o4, hl2, s7⟩
                refine WC.seq (WC.region ?_)
                refine WR.k rfl rfl rfl (OS.move (v := vI i3) rfl h50 ?_)
                refine WR.k rfl rfl rfl (OS.bin (a := vI i3) (b := vI (1 : Int)) rfl rfl rfl bI_sub ?_)
                refine WR.k rfl rfl rfl (OS.assign (v := vI (W (i3 - (1 : Int)))) rfl rfl ?_)
                refine WR.nil ?_
                refine WC.region ?_
                refine WR.k rfl rfl rfl (OS.move (v := vI (W (i3 - (1 : Int)))) rfl rfl ?_)
                refine WR.k rfl rfl rfl (OS.move (v := vU64 u3) rfl h44 ?_)
                obtain ⟨e2, he2, hp⟩ := bind_some hp
                obtain ⟨ha2, hb6, hc1⟩ := gt_some he2
                refine WR.k rfl rfl rfl (OS.indexS rfl Tryz.runUnderlying9 rfl rfl ha2 hc1 ?_)
                obtain ⟨u5, hu5, hp⟩ := bind_some hp
                obtain ⟨ha3, hb7⟩ := req_some hu5
                refine WR.k rfl rfl rfl (OS.idxArr rfl Tryz.runUnderlying169 Tryz.sizeOf5 h49 o4 rfl ha3 (by have := hb7; rw [hl2] at this; exact this) ?_); intro p_2 a6
                obtain ⟨a7, ha7, hp⟩ := bind_some hp
                replace ha7 := (Option.some.inj ha7).symm
                refine WR.k0 rfl rfl (OS.stArr (q := e2) (u := vU8 e2) rfl Tryz.sizeOf5 rfl rfl o4 rfl a6 (by have h1 := (by have := hb7; rw [hl2] at this; exact this); rw [hl2]; omega) rfl ?_); intro w_11 o7 s8
                replace o7 : Arr E5 40 w_11 c_8 p_ a7 := by rw [ha7]; exact o7
                have hl5 : a7.length = 65 := (by rw [ha7, List.length_set]; exact hl2)
                refine WR.nil ?_
                exact ⟨_, _, _, hp, h43, h45, h46, h47, h48, h49, rfl, o7, hl5, ((s4.t s7).t s8).mono (by decide)⟩
            · rw [if_neg (nt hb2)] at hp
              refine WC.seq (WC.region ?_)
              refine WR.k rfl rfl rfl (OS.move (v := vI base) rfl h25 ?_)
              refine WR.k rfl rfl rfl (OS.conv rfl Tryz.runUnderlying3 Tryz.runUnderlying76 rfl (cv_i64 _) ?_)
              refine WR.k rfl rfl rfl (OS.assign (v := vU64 (iU64 base)) rfl rfl ?_)
              refine WR.nil ?_
              refine WC.seq ?_
              obtain ⟨q1, hl8, hp⟩ := bind_some hp
              obtain ⟨u7, a9, i5⟩ := q1; dsimp only at hp
              refine WC.blockJ2 (fun f_7 w_12 => ∃ (c_10 : Col), f_7 0 = v_ ∧ f_7 1 = vU64 u7 ∧ f_7 3 = vB neg ∧ f_7 4 = vB append_ ∧ f_7 10 = (.slice none 0 0) ∧ f_7 11 = vS ([] : List UInt8) ∧ f_7 12 = p_ ∧ f_7 13 = vI i5 ∧ Arr E5 40 w_12 c_10 p_ a9 ∧ a9.length = 65 ∧ St [40] w_5 c_5 w_12 c_10) ?_ ?_
              · have o10 := o1.keep s2 (by decide)
                refine WC.loop (fun n => fun f_8 w_13 => ∃ (u6 : UInt64) (a8 : List UInt8) (i4 : Int) (c_11 : Col), strconv_formatBits.l2 n base u6 a8 i4 = some (u7, a9, i5) ∧ f_8 0 = v_ ∧ f_8 1 = vU64 u6 ∧ f_8 3 = vB neg ∧ f_8 4 = vB append_ ∧ f_8 10 = (.slice none 0 0) ∧ f_8 11 = vS ([] : List UInt8) ∧ f_8 12 = p_ ∧ f_8 13 = vI i4 ∧ f_8 17 = vU64 (iU64 base) ∧ Arr E5 40 w_13 c_11 p_ a8 ∧ a8.length = 65 ∧ St [40] w_5 c_5 w_13 c_11) K ⟨_, _, _, _, hl8, h23, h24, h26, h27, h28, h29, h30, h31, rfl, o10, (List.length_replicate (n := 65) (a := (0 : UInt8))), St.refl.mono (by decide)⟩ ?_
                rintro n f_8 w_13 ⟨u6, a8, i4, c_11, hl8, h51, h52, h53, h54, h55, h56, h57, h58, h59, o8, hl6, s9⟩
                cases n with
                | zero => exact absurd hl8 (by simp [strconv_formatBits.l2])
                | succ k =>
                rw [strconv_formatBits.l2] at hl8
                refine WC.seq ?_
                refine WC.seq (WC.region ?_)
                refine WR.k rfl rfl rfl (OS.move (v := vU64 u6) rfl h52 ?_)
                refine WR.k rfl rfl rfl (OS.move (v := vU64 (iU64 base)) rfl h59 ?_)
                refine WR.k rfl rfl rfl (OS.bin (a := vU64 u6) (b := vU64 (iU64 base)) rfl rfl rfl b64_geq ?_)
                refine WR.nil ?_
                refine WC.cond (decide (iU64 base ≤ u6)) rfl (fun hb8 => ?_) (fun hb8 => ?_)
                · rw [if_pos hb8] at hl8
                  refine WC.skip ?_
                  refine WC.block ?_
                  refine WC.seq (WC.region ?_)
                  refine WR.k rfl rfl rfl (OS.move (v := vI i4) rfl h58 ?_)
                  refine WR.k rfl rfl rfl (OS.bin (a := vI i4) (b := vI (1 : Int)) rfl rfl rfl bI_sub ?_)
                  refine WR.k rfl rfl rfl (OS.assign (v := vI (W (i4 - (1 : Int)))) rfl rfl ?_)
                  refine WR.nil ?_
                  refine WC.seq (WC.region ?_)
                  refine WR.k rfl rfl rfl (OS.move (v := vU64 u6) rfl h52 ?_)
                  refine WR.k rfl rfl rfl (OS.move (v := vU64 (iU64 base)) rfl h59 ?_)
                  obtain ⟨u8, hu8, hl8⟩ := bind_some hl8
                  have hz := req_some hu8
                  refine WR.k rfl rfl rfl (OS.bin (a := vU64 u6) (b := vU64 (iU64 base)) rfl rfl rfl (b64_quo hz) ?_)
                  refine WR.k rfl rfl rfl (OS.assign (v := vU64 (u6 / (iU64 base))) rfl rfl ?_)
                  refine WR.nil ?_
                  refine WC.seq (WC.region ?_)
                  refine WR.k rfl rfl rfl (OS.move (v := vI (W (i4 - (1 : Int)))) rfl rfl ?_)
                  refine WR.k rfl rfl rfl (OS.move (v := vU64 u6) rfl h52 ?_)
                  refine WR.k rfl rfl rfl (OS.move (v := vU64 (u6 / (iU64 base))) rfl rfl ?_)
                  refine WR.k rfl rfl rfl (OS.move (v := vU64 (iU64 base)) rfl h59 ?_)
                  refine WR.k rfl rfl rfl (OS.bin (a := vU64 (u6 / (iU64 base))) (b := vU64 (iU64 base)) rfl rfl rfl b64_mul ?_)
                  refine WR.k rfl rfl rfl (OS.bin (a := vU64 u6) (b := vU64 ((u6 / (iU64 base)) * (iU64 base))) rfl rfl rfl b64_sub ?_)
                  obtain ⟨e3, he3, hl8⟩ := bind_some hl8
                  obtain ⟨ha4, hb9, hc2⟩ := gt_some he3
                  refine WR.k rfl rfl rfl (OS.indexS rfl Tryz.runUnderlying9 rfl rfl ha4 hc2 ?_)
                  obtain ⟨u9, hu9, hl8⟩ := bind_some hl8
                  obtain ⟨ha6, hb10⟩ := req_some hu9
                  refine WR.k rfl rfl rfl (OS.idxArr rfl Tryz.runUnderlying169 Tryz.sizeOf5 h57 o8 rfl ha6 (by have := hb10; rw [hl6] at this; exact this) ?_); intro p_3 a10
                  obtain ⟨a11, ha11, hl8⟩ := bind_some hl8
                  replace ha11 := (Option.some.inj ha11).symm
                  refine WR.k0 rfl rfl (OS.stArr (q := e3) (u := vU8 e3) rfl Tryz.sizeOf5 rfl rfl o8 rfl a10 (by have h1 := (by have := hb10; rw [hl6] at this; exact this); rw [hl6]; omega) rfl ?_); intro w_14 o11 s10
                  replace o11 : Arr E5 40 w_14 c_11 p_ a11 := by rw [ha11]; exact o11
                  have hl9 : a11.length = 65 := (by rw [ha11, List.length_set]; exact hl6)
                  refine WR.nil ?_
                  refine WC.region ?_
                  refine WR.k rfl rfl rfl (OS.move (v := vU64 (u6 / (iU64 base))) rfl rfl ?_)
                  refine WR.k rfl rfl rfl (OS.assign (v := vU64 (u6 / (iU64 base))) rfl rfl ?_)
                  refine WR.nil ?_
                  exact ⟨k, by omega, _, _, _, _, hl8, h51, rfl, h53, h54, h55, h56, h57, rfl, h59, o11, hl9, (s9.t s10).mono (by decide)⟩
                · rw [if_neg (nt hb8)] at hl8
                  refine WC.exit ?_
                  cases hl8
                  exact ⟨_, h51, h52, h53, h54, h55, h56, h57, h58, o8, hl6, s9.mono (by decide)⟩
              · rintro f_7 w_12 ⟨c_10, h60, h61, h62, h63, h64, h65, h66, h67, o9, hl7, s11⟩
                refine WC.seq (WC.region ?_)
                refine WR.k rfl rfl rfl (OS.move (v := vI i5) rfl h67 ?_)
                refine WR.k rfl rfl rfl (OS.bin (a := vI i5) (b := vI (1 : Int)) rfl rfl rfl bI_sub ?_)
                refine WR.k rfl rfl rfl (OS.assign (v := vI (W (i5 - (1 : Int)))) rfl rfl ?_)
                refine WR.nil ?_
                refine WC.region ?_
                refine WR.k rfl rfl rfl (OS.move (v := vI (W (i5 - (1 : Int)))) rfl rfl ?_)
                refine WR.k rfl rfl rfl (OS.move (v := vU64 u7) rfl h61 ?_)
                obtain ⟨e4, he4, hp⟩ := bind_some hp
                obtain ⟨ha8, hb11, hc3⟩ := gt_some he4
                refine WR.k rfl rfl rfl (OS.indexS rfl Tryz.runUnderlying9 rfl rfl ha8 hc3 ?_)
                obtain ⟨u10, hu10, hp⟩ := bind_some hp
                obtain ⟨ha9, hb12⟩ := req_some hu10
                refine WR.k rfl rfl rfl (OS.idxArr rfl Tryz.runUnderlying169 Tryz.sizeOf5 h66 o9 rfl ha9 (by have := hb12; rw [hl7] at this; exact this) ?_); intro p_4 a12
                obtain ⟨a13, ha13, hp⟩ := bind_some hp
                replace ha13 := (Option.some.inj ha13).symm
                refine WR.k0 rfl rfl (OS.stArr (q := e4) (u := vU8 e4) rfl Tryz.sizeOf5 rfl rfl o9 rfl a12 (by have h1 := (by have := hb12; rw [hl7] at this; exact this); rw [hl7]; omega) rfl ?_); intro w_15 o12 s12
                replace o12 : Arr E5 40 w_15 c_10 p_ a13 := by rw [ha13]; exact o12
                have hl10 : a13.length = 65 := (by rw [ha13, List.length_set]; exact hl7)
                refine WR.nil ?_
                exact ⟨_, _, _, hp, h60, h62, h63, h64, h65, h66, rfl, o12, hl10, (s11.t s12).mono (by decide)⟩
          · rintro f_4 w_6 ⟨a1, i1, c_6, hp, h68, h69, h70, h71, h72, h73, h74, o2, hl, s13⟩
            unfold strconv_formatBits.j3 at hp
            refine WC.seq ?_
            refine WC.seq (WC.region ?_)
            refine WR.k rfl rfl rfl (OS.move (v := vB neg) rfl h69 ?_)
            refine WR.nil ?_
            refine WC.endJ (fun f_9 w_16 => ∃ (a14 : List UInt8) (i6 : Int) (c_12 : Col), strconv_formatBits.j4 K append_ a14 i6 = some r ∧ f_9 0 = v_ ∧ f_9 4 = vB append_ ∧ f_9 10 = (.slice none 0 0) ∧ f_9 11 = vS ([] : List UInt8) ∧ f_9 12 = p_ ∧ f_9 13 = vI i6 ∧ Arr E5 40 w_16 c_12 p_ a14 ∧ a14.length = 65 ∧ St [40] w_6 c_6 w_16 c_12) ?_ ?_
            · refine WC.cond (neg) rfl (fun hb13 => ?_) (fun hb13 => ?_)
              · rw [if_pos hb13] at hp
                refine WC.seq (WC.region ?_)
                refine WR.k rfl rfl rfl (OS.move (v := vI i1) rfl h74 ?_)
                refine WR.k rfl rfl rfl (OS.bin (a := vI i1) (b := vI (1 : Int)) rfl rfl rfl bI_sub ?_)
                refine WR.k rfl rfl rfl (OS.assign (v := vI (W (i1 - (1 : Int)))) rfl rfl ?_)
                refine WR.nil ?_
                refine WC.region ?_
                refine WR.k rfl rfl rfl (OS.move (v := vI (W (i1 - (1 : Int)))) rfl rfl ?_)
                obtain ⟨u11, hu11, hp⟩ := bind_some hp
                obtain ⟨ha10, hb14⟩ := req_some hu11
                refine WR.k rfl rfl rfl (OS.idxArr rfl Tryz.runUnderlying169 Tryz.sizeOf5 h73 o2 rfl ha10 (by have := hb14; rw [hl] at this; exact this) ?_); intro p_5 a15
                obtain ⟨a16, ha16, hp⟩ := bind_some hp
                replace ha16 := (Option.some.inj ha16).symm
                refine WR.k0 rfl rfl (OS.stArr (q := (45 : UInt8)) (u := vU8 (45 : UInt8)) rfl Tryz.sizeOf5 rfl (by kernel_rfl) o2 rfl a15 (by have h1 := (by have := hb14; rw [hl] at this; exact this); rw [hl]; omega) rfl ?_); intro w_17 o14 s14
                replace o14 : Arr E5 40 w_17 c_6 p_ a16 := by rw [ha16]; exact o14
                have hl12 : a16.length = 65 := (by rw [ha16, List.length_set]; exact hl)
                refine WR.nil ?_
                exact ⟨_, _, _, hp, h68, h70, h71, h72, h73, rfl, o14, hl12, s14.mono (by decide)⟩
              · rw [if_neg (nt hb13)] at hp
                refine WC.skip ?_
                exact ⟨_, _, _, hp, h68, h70, h71, h72, h73, h74, o2, hl, St.refl.mono (by decide)⟩
            · rintro f_9 w_16 ⟨a14, i6, c_12, hp, h75, h76, h77, h78, h79, h80, o13, hl11, s15⟩
              unfold strconv_formatBits.j4 at hp
              refine WC.seq ?_
              refine WC.seq (WC.region ?_)
              refine WR.k rfl rfl rfl (OS.move (v := vB append_) rfl h76 ?_)
              refine WR.nil ?_
              refine WC.cond (append_) rfl (fun hb15 => ?_) (fun hb15 => ?_)
              · rw [if_pos hb15] at hp
                cases hp
              · rw [if_neg (nt hb15)] at hp
                refine WC.skip ?_
                refine WC.seq (WC.region ?_)
                refine WR.k rfl rfl rfl (OS.move (v := vI i6) rfl h80 ?_)
                obtain ⟨ys1, hys1, hp⟩ := bind_some hp
                obtain ⟨ha12, hb16, hc4, hys1⟩ := sub_some hys1
                refine WR.k rfl rfl rfl (OS.sliceA (E := E5) rfl Tryz.underlying169 Tryz.sizeOf5 h79 o13 hl11 (Bd.some rfl ha12) Bd.none (by omega) (by have := hl11; omega) ?_); intro v_1 y
                replace y : Vw E5 40 w_16 c_12 v_1 ys1 := by rw [hys1]; exact y
                refine WR.k rfl rfl rfl (OS.bytesToStr rfl Tryz.underlying25 Tryz.underlying5 Tryz.underlying9 rfl y ?_)
                refine WR.k rfl rfl rfl (OS.assign (v := vS ys1) rfl rfl ?_)
                refine WR.nil ?_
                refine WC.ret ?_
                repeat first | refine thenQ_ret ?_ | refine blkQ_ret ?_
                cases hp
                exact fnQ.ls (fn := Tryz.f111) (rs := [.tmp 10, .tmp 11]) (vs := [(.slice none 0 0), vS ys1]) rfl ⟨(.inl ⟨_, rfl, h77⟩), (.inl ⟨_, rfl, rfl⟩), trivial⟩ ⟨⟨none, 0, 0⟩, _, rfl, (((s.t s2).t s13).t s15).leave hcw (by decide), Ow.nil⟩ (by simp)

-- internal/strconv.FormatInt
set_option maxHeartbeats 4000000 in
theorem W84 (K : Nat) (w0 : World) (cw : Col) (hcw : ∀ b, cw b < 40) {i : Int} {base : Int} {r : (List UInt8)} (hp : strconv_FormatInt_84 K i base = some r) {gi0 : Nat} (hgi0 : gi0 ≤ 1) (og0 : Arr E76 gi0 w0 cw (.pointer (some ⟨0, 0, none⟩)) tab0) {gi7 : Nat} (hgi7 : gi7 ≤ 1) (og7 : Arr E5 gi7 w0 cw (.pointer (some ⟨7, 0, none⟩)) tab7) :
    Calls Tryz.prog 84 [vI i, vI base].toArray w0 fun e w1 => ∃ (d : Col), e = .returned (vS r) ∧ St [] w0 cw w1 d := by
  refine calls_intro Tryz.func84 rfl Tryz.ntmps84 rfl ?_
  unfold strconv_FormatInt_84 at hp
  refine WC.seq (WC.region ?_)
  refine WR.k rfl rfl rfl (OS.assign (v := vS ([] : List UInt8)) rfl rfl ?_)
  refine WR.nil ?_
  refine WC.seq ?_
  refine WC.seq (WC.region ?_)
  refine WR.k rfl rfl rfl (OS.move (v := vI base) rfl rfl ?_)
  refine WR.k rfl rfl rfl (OS.bin (a := vI base) (b := vI (10 : Int)) rfl rfl rfl bI_eql ?_)
  refine WR.nil ?_
  refine WC.cond (decide (base = (10 : Int))) rfl (fun hb => ?_) (fun hb => ?_)
  · rw [if_pos hb] at hp
    refine WC.seq ?_
    refine WC.seq (WC.region ?_)
    refine WR.k rfl rfl rfl (OS.move (v := vI i) rfl rfl ?_)
    refine WR.k rfl rfl rfl (OS.bin (a := vI (0 : Int)) (b := vI i) rfl rfl rfl bI_leq ?_)
    refine WR.k rfl rfl rfl (OS.move (v := vB (decide ((0 : Int) ≤ i))) rfl rfl ?_)
    refine WR.cut2 3 (fun f_ w_ => f_ 0 = vI i ∧ f_ 17 = vB ((decide ((0 : Int) ≤ i)) && (decide (i < (100 : Int)))) ∧ w0 = w_) ?_ ?_
    · rcases Bool.eq_false_or_eq_true (decide ((0 : Int) ≤ i)) with hg | hg
      · refine WR.kT rfl rfl (vb_t rfl hg) rfl rfl (OS.move (v := vI i) rfl rfl ?_)
        refine WR.kT rfl rfl (vb_t rfl hg) rfl rfl (OS.bin (a := vI i) (b := vI (100 : Int)) rfl rfl rfl bI_lss ?_)
        refine WR.k rfl rfl rfl (OS.pickT rfl (vb_t rfl hg) rfl ?_)
        refine WR.nil ?_
        exact ⟨rfl, (and_t hg), rfl⟩
      · refine WR.gF rfl rfl (vb_f rfl hg) rfl rfl ?_
        refine WR.gF rfl rfl (vb_f rfl hg) rfl rfl ?_
        refine WR.k rfl rfl rfl (OS.pickF rfl (vb_f rfl hg) rfl ?_)
        refine WR.nil ?_
        exact ⟨rfl, (and_f hg), rfl⟩
    · rintro f_ _ ⟨h, h1, rfl⟩
      refine WR.nil ?_
      refine WC.cond ((decide ((0 : Int) ≤ i)) && (decide (i < (100 : Int)))) h1 (fun hb1 => ?_) (fun hb1 => ?_)
      · rw [if_pos hb1] at hp
        cases hp
      · rw [if_neg (nt hb1)] at hp
        refine WC.skip ?_
        refine WC.seq (WC.region ?_)
        refine WR.k rfl rfl rfl (OS.allocArr (E := E5) (xs := (List.replicate 24 (0 : UInt8))) (c := cw) 40 rfl Tryz.zeroValue143 (by kernel_rfl) ?_); intro p_ w_1 c_1 o s
        refine WR.nil ?_
        refine WC.seq (WC.region ?_)
        refine WR.k rfl rfl rfl (OS.move (v := vI i) rfl h ?_)
        refine WR.k rfl rfl rfl (OS.conv rfl Tryz.runUnderlying2 Tryz.runUnderlying76 rfl (cv_i64 _) ?_)
        refine WR.k rfl rfl rfl (OS.assign (v := vU64 (iU64 i)) rfl rfl ?_)
        refine WR.nil ?_
        refine WC.seq ?_
        refine WC.seq (WC.region ?_)
        refine WR.k rfl rfl rfl (OS.move (v := vI i) rfl h ?_)
        refine WR.k rfl rfl rfl (OS.bin (a := vI i) (b := vI (0 : Int)) rfl rfl rfl bI_lss ?_)
        refine WR.nil ?_
        refine WC.endJ (fun f_1 w_2 => ∃ (u : UInt64), strconv_FormatInt_84.j1 K u = some r ∧ f_1 0 = vI i ∧ f_1 5 = p_ ∧ f_1 6 = vU64 u ∧ w_1 = w_2) ?_ ?_
        · refine WC.cond (decide (i < (0 : Int))) rfl (fun hb2 => ?_) (fun hb2 => ?_)
          · rw [if_pos hb2] at hp
            refine WC.region ?_
            refine WR.k rfl rfl rfl (OS.move (v := vU64 (iU64 i)) rfl rfl ?_)
            refine WR.k rfl rfl rfl (OS.neg64 rfl rfl ?_)
            refine WR.k rfl rfl rfl (OS.assign (v := vU64 (0 - (iU64 i))) rfl rfl ?_)
            refine WR.nil ?_
            exact ⟨_, hp, h, rfl, rfl, rfl⟩
          · rw [if_neg (nt hb2)] at hp
            refine WC.skip ?_
            exact ⟨_, hp, h, rfl, rfl, rfl⟩
        · rintro f_1 _ ⟨u, hp, h2, h3, h4, rfl⟩
          unfold strconv_FormatInt_84.j1 at hp
          cases hp
  · rw [if_neg (nt hb)] at hp
    refine WC.skip ?_
    refine WC.seq (WC.region ?_)
    refine WR.k rfl rfl rfl (OS.move (v := vI i) rfl rfl ?_)
    refine WR.k rfl rfl rfl (OS.conv rfl Tryz.runUnderlying2 Tryz.runUnderlying76 rfl (cv_i64 _) ?_)
    refine WR.k rfl rfl rfl (OS.move (v := vI base) rfl rfl ?_)
    refine WR.k rfl rfl rfl (OS.move (v := vI i) rfl rfl ?_)
    refine WR.k rfl rfl rfl (OS.bin (a := vI i) (b := vI (0 : Int)) rfl rfl rfl bI_lss ?_)
    obtain ⟨r_, hr_, hp⟩ := bind_some hp
    refine WR.k rfl rfl rfl (OS.callF (vs := [(.slice none 0 0), vU64 (iU64 i), vI base, vB (decide (i < (0 : Int))), vB false]) rfl ⟨rfl, rfl, rfl, rfl, rfl, trivial⟩ Tryz.call111 ((W111 (i := 0) (gi7 := gi7) K w0 (rcc [] cw) (rcc_lt cw rfl) hr_ (by decide) Vw.nil hgi7 (og7.tr (rc_tr (rc_low hgi7 rfl)))).mono ?_))
    rintro _ w_3 ⟨sl, d1, rfl, s1, o1⟩
    refine ⟨_, rfl, ?_⟩
    obtain ⟨c_3, s2, o1⟩ : ∃ c_3, St [] w0 cw w_3 c_3 ∧ Ow E5 22000 w_3 c_3 sl.val r_.1 := ⟨_, s1.mg2 (sh := 20000) rfl, (o1.tr (mg2_back s1 rfl))⟩
    refine WR.k rfl rfl rfl (OS.move (v := .tuple #[sl.val, vS r_.2]) rfl rfl ?_)
    refine WR.k rfl rfl rfl (OS.extract (v := sl.val) rfl rfl rfl ?_)
    refine WR.k rfl rfl rfl (OS.extract (v := vS r_.2) rfl rfl rfl ?_)
    refine WR.k rfl rfl rfl (OS.assign (v := sl.val) rfl rfl ?_)
    refine WR.k rfl rfl rfl (OS.assign (v := vS r_.2) rfl rfl ?_)
    refine WR.nil ?_
    refine WC.seq (WC.region ?_)
    refine WR.k rfl rfl rfl (OS.move (v := vS r_.2) rfl rfl ?_)
    refine WR.k rfl rfl rfl (OS.assign (v := vS r_.2) rfl rfl ?_)
    refine WR.nil ?_
    refine WC.ret ?_
    repeat first | refine thenQ_ret ?_ | refine blkQ_ret ?_
    cases hp
    exact fnQ.l1 (fn := Tryz.f84) rfl (.inl ⟨_, rfl, rfl⟩) ⟨_, rfl, s2.leave hcw (by decide)⟩

-- strconv.FormatInt
set_option maxHeartbeats 4000000 in
theorem W57 (K : Nat) (w0 : World) (cw : Col) (hcw : ∀ b, cw b < 40) {i : Int} {base : Int} {r : (List UInt8)} (hp : strconv_FormatInt_57 K i base = some r) {gi0 : Nat} (hgi0 : gi0 ≤ 1) (og0 : Arr E76 gi0 w0 cw (.pointer (some ⟨0, 0, none⟩)) tab0) {gi7 : Nat} (hgi7 : gi7 ≤ 1) (og7 : Arr E5 gi7 w0 cw (.pointer (some ⟨7, 0, none⟩)) tab7) :
    Calls Tryz.prog 57 [vI i, vI base].toArray w0 fun e w1 => ∃ (d : Col), e = .returned (vS r) ∧ St [] w0 cw w1 d := by
  refine calls_intro Tryz.func57 rfl Tryz.ntmps57 rfl ?_
  unfold strconv_FormatInt_57 at hp
  refine WC.seq (WC.region ?_)
  refine WR.k rfl rfl rfl (OS.assign (v := vS ([] : List UInt8)) rfl rfl ?_)
  refine WR.nil ?_
  refine WC.seq (WC.region ?_)
  refine WR.k rfl rfl rfl (OS.move (v := vI i) rfl rfl ?_)
  refine WR.k rfl rfl rfl (OS.move (v := vI base) rfl rfl ?_)
  obtain ⟨r_, hr_, hp⟩ := bind_some hp
  refine WR.k rfl rfl rfl (OS.callF (vs := [vI i, vI base]) rfl ⟨rfl, rfl, trivial⟩ Tryz.call84 ((W84 (gi0 := gi0) (gi7 := gi7) K w0 (rcc [] cw) (rcc_lt cw rfl) hr_ hgi0 (og0.tr (rc_tr (rc_low hgi0 rfl))) hgi7 (og7.tr (rc_tr (rc_low hgi7 rfl)))).mono ?_))
  rintro _ w_ ⟨d1, rfl, s⟩
  refine ⟨_, rfl, ?_⟩
  obtain ⟨c_, s1⟩ : ∃ c_, St [] w0 cw w_ c_ := ⟨_, s.mg2 (sh := 10000) rfl⟩
  refine WR.k rfl rfl rfl (OS.assign (v := vS r_) rfl rfl ?_)
  refine WR.nil ?_
  refine WC.ret ?_
  repeat first | refine thenQ_ret ?_ | refine blkQ_ret ?_
  cases hp
  exact fnQ.l1 (fn := Tryz.f57) rfl (.inl ⟨_, rfl, rfl⟩) ⟨_, rfl, s1.leave hcw (by decide)⟩

-- internal/stringslite.HasPrefix
set_option maxHeartbeats 4000000 in
theorem W107 (K : Nat) (w0 : World) {s : List UInt8} {prefix_ : List UInt8} {r : Bool} (hp : stringslite_HasPrefix K s prefix_ = some r) :
    Calls Tryz.prog 107 [vS s, vS prefix_].toArray w0 fun e w1 => ∃ (d : Col), e = .returned (vB r) ∧ St [] w0 c0 w1 d := by
  refine calls_intro Tryz.func107 rfl Tryz.ntmps107 rfl ?_
  unfold stringslite_HasPrefix at hp
  refine WC.seq (WC.region ?_)
  refine WR.k rfl rfl rfl (OS.assign (v := vB false) rfl rfl ?_)
  refine WR.nil ?_
  refine WC.seq (WC.region ?_)
  refine WR.k rfl rfl rfl (OS.move (v := vS s) rfl rfl ?_)
  refine WR.k rfl rfl rfl (OS.lenS rfl Tryz.runUnderlying9 rfl ?_)
  refine WR.k rfl rfl rfl (OS.move (v := vS prefix_) rfl rfl ?_)
  refine WR.k rfl rfl rfl (OS.lenS rfl Tryz.runUnderlying9 rfl ?_)
  refine WR.k rfl rfl rfl (OS.bin (a := vI (s.length : Int)) (b := vI (prefix_.length : Int)) rfl rfl rfl bI_geq ?_)
  refine WR.k rfl rfl rfl (OS.move (v := vB (decide ((prefix_.length : Int) ≤ (s.length : Int)))) rfl rfl ?_)
  obtain ⟨b, ht, hp⟩ := bind_some hp
  refine WR.cut2 7 (fun f_ w_ => f_ 17 = vB b ∧ w0 = w_) ?_ ?_
  · rcases Bool.eq_false_or_eq_true (decide ((prefix_.length : Int) ≤ (s.length : Int))) with hg | hg
    · rw [if_pos hg] at ht
      refine WR.kT rfl rfl (vb_t rfl hg) rfl rfl (OS.move (v := vS s) rfl rfl ?_)
      refine WR.kT rfl rfl (vb_t rfl hg) rfl rfl (OS.move (v := vS prefix_) rfl rfl ?_)
      refine WR.kT rfl rfl (vb_t rfl hg) rfl rfl (OS.lenS rfl Tryz.runUnderlying9 rfl ?_)
      obtain ⟨t1, ht1, ht⟩ := bind_some ht
      obtain ⟨ha, hb, hc, ht1⟩ := sub_some ht1
      replace ht1 : t1 = (s.take ((prefix_.length : Int)).toNat).drop 0 := ht1
      refine WR.kT rfl rfl (vb_t rfl hg) rfl rfl (OS.sliceS rfl Tryz.underlying9 rfl Bd.none (Bd.some rfl (by omega)) (by omega) (by omega) ?_)
      rw [← ht1]
      refine WR.kT rfl rfl (vb_t rfl hg) rfl rfl (OS.move (v := vS prefix_) rfl rfl ?_)
      refine WR.kT rfl rfl (vb_t rfl hg) rfl rfl (OS.bin (a := vS t1) (b := vS prefix_) rfl rfl rfl bS_eql ?_)
      refine WR.k rfl rfl rfl (OS.pickT rfl (vb_t rfl hg) rfl ?_)
      cases ht
      refine WR.nil ?_
      exact ⟨rfl, rfl⟩
    · rw [if_neg (nt hg)] at ht
      refine WR.gF rfl rfl (vb_f rfl hg) rfl rfl ?_
      refine WR.gF rfl rfl (vb_f rfl hg) rfl rfl ?_
      refine WR.gF rfl rfl (vb_f rfl hg) rfl rfl ?_
      refine WR.gF rfl rfl (vb_f rfl hg) rfl rfl ?_
      refine WR.gF rfl rfl (vb_f rfl hg) rfl rfl ?_
      refine WR.gF rfl rfl (vb_f rfl hg) rfl rfl ?_
      refine WR.k rfl rfl rfl (OS.pickF rfl (vb_f rfl hg) rfl ?_)
      cases ht
      refine WR.nil ?_
      exact ⟨rfl, rfl⟩
  · rintro f_ _ ⟨h, rfl⟩
    refine WR.k rfl rfl rfl (OS.assign (v := vB b) rfl h ?_)
    refine WR.nil ?_
    refine WC.ret ?_
    repeat first | refine thenQ_ret ?_ | refine blkQ_ret ?_
    cases hp
    exact fnQ.l1 (fn := Tryz.f107) rfl (.inl ⟨_, rfl, rfl⟩) ⟨_, rfl, St.refl⟩

-- internal/stringslite.TrimPrefix
set_option maxHeartbeats 4000000 in
theorem W83 (K : Nat) (w0 : World) {s : List UInt8} {prefix_ : List UInt8} {r : (List UInt8)} (hp : stringslite_TrimPrefix K s prefix_ = some r) :
    Calls Tryz.prog 83 [vS s, vS prefix_].toArray w0 fun e w1 => ∃ (d : Col), e = .returned (vS r) ∧ St [] w0 c0 w1 d := by
  refine calls_intro Tryz.func83 rfl Tryz.ntmps83 rfl ?_
  unfold stringslite_TrimPrefix at hp
  refine WC.seq (WC.region ?_)
  refine WR.k rfl rfl rfl (OS.assign (v := vS ([] : List UInt8)) rfl rfl ?_)
  refine WR.nil ?_
  refine WC.seq ?_
  refine WC.seq (WC.region ?_)
  refine WR.k rfl rfl rfl (OS.move (v := vS s) rfl rfl ?_)
  refine WR.k rfl rfl rfl (OS.move (v := vS prefix_) rfl rfl ?_)
  obtain ⟨r_, hr_, hp⟩ := bind_some hp
  refine WR.k rfl rfl rfl (OS.callF (vs := [vS s, vS prefix_]) rfl ⟨rfl, rfl, trivial⟩ Tryz.call107 ((W107 K w0 hr_).mono ?_))
  rintro _ w_ ⟨d, rfl, s1⟩
  refine ⟨_, rfl, ?_⟩
  obtain ⟨c_, s2⟩ : ∃ c_, St [] w0 c0 w_ c_ := ⟨_, s1.merge (fun x => x + 11)⟩
  refine WR.nil ?_
  refine WC.cond (r_) rfl (fun hb => ?_) (fun hb => ?_)
  · rw [if_pos hb] at hp
    refine WC.seq (WC.region ?_)
    refine WR.k rfl rfl rfl (OS.move (v := vS s) rfl rfl ?_)
    refine WR.k rfl rfl rfl (OS.move (v := vS prefix_) rfl rfl ?_)
    refine WR.k rfl rfl rfl (OS.lenS rfl Tryz.runUnderlying9 rfl ?_)
    obtain ⟨t, ht, hp⟩ := bind_some hp
    obtain ⟨ha, hb1, hc, ht⟩ := sub_some ht
    replace ht : t = (s.take s.length).drop ((prefix_.length : Int)).toNat := ht
    refine WR.k rfl rfl rfl (OS.sliceS rfl Tryz.underlying9 rfl (Bd.some rfl ha) Bd.none (by omega) (by omega) ?_)
    rw [← ht]
    refine WR.k rfl rfl rfl (OS.assign (v := vS t) rfl rfl ?_)
    refine WR.nil ?_
    refine WC.ret ?_
    repeat first | refine thenQ_ret ?_ | refine blkQ_ret ?_
    cases hp
    exact fnQ.l1 (fn := Tryz.f83) rfl (.inl ⟨_, rfl, rfl⟩) ⟨_, rfl, s2.entry (by decide)⟩
  · rw [if_neg (nt hb)] at hp
    refine WC.skip ?_
    refine WC.seq (WC.region ?_)
    refine WR.k rfl rfl rfl (OS.move (v := vS s) rfl rfl ?_)
    refine WR.k rfl rfl rfl (OS.assign (v := vS s) rfl rfl ?_)
    refine WR.nil ?_
    refine WC.ret ?_
    repeat first | refine thenQ_ret ?_ | refine blkQ_ret ?_
    cases hp
    exact fnQ.l1 (fn := Tryz.f83) rfl (.inl ⟨_, rfl, rfl⟩) ⟨_, rfl, s2.entry (by decide)⟩

-- strings.TrimPrefix
set_option maxHeartbeats 4000000 in
theorem W56 (K : Nat) (w0 : World) {s : List UInt8} {prefix_ : List UInt8} {r : (List UInt8)} (hp : strings_TrimPrefix K s prefix_ = some r) :
    Calls Tryz.prog 56 [vS s, vS prefix_].toArray w0 fun e w1 => ∃ (d : Col), e = .returned (vS r) ∧ St [] w0 c0 w1 d := by
  refine calls_intro Tryz.func56 rfl Tryz.ntmps56 rfl ?_
  unfold strings_TrimPrefix at hp
  refine WC.seq (WC.region ?_)
  refine WR.k rfl rfl rfl (OS.assign (v := vS ([] : List UInt8)) rfl rfl ?_)
  refine WR.nil ?_
  refine WC.seq (WC.region ?_)
  refine WR.k rfl rfl rfl (OS.move (v := vS s) rfl rfl ?_)
  refine WR.k rfl rfl rfl (OS.move (v := vS prefix_) rfl rfl ?_)
  obtain ⟨r_, hr_, hp⟩ := bind_some hp
  refine WR.k rfl rfl rfl (OS.callF (vs := [vS s, vS prefix_]) rfl ⟨rfl, rfl, trivial⟩ Tryz.call83 ((W83 K w0 hr_).mono ?_))
  rintro _ w_ ⟨d, rfl, s1⟩
  refine ⟨_, rfl, ?_⟩
  obtain ⟨c_, s2⟩ : ∃ c_, St [] w0 c0 w_ c_ := ⟨_, s1.merge (fun x => x + 11)⟩
  refine WR.k rfl rfl rfl (OS.assign (v := vS r_) rfl rfl ?_)
  refine WR.nil ?_
  refine WC.ret ?_
  repeat first | refine thenQ_ret ?_ | refine blkQ_ret ?_
  cases hp
  exact fnQ.l1 (fn := Tryz.f56) rfl (.inl ⟨_, rfl, rfl⟩) ⟨_, rfl, s2.entry (by decide)⟩

-- holdfast/codec.Number
set_option maxHeartbeats 4000000 in
theorem W35 (K : Nat) (w0 : World) (cw : Col) (hcw : ∀ b, cw b < 40) {n1 : Int} {r : (List UInt8) × Int} (hp : codec_Number K n1 = some r) {gi0 : Nat} (hgi0 : gi0 ≤ 1) (og0 : Arr E76 gi0 w0 cw (.pointer (some ⟨0, 0, none⟩)) tab0) {gi7 : Nat} (hgi7 : gi7 ≤ 1) (og7 : Arr E5 gi7 w0 cw (.pointer (some ⟨7, 0, none⟩)) tab7) :
    Calls Tryz.prog 35 [vI n1].toArray w0 fun e w1 => ∃ (d : Col), e = .returned (.tuple #[vS r.1, vI r.2]) ∧ St [] w0 cw w1 d := by
  refine calls_intro Tryz.func35 rfl Tryz.ntmps35 rfl ?_
  unfold codec_Number at hp
  refine WC.seq (WC.region ?_)
  refine WR.k rfl rfl rfl (OS.assign (v := vS ([] : List UInt8)) rfl rfl ?_)
  refine WR.k rfl rfl rfl (OS.assign (v := vI (0 : Int)) rfl rfl ?_)
  refine WR.nil ?_
  refine WC.seq ?_
  refine WC.seq (WC.region ?_)
  refine WR.k rfl rfl rfl (OS.move (v := vI n1) rfl rfl ?_)
  refine WR.k rfl rfl rfl (OS.bin (a := vI n1) (b := vI (0 : Int)) rfl rfl rfl bI_lss ?_)
  refine WR.k rfl rfl rfl (OS.move (v := vB (decide (n1 < (0 : Int)))) rfl rfl ?_)
  refine WR.cut2 3 (fun f_ w_ => f_ 0 = vI n1 ∧ f_ 10 = vB ((decide (n1 < (0 : Int))) || (decide ((4611686018427387904 : Int) < n1))) ∧ w0 = w_) ?_ ?_
  · rcases Bool.eq_false_or_eq_true (decide (n1 < (0 : Int))) with hg | hg
    · refine WR.gF rfl rfl (vb_t rfl hg) rfl rfl ?_
      refine WR.gF rfl rfl (vb_t rfl hg) rfl rfl ?_
      refine WR.k rfl rfl rfl (OS.pickT rfl (vb_t rfl hg) rfl ?_)
      refine WR.nil ?_
      exact ⟨rfl, (or_t hg), rfl⟩
    · refine WR.kT rfl rfl (vb_f rfl hg) rfl rfl (OS.move (v := vI n1) rfl rfl ?_)
      refine WR.kT rfl rfl (vb_f rfl hg) rfl rfl (OS.bin (a := vI n1) (b := vI (4611686018427387904 : Int)) rfl rfl rfl bI_gtr ?_)
      refine WR.k rfl rfl rfl (OS.pickF rfl (vb_f rfl hg) rfl ?_)
      refine WR.nil ?_
      exact ⟨rfl, (or_f hg), rfl⟩
  · rintro f_ _ ⟨h, h1, rfl⟩
    refine WR.nil ?_
    refine WC.cond ((decide (n1 < (0 : Int))) || (decide ((4611686018427387904 : Int) < n1))) h1 (fun hb => ?_) (fun hb => ?_)
    · rw [if_pos hb] at hp
      refine WC.seq (WC.region ?_)
      refine WR.k rfl rfl rfl (OS.assign (v := vS ([] : List UInt8)) rfl rfl ?_)
      refine WR.k rfl rfl rfl (OS.assign (v := vI (2 : Int)) rfl rfl ?_)
      refine WR.nil ?_
      refine WC.ret ?_
      repeat first | refine thenQ_ret ?_ | refine blkQ_ret ?_
      cases hp
      exact fnQ.ls (fn := Tryz.f35) (rs := [.tmp 2, .tmp 3]) (vs := [vS ([] : List UInt8), vI (2 : Int)]) rfl ⟨(.inl ⟨_, rfl, rfl⟩), (.inl ⟨_, rfl, rfl⟩), trivial⟩ ⟨_, rfl, (St.refl.mono (by decide))⟩ (by simp)
    · rw [if_neg (nt hb)] at hp
      refine WC.skip ?_
      refine WC.seq (WC.region ?_)
      refine WR.k rfl rfl rfl (OS.move (v := vI n1) rfl h ?_)
      obtain ⟨r_, hr_, hp⟩ := bind_some hp
      refine WR.k rfl rfl rfl (OS.callF (vs := [vI n1, vI (16 : Int)]) rfl ⟨rfl, rfl, trivial⟩ Tryz.call57 ((W57 (gi0 := gi0) (gi7 := gi7) K w0 (rcc [] cw) (rcc_lt cw rfl) hr_ hgi0 (og0.tr (rc_tr (rc_low hgi0 rfl))) hgi7 (og7.tr (rc_tr (rc_low hgi7 rfl)))).mono ?_))
      rintro _ w_1 ⟨d1, rfl, s⟩
      refine ⟨_, rfl, ?_⟩
      obtain ⟨c_1, s1⟩ : ∃ c_1, St [] w0 cw w_1 c_1 := ⟨_, s.mg2 (sh := 10000) rfl⟩
      obtain ⟨r_1, hr_1, hp⟩ := bind_some hp
      refine WR.k rfl rfl rfl (OS.callF (vs := [vS r_, vS ([48] : List UInt8)]) rfl ⟨rfl, rfl, trivial⟩ Tryz.call56 ((W56 K w_1 hr_1).mono ?_))
      rintro _ w_2 ⟨d2, rfl, s2⟩
      refine ⟨_, rfl, ?_⟩
      obtain ⟨c_2, s3⟩ : ∃ c_2, St [] w_1 c_1 w_2 c_2 := ⟨_, s2.merge (fun x => x + 39)⟩
      refine WR.k rfl rfl rfl (OS.assign (v := vS r_1) rfl rfl ?_)
      refine WR.nil ?_
      refine WC.seq (WC.region ?_)
      refine WR.k rfl rfl rfl (OS.move (v := vS r_1) rfl rfl ?_)
      refine WR.k rfl rfl rfl (OS.lenS rfl Tryz.runUnderlying9 rfl ?_)
      refine WR.k rfl rfl rfl (OS.bin (a := vI (97 : Int)) (b := vI (r_1.length : Int)) rfl rfl rfl bI_add ?_)
      refine WR.k rfl rfl rfl (OS.conv rfl Tryz.runUnderlying3 Tryz.runUnderlying21 rfl (cv_ir _) ?_)
      refine WR.k rfl rfl rfl (OS.runeStr rfl Tryz.runUnderlying21 Tryz.runUnderlying9 rfl ?_)
      refine WR.k rfl rfl rfl (OS.move (v := vS r_1) rfl rfl ?_)
      obtain ⟨t, ht, hp⟩ := bind_some hp
      obtain ⟨ha, ht⟩ := app_some ht
      refine WR.k rfl rfl rfl (OS.bin (a := vS (runeS (R32 (W ((97 : Int) + (r_1.length : Int)))))) (b := vS r_1) (v := vS t) rfl rfl rfl (by rw [ht]; exact bS_add ha) ?_)
      refine WR.k rfl rfl rfl (OS.assign (v := vS t) rfl rfl ?_)
      refine WR.k rfl rfl rfl (OS.assign (v := vI (0 : Int)) rfl rfl ?_)
      refine WR.nil ?_
      refine WC.ret ?_
      repeat first | refine thenQ_ret ?_ | refine blkQ_ret ?_
      cases hp
      exact fnQ.ls (fn := Tryz.f35) (rs := [.tmp 2, .tmp 3]) (vs := [vS t, vI (0 : Int)]) rfl ⟨(.inl ⟨_, rfl, rfl⟩), (.inl ⟨_, rfl, rfl⟩), trivial⟩ ⟨_, rfl, (s1.t s3).leave hcw (by decide)⟩ (by simp)

-- (*holdfast/keys.Tree).Key
set_option maxHeartbeats 4000000 in
theorem W14n0 (K : Nat) (w0 : World) (cw : Col) (hcw : ∀ b, cw b < 40) {tenant : List UInt8} {name : List UInt8} {version : Int} {r : (List UInt8) × Int} (hp : keys_Tree_Key_nil0 K tenant name version = some r) {gi0 : Nat} (hgi0 : gi0 ≤ 1) (og0 : Arr E76 gi0 w0 cw (.pointer (some ⟨0, 0, none⟩)) tab0) {gi7 : Nat} (hgi7 : gi7 ≤ 1) (og7 : Arr E5 gi7 w0 cw (.pointer (some ⟨7, 0, none⟩)) tab7) :
    Calls Tryz.prog 14 [.pointer none, vS tenant, vS name, vI version].toArray w0 fun e w1 => ∃ (d : Col), e = .returned (.tuple #[.agg (fl E5 r.1).toArray, vI r.2]) ∧ St [] w0 cw w1 d ∧ r.1.length = 32 := by
  refine calls_intro Tryz.func14 rfl Tryz.ntmps14 rfl ?_
  unfold keys_Tree_Key_nil0 at hp
  refine WC.seq (WC.region ?_)
  refine WR.k rfl rfl rfl (OS.allocArr (E := E5) (xs := (List.replicate 32 (0 : UInt8))) (c := cw) 40 rfl Tryz.zeroValue23 (by kernel_rfl) ?_); intro p_ w_ c_ o s
  refine WR.k rfl rfl rfl (OS.assign (v := vI (0 : Int)) rfl rfl ?_)
  refine WR.nil ?_
  refine WC.seq (WC.region ?_)
  refine WR.k rfl rfl rfl (OS.move (v := .pointer none) rfl rfl ?_)
  refine WR.k rfl rfl rfl (OS.move (v := vS tenant) rfl rfl ?_)
  refine WR.k rfl rfl rfl (OS.move (v := vS name) rfl rfl ?_)
  obtain ⟨r_, hr_, hp⟩ := bind_some hp
  refine WR.k rfl rfl rfl (OS.callF (vs := [.pointer none, vS tenant, vS name]) rfl ⟨rfl, rfl, rfl, trivial⟩ Tryz.call13 ((W13n0 K w_ (rcc [] c_) (rcc_lt c_ rfl) hr_).mono ?_))
  rintro _ w_1 ⟨d1, rfl, s1⟩
  refine ⟨_, rfl, ?_⟩
  obtain ⟨c_1, s2⟩ : ∃ c_1, St [] w_ c_ w_1 c_1 := ⟨_, s1.mg2 (sh := 10000) rfl⟩
  refine WR.k rfl rfl rfl (OS.move (v := .tuple #[vI r_.1, vI r_.2]) rfl rfl ?_)
  refine WR.k rfl rfl rfl (OS.extract (v := vI r_.1) rfl rfl rfl ?_)
  refine WR.k rfl rfl rfl (OS.extract (v := vI r_.2) rfl rfl rfl ?_)
  refine WR.k rfl rfl rfl (OS.assign (v := vI r_.1) rfl rfl ?_)
  refine WR.k rfl rfl rfl (OS.assign (v := vI r_.2) rfl rfl ?_)
  refine WR.nil ?_
  refine WC.seq ?_
  refine WC.block ?_
  refine WC.seq (WC.region ?_)
  refine WR.k rfl rfl rfl (OS.move (v := vI r_.2) rfl rfl ?_)
  refine WR.k rfl rfl rfl (OS.bin (a := vI r_.2) (b := vI (0 : Int)) rfl rfl rfl bI_neq ?_)
  refine WR.k rfl rfl rfl (OS.assign (v := vB (!decide (r_.2 = (0 : Int)))) rfl rfl ?_)
  refine WR.nil ?_
  refine WC.cond (!decide (r_.2 = (0 : Int))) rfl (fun hb => ?_) (fun hb => ?_)
  · rw [if_pos hb] at hp
    refine WC.seq (WC.region ?_)
    obtain ⟨l, hl, hp⟩ := bind_some hp
    replace hl := (Option.some.inj hl).symm
    have hl1 : l.length = 32 := by rw [hl]; rfl
    refine WR.k rfl rfl rfl (OS.build (v := .agg (fl E5 l).toArray) [] rfl trivial (fun _ => by rw [hl]; kernel_rfl) ?_)
    refine WR.k rfl rfl rfl (OS.move (v := vI r_.2) rfl rfl ?_)
    have o1 := o.keep s2 (by decide)
    refine WR.k0 rfl rfl (OS.stArrAll rfl Tryz.sizeOf23 rfl rfl o1 (by rw [fl_length, hl1]; rfl) (Eq.trans (List.length_replicate (n := 32) (a := (0 : UInt8))) (Eq.symm hl1)) ?_); intro w_2 o2 s3
    have hl2 : l.length = 32 := hl1
    refine WR.k rfl rfl rfl (OS.assign (v := vI r_.2) rfl rfl ?_)
    refine WR.nil ?_
    refine WC.ret ?_
    repeat first | refine thenQ_ret ?_ | refine blkQ_ret ?_
    cases hp
    exact fnQ.ls (fn := Tryz.f14) (rs := [.cell 8 23, .tmp 9]) (vs := [.agg (fl E5 l).toArray, vI r_.2]) rfl ⟨(.inr ⟨_, _, _, _, rfl, ⟨_, rfl, Tryz.isAgg23, Tryz.sizeOf23, o2.ldAll, (by rw [fl_length, hl2]; rfl)⟩, rfl⟩), (.inl ⟨_, rfl, rfl⟩), trivial⟩ ⟨_, rfl, ((s.t s2).t s3).leave hcw (by decide), hl2⟩ (by simp)
  · rw [if_neg (nt hb)] at hp
    refine WC.seq (WC.region ?_)
    refine WR.k rfl rfl rfl (OS.move (v := vI version) rfl rfl ?_)
    refine WR.k rfl rfl rfl (OS.bin (a := vI version) (b := vI (1 : Int)) rfl rfl rfl bI_lss ?_)
    refine WR.k rfl rfl rfl (OS.move (v := vB (decide (version < (1 : Int)))) rfl rfl ?_)
    refine WR.cut2 4 (fun f_ w_3 => f_ 0 = .pointer none ∧ f_ 1 = vS tenant ∧ f_ 2 = vS name ∧ f_ 3 = vI version ∧ f_ 8 = p_ ∧ f_ 33 = vB ((decide (version < (1 : Int))) || (decide (r_.1 < version))) ∧ w_1 = w_3) ?_ ?_
    · rcases Bool.eq_false_or_eq_true (decide (version < (1 : Int))) with hg | hg
      · refine WR.gF rfl rfl (vb_t rfl hg) rfl rfl ?_
        refine WR.gF rfl rfl (vb_t rfl hg) rfl rfl ?_
        refine WR.gF rfl rfl (vb_t rfl hg) rfl rfl ?_
        refine WR.k rfl rfl rfl (OS.pickT rfl (vb_t rfl hg) rfl ?_)
        refine WR.nil ?_
        exact ⟨rfl, rfl, rfl, rfl, rfl, (or_t hg), rfl⟩
      · refine WR.kT rfl rfl (vb_f rfl hg) rfl rfl (OS.move (v := vI version) rfl rfl ?_)
        refine WR.kT rfl rfl (vb_f rfl hg) rfl rfl (OS.move (v := vI r_.1) rfl rfl ?_)
        refine WR.kT rfl rfl (vb_f rfl hg) rfl rfl (OS.bin (a := vI version) (b := vI r_.1) rfl rfl rfl bI_gtr ?_)
        refine WR.k rfl rfl rfl (OS.pickF rfl (vb_f rfl hg) rfl ?_)
        refine WR.nil ?_
        exact ⟨rfl, rfl, rfl, rfl, rfl, (or_f hg), rfl⟩
    · rintro f_ _ ⟨h, h1, h2, h3, h4, h5, rfl⟩
      refine WR.k rfl rfl rfl (OS.assign (v := vB ((decide (version < (1 : Int))) || (decide (r_.1 < version)))) rfl h5 ?_)
      refine WR.nil ?_
      refine WC.cond ((decide (version < (1 : Int))) || (decide (r_.1 < version))) rfl (fun hb1 => ?_) (fun hb1 => ?_)
      · rw [if_pos hb1] at hp
        refine WC.seq (WC.region ?_)
        obtain ⟨l3, hl3, hp⟩ := bind_some hp
        replace hl3 := (Option.some.inj hl3).symm
        have hl4 : l3.length = 32 := by rw [hl3]; rfl
        refine WR.k rfl rfl rfl (OS.build (v := .agg (fl E5 l3).toArray) [] rfl trivial (fun _ => by rw [hl3]; kernel_rfl) ?_)
        have o3 := o.keep s2 (by decide)
        refine WR.k0 rfl rfl (OS.stArrAll rfl Tryz.sizeOf23 h4 rfl o3 (by rw [fl_length, hl4]; rfl) (Eq.trans (List.length_replicate (n := 32) (a := (0 : UInt8))) (Eq.symm hl4)) ?_); intro w_4 o4 s4
        have hl5 : l3.length = 32 := hl4
        refine WR.k rfl rfl rfl (OS.assign (v := vI (2 : Int)) rfl rfl ?_)
        refine WR.nil ?_
        refine WC.ret ?_
        repeat first | refine thenQ_ret ?_ | refine blkQ_ret ?_
        cases hp
        exact fnQ.ls (fn := Tryz.f14) (rs := [.cell 8 23, .tmp 9]) (vs := [.agg (fl E5 l3).toArray, vI (2 : Int)]) rfl ⟨(.inr ⟨_, _, _, _, rfl, ⟨_, h4, Tryz.isAgg23, Tryz.sizeOf23, o4.ldAll, (by rw [fl_length, hl5]; rfl)⟩, rfl⟩), (.inl ⟨_, rfl, rfl⟩), trivial⟩ ⟨_, rfl, ((s.t s2).t s4).leave hcw (by decide), hl5⟩ (by simp)
      · rw [if_neg (nt hb1)] at hp
        cases hp

-- (*holdfast/keys.Tree).Seal
set_option maxHeartbeats 4000000 in
theorem W17n0 (K : Nat) (w0 : World) (cw : Col) (hcw : ∀ b, cw b < 40) {tenant : List UInt8} {name : List UInt8} {plain : List UInt8} {r : (List UInt8) × Int} (hp : keys_Tree_Seal_nil0 K tenant name plain = some r) {i : Nat} (hi : i ≤ 1) {v_ : Value} (o : Vw E5 i w0 cw v_ plain) {gi0 : Nat} (hgi0 : gi0 ≤ 1) (og0 : Arr E76 gi0 w0 cw (.pointer (some ⟨0, 0, none⟩)) tab0) {gi7 : Nat} (hgi7 : gi7 ≤ 1) (og7 : Arr E5 gi7 w0 cw (.pointer (some ⟨7, 0, none⟩)) tab7) :
    Calls Tryz.prog 17 [.pointer none, vS tenant, vS name, v_].toArray w0 fun e w1 => ∃ (sl : Sl) (d : Col), e = .returned (.tuple #[sl.val, vI r.2]) ∧ St [] w0 cw w1 d ∧ Ow E5 2000 w1 d sl.val r.1 := by
  refine calls_intro Tryz.func17 rfl Tryz.ntmps17 rfl ?_
  unfold keys_Tree_Seal_nil0 at hp
  refine WC.seq (WC.region ?_)
  refine WR.k rfl rfl rfl (OS.assign (v := (.slice none 0 0)) rfl rfl ?_)
  refine WR.k rfl rfl rfl (OS.assign (v := vI (0 : Int)) rfl rfl ?_)
  refine WR.nil ?_
  refine WC.seq (WC.region ?_)
  refine WR.k rfl rfl rfl (OS.move (v := .pointer none) rfl rfl ?_)
  refine WR.k rfl rfl rfl (OS.move (v := vS tenant) rfl rfl ?_)
  refine WR.k rfl rfl rfl (OS.move (v := vS name) rfl rfl ?_)
  obtain ⟨r_, hr_, hp⟩ := bind_some hp
  refine WR.k rfl rfl rfl (OS.callF (vs := [.pointer none, vS tenant, vS name]) rfl ⟨rfl, rfl, rfl, trivial⟩ Tryz.call13 ((W13n0 K w0 (rcc [] cw) (rcc_lt cw rfl) hr_).mono ?_))
  rintro _ w_ ⟨d1, rfl, s⟩
  refine ⟨_, rfl, ?_⟩
  obtain ⟨c_, s1⟩ : ∃ c_, St [] w0 cw w_ c_ := ⟨_, s.mg2 (sh := 10000) rfl⟩
  refine WR.k rfl rfl rfl (OS.move (v := .tuple #[vI r_.1, vI r_.2]) rfl rfl ?_)
  refine WR.k rfl rfl rfl (OS.extract (v := vI r_.1) rfl rfl rfl ?_)
  refine WR.k rfl rfl rfl (OS.extract (v := vI r_.2) rfl rfl rfl ?_)
  refine WR.k rfl rfl rfl (OS.assign (v := vI r_.1) rfl rfl ?_)
  refine WR.k rfl rfl rfl (OS.assign (v := vI r_.2) rfl rfl ?_)
  refine WR.nil ?_
  refine WC.seq ?_
  refine WC.seq (WC.region ?_)
  refine WR.k rfl rfl rfl (OS.move (v := vI r_.2) rfl rfl ?_)
  refine WR.k rfl rfl rfl (OS.bin (a := vI r_.2) (b := vI (0 : Int)) rfl rfl rfl bI_neq ?_)
  refine WR.nil ?_
  refine WC.cond (!decide (r_.2 = (0 : Int))) rfl (fun hb => ?_) (fun hb => ?_)
  · rw [if_pos hb] at hp
    refine WC.seq (WC.region ?_)
    refine WR.k rfl rfl rfl (OS.move (v := vI r_.2) rfl rfl ?_)
    refine WR.k rfl rfl rfl (OS.assign (v := (.slice none 0 0)) rfl rfl ?_)
    refine WR.k rfl rfl rfl (OS.assign (v := vI r_.2) rfl rfl ?_)
    refine WR.nil ?_
    refine WC.ret ?_
    repeat first | refine thenQ_ret ?_ | refine blkQ_ret ?_
    cases hp
    exact fnQ.ls (fn := Tryz.f17) (rs := [.tmp 8, .tmp 9]) (vs := [(.slice none 0 0), vI r_.2]) rfl ⟨(.inl ⟨_, rfl, rfl⟩), (.inl ⟨_, rfl, rfl⟩), trivial⟩ ⟨⟨none, 0, 0⟩, _, rfl, s1.leave hcw (by decide), Ow.nil⟩ (by simp)
  · rw [if_neg (nt hb)] at hp
    cases hp

-- holdfast/seal.Size
set_option maxHeartbeats 4000000 in
theorem W67 (K : Nat) (w0 : World) {plain : Int} {r : Int} (hp : seal_Size K plain = some r) :
    Calls Tryz.prog 67 [vI plain].toArray w0 fun e w1 => ∃ (d : Col), e = .returned (vI r) ∧ St [] w0 c0 w1 d := by
  refine calls_intro Tryz.func67 rfl Tryz.ntmps67 rfl ?_
  unfold seal_Size at hp
  refine WC.seq (WC.region ?_)
  refine WR.k rfl rfl rfl (OS.assign (v := vI (0 : Int)) rfl rfl ?_)
  refine WR.nil ?_
  refine WC.seq ?_
  refine WC.seq (WC.region ?_)
  refine WR.k rfl rfl rfl (OS.move (v := vI plain) rfl rfl ?_)
  refine WR.k rfl rfl rfl (OS.bin (a := vI plain) (b := vI (0 : Int)) rfl rfl rfl bI_lss ?_)
  refine WR.k rfl rfl rfl (OS.move (v := vB (decide (plain < (0 : Int)))) rfl rfl ?_)
  refine WR.cut2 3 (fun f_ w_ => f_ 0 = vI plain ∧ f_ 8 = vB ((decide (plain < (0 : Int))) || (decide ((1024 : Int) < plain))) ∧ w0 = w_) ?_ ?_
  · rcases Bool.eq_false_or_eq_true (decide (plain < (0 : Int))) with hg | hg
    · refine WR.gF rfl rfl (vb_t rfl hg) rfl rfl ?_
      refine WR.gF rfl rfl (vb_t rfl hg) rfl rfl ?_
      refine WR.k rfl rfl rfl (OS.pickT rfl (vb_t rfl hg) rfl ?_)
      refine WR.nil ?_
      exact ⟨rfl, (or_t hg), rfl⟩
    · refine WR.kT rfl rfl (vb_f rfl hg) rfl rfl (OS.move (v := vI plain) rfl rfl ?_)
      refine WR.kT rfl rfl (vb_f rfl hg) rfl rfl (OS.bin (a := vI plain) (b := vI (1024 : Int)) rfl rfl rfl bI_gtr ?_)
      refine WR.k rfl rfl rfl (OS.pickF rfl (vb_f rfl hg) rfl ?_)
      refine WR.nil ?_
      exact ⟨rfl, (or_f hg), rfl⟩
  · rintro f_ _ ⟨h, h1, rfl⟩
    refine WR.nil ?_
    refine WC.cond ((decide (plain < (0 : Int))) || (decide ((1024 : Int) < plain))) h1 (fun hb => ?_) (fun hb => ?_)
    · rw [if_pos hb] at hp
      refine WC.seq (WC.region ?_)
      refine WR.k rfl rfl rfl (OS.assign (v := vI (0 : Int)) rfl rfl ?_)
      refine WR.nil ?_
      refine WC.ret ?_
      repeat first | refine thenQ_ret ?_ | refine blkQ_ret ?_
      cases hp
      exact fnQ.l1 (fn := Tryz.f67) rfl (.inl ⟨_, rfl, rfl⟩) ⟨_, rfl, St.refl⟩
    · rw [if_neg (nt hb)] at hp
      refine WC.skip ?_
      refine WC.seq (WC.region ?_)
      refine WR.k rfl rfl rfl (OS.move (v := vI plain) rfl h ?_)
      refine WR.k rfl rfl rfl (OS.bin (a := vI plain) (b := vI (24 : Int)) rfl rfl rfl bI_add ?_)
      refine WR.k rfl rfl rfl (OS.assign (v := vI (W (plain + (24 : Int)))) rfl rfl ?_)
      refine WR.nil ?_
      refine WC.ret ?_
      repeat first | refine thenQ_ret ?_ | refine blkQ_ret ?_
      cases hp
      exact fnQ.l1 (fn := Tryz.f67) rfl (.inl ⟨_, rfl, rfl⟩) ⟨_, rfl, St.refl⟩

-- holdfast/hash.rounds
set_option maxHeartbeats 4000000 in
theorem W113 (K : Nat) (w0 : World) {r : (List UInt32)} (hp : hash_rounds K = some r) :
    Calls Tryz.prog 113 [].toArray w0 fun e w1 => ∃ (v0 : Value) (d : Col), e = .returned (v0) ∧ St [] w0 c0 w1 d ∧ Arr E132 2 w1 d v0 r ∧ r.length = 64 := by
  refine calls_intro Tryz.func113 rfl Tryz.ntmps113 rfl ?_
  unfold hash_rounds at hp
  refine WC.seq (WC.region ?_)
  refine WR.k rfl rfl rfl (OS.assign (v := .pointer none) rfl rfl ?_)
  refine WR.nil ?_
  refine WC.seq (WC.region ?_)
  obtain ⟨l1, hl1, hp⟩ := bind_some hp
  replace hl1 := (Option.some.inj hl1).symm
  have hl : l1.length = 64 := by rw [hl1]; rfl
  refine WR.k rfl rfl rfl (OS.build (v := .agg (fl E132 l1).toArray) [(0, vU32 (1116352408 : UInt32)), (1, vU32 (1899447441 : UInt32)), (2, vU32 (3049323471 : UInt32)), (3, vU32 (3921009573 : UInt32)), (4, vU32 (961987163 : UInt32)), (5, vU32 (1508970993 : UInt32)), (6, vU32 (2453635748 : UInt32)), (7, vU32 (2870763221 : UInt32)), (8, vU32 (3624381080 : UInt32)), (9, vU32 (310598401 : UInt32)), (10, vU32 (607225278 : UInt32)), (11, vU32 (1426881987 : UInt32)), (12, vU32 (1925078388 : UInt32)), (13, vU32 (2162078206 : UInt32)), (14, vU32 (2614888103 : UInt32)), (15, vU32 (3248222580 : UInt32)), (16, vU32 (3835390401 : UInt32)), (17, vU32 (4022224774 : UInt32)), (18, vU32 (264347078 : UInt32)), (19, vU32 (604807628 : UInt32)), (20, vU32 (770255983 : UInt32)), (21, vU32 (1249150122 : UInt32)), (22, vU32 (1555081692 : UInt32)), (23, vU32 (1996064986 : UInt32)), (24, vU32 (2554220882 : UInt32)), (25, vU32 (2821834349 : UInt32)), (26, vU32 (2952996808 : UInt32)), (27, vU32 (3210313671 : UInt32)), (28, vU32 (3336571891 : UInt32)), (29, vU32 (3584528711 : UInt32)), (30, vU32 (113926993 : UInt32)), (31, vU32 (338241895 : UInt32)), (32, vU32 (666307205 : UInt32)), (33, vU32 (773529912 : UInt32)), (34, vU32 (1294757372 : UInt32)), (35, vU32 (1396182291 : UInt32)), (36, vU32 (1695183700 : UInt32)), (37, vU32 (1986661051 : UInt32)), (38, vU32 (2177026350 : UInt32)), (39, vU32 (2456956037 : UInt32)), (40, vU32 (2730485921 : UInt32)), (41, vU32 (2820302411 : UInt32)), (42, vU32 (3259730800 : UInt32)), (43, vU32 (3345764771 : UInt32)), (44, vU32 (3516065817 : UInt32)), (45, vU32 (3600352804 : UInt32)), (46, vU32 (4094571909 : UInt32)), (47, vU32 (275423344 : UInt32)), (48, vU32 (430227734 : UInt32)), (49, vU32 (506948616 : UInt32)), (50, vU32 (659060556 : UInt32)), (51, vU32 (883997877 : UInt32)), (52, vU32 (958139571 : UInt32)), (53, vU32 (1322822218 : UInt32)), (54, vU32 (1537002063 : UInt32)), (55, vU32 (1747873779 : UInt32)), (56, vU32 (1955562222 : UInt32)), (57, vU32 (2024104815 : UInt32)), (58, vU32 (2227730452 : UInt32)), (59, vU32 (2361852424 : UInt32)), (60, vU32 (2428436474 : UInt32)), (61, vU32 (2756734187 : UInt32)), (62, vU32 (3204031479 : UInt32)), (63, vU32 (3329325298 : UInt32))] rfl ⟨rfl, (by kernel_rfl), rfl, (by kernel_rfl), rfl, (by kernel_rfl), rfl, (by kernel_rfl), rfl, (by kernel_rfl), rfl, (by kernel_rfl), rfl, (by kernel_rfl), rfl, (by kernel_rfl), rfl, (by kernel_rfl), rfl, (by kernel_rfl), rfl, (by kernel_rfl), rfl, (by kernel_rfl), rfl, (by kernel_rfl), rfl, (by kernel_rfl), rfl, (by kernel_rfl), rfl, (by kernel_rfl), rfl, (by kernel_rfl), rfl, (by kernel_rfl), rfl, (by kernel_rfl), rfl, (by kernel_rfl), rfl, (by kernel_rfl), rfl, (by kernel_rfl), rfl, (by kernel_rfl), rfl, (by kernel_rfl), rfl, (by kernel_rfl), rfl, (by kernel_rfl), rfl, (by kernel_rfl), rfl, (by kernel_rfl), rfl, (by kernel_rfl), rfl, (by kernel_rfl), rfl, (by kernel_rfl), rfl, (by kernel_rfl), rfl, (by kernel_rfl), rfl, (by kernel_rfl), rfl, (by kernel_rfl), rfl, (by kernel_rfl), rfl, (by kernel_rfl), rfl, (by kernel_rfl), rfl, (by kernel_rfl), rfl, (by kernel_rfl), rfl, (by kernel_rfl), rfl, (by kernel_rfl), rfl, (by kernel_rfl), rfl, (by kernel_rfl), rfl, (by kernel_rfl), rfl, (by kernel_rfl), rfl, (by kernel_rfl), rfl, (by kernel_rfl), rfl, (by kernel_rfl), rfl, (by kernel_rfl), rfl, (by kernel_rfl), rfl, (by kernel_rfl), rfl, (by kernel_rfl), rfl, (by kernel_rfl), rfl, (by kernel_rfl), rfl, (by kernel_rfl), rfl, (by kernel_rfl), rfl, (by kernel_rfl), rfl, (by kernel_rfl), rfl, (by kernel_rfl), rfl, (by kernel_rfl), rfl, (by kernel_rfl), rfl, (by kernel_rfl), rfl, (by kernel_rfl), trivial⟩ (fun _ => by rw [hl1]; kernel_rfl) ?_)
  refine WR.k rfl rfl rfl (OS.boxArr (E := E132) (c := c0) 12 rfl rfl ?_); intro p_ w_ c_ o s
  refine WR.k rfl rfl rfl (OS.assign (v := p_) rfl rfl ?_)
  refine WR.nil ?_
  refine WC.ret ?_
  repeat first | refine thenQ_ret ?_ | refine blkQ_ret ?_
  cases hp
  obtain ⟨c_1, s1, o1⟩ := o.recol 2
  exact fnQ.l1 (fn := Tryz.f113) rfl (.inl ⟨_, rfl, rfl⟩) ⟨_, _, rfl, (s.t s1).entry (by decide), o1, hl⟩

-- math/bits.RotateLeft32
set_option maxHeartbeats 4000000 in
theorem W138 (K : Nat) (w0 : World) {x : UInt32} {k1 : Int} {r : UInt32} (hp : bits_RotateLeft32 K x k1 = some r) :
    Calls Tryz.prog 138 [vU32 x, vI k1].toArray w0 fun e w1 => ∃ (d : Col), e = .returned (vU32 r) ∧ St [] w0 c0 w1 d := by
  refine calls_intro Tryz.func138 rfl Tryz.ntmps138 rfl ?_
  unfold bits_RotateLeft32 at hp
  refine WC.seq (WC.region ?_)
  refine WR.k rfl rfl rfl (OS.assign (v := vU32 (0 : UInt32)) rfl (by kernel_rfl) ?_)
  refine WR.nil ?_
  refine WC.seq (WC.region ?_)
  refine WR.k rfl rfl rfl (OS.move (v := vI k1) rfl rfl ?_)
  refine WR.k rfl rfl rfl (OS.conv rfl Tryz.runUnderlying3 Tryz.runUnderlying105 rfl (cv_i64 _) ?_)
  refine WR.k rfl rfl rfl (OS.bin (a := vU64 (iU64 k1)) (b := vU64 (31 : UInt64)) rfl rfl (by kernel_rfl) b64_and ?_)
  refine WR.k rfl rfl rfl (OS.assign (v := vU64 ((iU64 k1) &&& (31 : UInt64))) rfl rfl ?_)
  refine WR.nil ?_
  refine WC.seq (WC.region ?_)
  refine WR.k rfl rfl rfl (OS.move (v := vU32 x) rfl rfl ?_)
  refine WR.k rfl rfl rfl (OS.move (v := vU64 ((iU64 k1) &&& (31 : UInt64))) rfl rfl ?_)
  refine WR.k rfl rfl rfl (OS.bin (a := vU32 x) (b := vU64 ((iU64 k1) &&& (31 : UInt64))) rfl rfl rfl (b32_shl (Int.natCast_nonneg _)) ?_)
  refine WR.k rfl rfl rfl (OS.move (v := vU32 x) rfl rfl ?_)
  refine WR.k rfl rfl rfl (OS.move (v := vU64 ((iU64 k1) &&& (31 : UInt64))) rfl rfl ?_)
  refine WR.k rfl rfl rfl (OS.bin (a := vU64 (32 : UInt64)) (b := vU64 ((iU64 k1) &&& (31 : UInt64))) rfl (by kernel_rfl) rfl b64_sub ?_)
  refine WR.k rfl rfl rfl (OS.bin (a := vU32 x) (b := vU64 ((32 : UInt64) - ((iU64 k1) &&& (31 : UInt64)))) rfl rfl rfl (b32_shr (Int.natCast_nonneg _)) ?_)
  refine WR.k rfl rfl rfl (OS.bin (a := vU32 (shl32 x ((iU64 k1) &&& (31 : UInt64)).toNat)) (b := vU32 (shr32 x ((32 : UInt64) - ((iU64 k1) &&& (31 : UInt64))).toNat)) rfl rfl rfl b32_or ?_)
  refine WR.k rfl rfl rfl (OS.assign (v := vU32 ((shl32 x ((iU64 k1) &&& (31 : UInt64)).toNat) ||| (shr32 x ((32 : UInt64) - ((iU64 k1) &&& (31 : UInt64))).toNat))) rfl rfl ?_)
  refine WR.nil ?_
  refine WC.ret ?_
  repeat first | refine thenQ_ret ?_ | refine blkQ_ret ?_
  cases hp
  exact fnQ.l1 (fn := Tryz.f138) rfl (.inl ⟨_, rfl, rfl⟩) ⟨_, rfl, St.refl⟩

-- (holdfast/hash.words).mix
set_option maxHeartbeats 4000000 in
theorem W114 (K : Nat) (w0 : World) {h : List UInt32} {k1 : List UInt32} {b : List UInt8} {r : (List UInt32)} (hp : hash_words_mix K h k1 b = some r) (hl : h.length = 8) {p_ : Value} (o : Arr E132 0 w0 c0 p_ k1) (hl1 : k1.length = 64) {v_ : Value} (o1 : Vw E5 0 w0 c0 v_ b) :
    Calls Tryz.prog 114 [.agg (fl E132 h).toArray, p_, v_].toArray w0 fun e w1 => ∃ (d : Col), e = .returned (.agg (fl E132 r).toArray) ∧ St [] w0 c0 w1 d ∧ r.length = 8 := by
  refine calls_intro Tryz.func114 rfl Tryz.ntmps114 rfl ?_
  unfold hash_words_mix at hp
  refine WC.seq (WC.region ?_)
  refine WR.k rfl rfl rfl (OS.boxArr (E := E132) (c := c0) 12 rfl rfl ?_); intro p_1 w_ c_ o2 s
  refine WR.k rfl rfl rfl (OS.allocArr (E := E132) (xs := (List.replicate 8 (0 : UInt32))) (c := c_) 13 rfl Tryz.zeroValue149 (by kernel_rfl) ?_); intro p_2 w_1 c_1 o3 s1
  refine WR.nil ?_
  refine WC.seq (WC.region ?_)
  refine WR.k rfl rfl rfl (OS.allocArr (E := E132) (xs := (List.replicate 64 (0 : UInt32))) (c := c_1) 14 rfl Tryz.zeroValue178 (by kernel_rfl) ?_); intro p_3 w_2 c_2 o4 s2
  refine WR.nil ?_
  refine WC.seq ?_
  refine WC.seq (WC.region ?_)
  refine WR.k rfl rfl rfl (OS.move (v := vI (0 : Int)) rfl rfl ?_)
  refine WR.nil ?_
  obtain ⟨q, hl4, hp⟩ := bind_some hp
  obtain ⟨xs1, hx⟩ : ∃ z, z = q := ⟨_, rfl⟩; subst hx
  refine WC.blockJ2 (fun f_ w_3 => ∃ (c_3 : Col), f_ 1 = p_ ∧ f_ 3 = p_1 ∧ f_ 6 = p_2 ∧ f_ 7 = p_3 ∧ Arr E132 14 w_3 c_3 p_3 xs1 ∧ xs1.length = 64 ∧ St [14] w_2 c_2 w_3 c_3) ?_ ?_
  · refine WC.loop (fun n => fun f_1 w_4 => ∃ (xs : List UInt32) (x18 : Int) (c_4 : Col), hash_words_mix.l1 K n b xs x18 = some xs1 ∧ f_1 1 = p_ ∧ f_1 2 = v_ ∧ f_1 3 = p_1 ∧ f_1 6 = p_2 ∧ f_1 7 = p_3 ∧ Arr E132 14 w_4 c_4 p_3 xs ∧ xs.length = 64 ∧ f_1 18 = vI x18 ∧ St [14] w_2 c_2 w_4 c_4) K ⟨_, _, _, hl4, rfl, rfl, rfl, rfl, rfl, o4, (List.length_replicate (n := 64) (a := (0 : UInt32))), rfl, St.refl.mono (by decide)⟩ ?_
    rintro n f_1 w_4 ⟨xs, x18, c_4, hl4, h1, h2, h3, h4, h5, o5, hl2, h6, s3⟩
    cases n with
    | zero => exact absurd hl4 (by simp [hash_words_mix.l1])
    | succ k =>
    rw [hash_words_mix.l1] at hl4
    refine WC.seq (WC.region ?_)
    refine WR.k rfl rfl rfl (OS.bin (a := vI x18) (b := vI (64 : Int)) rfl h6 rfl bI_lss ?_)
    refine WR.nil ?_
    refine WC.seq ?_
    refine WC.cond (decide (x18 < (64 : Int))) rfl (fun hb => ?_) (fun hb => ?_)
    · rw [if_pos hb] at hl4
      refine WC.skip ?_
      refine WC.seq ?_
      refine WC.block ?_
      refine WC.seq (WC.region ?_)
      refine WR.k rfl rfl rfl (OS.move (v := vI x18) rfl h6 ?_)
      refine WR.k rfl rfl rfl (OS.assign (v := vI x18) rfl rfl ?_)
      refine WR.nil ?_
      refine WC.seq ?_
      refine WC.seq (WC.region ?_)
      refine WR.k rfl rfl rfl (OS.move (v := vI x18) rfl rfl ?_)
      refine WR.k rfl rfl rfl (OS.bin (a := vI x18) (b := vI (16 : Int)) rfl rfl rfl bI_lss ?_)
      refine WR.nil ?_
      refine WC.cond (decide (x18 < (16 : Int))) rfl (fun hb1 => ?_) (fun hb1 => ?_)
      · rw [if_pos hb1] at hl4
        have o7 := o1.keep (((s.t s1).t s2).t s3) (by decide)
        obtain ⟨e, he, hl4⟩ := bind_some hl4
        obtain ⟨ha, hb2, hc⟩ := gt_some he
        obtain ⟨e1, he1, hl4⟩ := bind_some hl4
        obtain ⟨ha1, hb3, hc1⟩ := gt_some he1
        obtain ⟨e2, he2, hl4⟩ := bind_some hl4
        obtain ⟨ha2, hb4, hc2⟩ := gt_some he2
        obtain ⟨e3, he3, hl4⟩ := bind_some hl4
        obtain ⟨ha3, hb5, hc3⟩ := gt_some he3
        refine WC.seq (WC.draw (c := c_4) ⟨34, [[1], [1], [1], [1], [1], [1], [1], [1], [1], [1], [1], [1], [1], [1], [1], [1], [1], [1], [1], [1], [1], [1], [1], [1], [1], [1], [1], [1], [1], [1], [1], [1], [1], [1]], [[], [], [], [], [], [], [], [], [], [], [], [], [], [], [], [], [], [], [], [], [], [], [], [], [], [], [], [], [], [], [], [], [], []], [], [[], [], [], [2], [1, 3], [4], [5], [6], [], [], [9], [10], [8, 11], [12], [13], [14], [7, 15], [], [], [18], [19], [17, 20], [21], [22], [23], [16, 24], [], [], [27], [28], [26, 29], [30], [31], [25, 32]], [0, 33]⟩ [fun v w c => v = vI x18, fun v w c => v = v_, fun v w c => v = vI x18, fun v w c => v = vI (W ((4 : Int) * x18)), fun v w c => Adr v_ (W ((4 : Int) * x18)).toNat 1 v, fun v w c => v = vU8 e, fun v w c => v = vU32 e.toUInt32, fun v w c => v = vU32 (shl32 e.toUInt32 24), fun v w c => v = v_, fun v w c => v = vI x18, fun v w c => v = vI (W ((4 : Int) * x18)), fun v w c => v = vI (W ((W ((4 : Int) * x18)) + (1 : Int))), fun v w c => Adr v_ (W ((W ((4 : Int) * x18)) + (1 : Int))).toNat 1 v, fun v w c => v = vU8 e1, fun v w c => v = vU32 e1.toUInt32, fun v w c => v = vU32 (shl32 e1.toUInt32 16), fun v w c => v = vU32 ((shl32 e.toUInt32 24) ||| (shl32 e1.toUInt32 16)), fun v w c => v = v_, fun v w c => v = vI x18, fun v w c => v = vI (W ((4 : Int) * x18)), fun v w c => v = vI (W ((W ((4 : Int) * x18)) + (2 : Int))), fun v w c => Adr v_ (W ((W ((4 : Int) * x18)) + (2 : Int))).toNat 1 v, fun v w c => v = vU8 e2, fun v w c => v = vU32 e2.toUInt32, fun v w c => v = vU32 (shl32 e2.toUInt32 8), fun v w c => v = vU32 (((shl32 e.toUInt32 24) ||| (shl32 e1.toUInt32 16)) ||| (shl32 e2.toUInt32 8)), fun v w c => v = v_, fun v w c => v = vI x18, fun v w c => v = vI (W ((4 : Int) * x18)), fun v w c => v = vI (W ((W ((4 : Int) * x18)) + (3 : Int))), fun v w c => Adr v_ (W ((W ((4 : Int) * x18)) + (3 : Int))).toNat 1 v, fun v w c => v = vU8 e3, fun v w c => v = vU32 e3.toUInt32, fun v w c => v = vU32 ((((shl32 e.toUInt32 24) ||| (shl32 e1.toUInt32 16)) ||| (shl32 e2.toUInt32 8)) ||| e3.toUInt32)] hmix (by kernel_rfl) (by kernel_rfl) ⟨?_, ?_, ?_, ?_, ?_, ?_, ?_, ?_, ?_, ?_, ?_, ?_, ?_, ?_, ?_, ?_, ?_, ?_, ?_, ?_, ?_, ?_, ?_, ?_, ?_, ?_, ?_, ?_, ?_, ?_, ?_, ?_, ?_, ?_, trivial⟩ ⟨fun _ _ _ _ _ _ h _ _ => h, fun _ _ _ _ _ _ h _ _ => h, fun _ _ _ _ _ _ h _ _ => h, fun _ _ _ _ _ _ h _ _ => h, fun _ _ _ _ _ _ h _ _ => h, fun _ _ _ _ _ _ h _ _ => h, fun _ _ _ _ _ _ h _ _ => h, fun _ _ _ _ _ _ h _ _ => h, fun _ _ _ _ _ _ h _ _ => h, fun _ _ _ _ _ _ h _ _ => h, fun _ _ _ _ _ _ h _ _ => h, fun _ _ _ _ _ _ h _ _ => h, fun _ _ _ _ _ _ h _ _ => h, fun _ _ _ _ _ _ h _ _ => h, fun _ _ _ _ _ _ h _ _ => h, fun _ _ _ _ _ _ h _ _ => h, fun _ _ _ _ _ _ h _ _ => h, fun _ _ _ _ _ _ h _ _ => h, fun _ _ _ _ _ _ h _ _ => h, fun _ _ _ _ _ _ h _ _ => h, fun _ _ _ _ _ _ h _ _ => h, fun _ _ _ _ _ _ h _ _ => h, fun _ _ _ _ _ _ h _ _ => h, fun _ _ _ _ _ _ h _ _ => h, fun _ _ _ _ _ _ h _ _ => h, fun _ _ _ _ _ _ h _ _ => h, fun _ _ _ _ _ _ h _ _ => h, fun _ _ _ _ _ _ h _ _ => h, fun _ _ _ _ _ _ h _ _ => h, fun _ _ _ _ _ _ h _ _ => h, fun _ _ _ _ _ _ h _ _ => h, fun _ _ _ _ _ _ h _ _ => h, fun _ _ _ _ _ _ h _ _ => h, fun _ _ _ _ _ _ h _ _ => h, trivial⟩ ?_)
        · rintro f_2 w_5 c_5 hB hs1 ⟨-⟩ o ho; obtain rfl : _ = o := Option.some.inj ho
          exact OS.move (v := vI x18) rfl ((hB 8 (by kernel_rfl)).trans rfl) ⟨_, St.refl, rfl⟩
        · rintro f_3 w_6 c_6 hB1 hs2 ⟨-⟩ o ho; obtain rfl : _ = o := Option.some.inj ho
          exact OS.move (v := v_) rfl ((hB1 2 (by kernel_rfl)).trans h2) ⟨_, St.refl, rfl⟩
        · rintro f_4 w_7 c_7 hB2 hs3 ⟨-⟩ o ho; obtain rfl : _ = o := Option.some.inj ho
          exact OS.move (v := vI x18) rfl ((hB2 8 (by kernel_rfl)).trans rfl) ⟨_, St.refl, rfl⟩
        · rintro f_5 w_8 c_8 hB3 hs4 ⟨g, -⟩ o ho; obtain rfl : _ = o := Option.some.inj ho
          replace g : (f_5 25) = vI x18 := g
          exact OS.bin (a := vI (4 : Int)) (b := vI x18) rfl rfl g bI_mul ⟨_, St.refl, rfl⟩
        · rintro f_6 w_9 c_9 hB4 hs5 ⟨g1, g2, -⟩ o ho; obtain rfl : _ = o := Option.some.inj ho
          replace g1 : (f_6 24) = v_ := g1
          replace g2 : (f_6 26) = vI (W ((4 : Int) * x18)) := g2
          have o8 := o1.keep ((((s.t s1).t s2).t s3).t hs5) (by decide)
          exact OS.idx rfl Tryz.runUnderlying25 Tryz.sizeOf5 g1 o8.isSl g2 ha hb2 (fun _ h => ⟨_, St.refl, h⟩)
        · rintro f_7 w_10 c_10 hB5 hs6 ⟨g3, -⟩ o ho; obtain rfl : _ = o := Option.some.inj ho
          replace g3 : Adr v_ (W ((4 : Int) * x18)).toNat 1 (f_7 27) := g3
          have o9 := o1.keep ((((s.t s1).t s2).t s3).t hs6) (by decide)
          exact OS.ld1 (u := vU8 e) rfl Tryz.isAgg5 rfl (o9.ld g3 hc) ⟨_, St.refl, rfl⟩
        · rintro f_8 w_11 c_11 hB6 hs7 ⟨g4, -⟩ o ho; obtain rfl : _ = o := Option.some.inj ho
          replace g4 : (f_8 28) = vU8 e := g4
          exact OS.conv rfl Tryz.runUnderlying5 Tryz.runUnderlying132 g4 (cv_8_32 _) ⟨_, St.refl, rfl⟩
        · rintro f_9 w_12 c_12 hB7 hs8 ⟨g5, -⟩ o ho; obtain rfl : _ = o := Option.some.inj ho
          replace g5 : (f_9 29) = vU32 e.toUInt32 := g5
          exact OS.bin (a := vU32 e.toUInt32) (b := vU64 (24 : UInt64)) rfl g5 (by kernel_rfl) (b32_shl (by decide)) ⟨_, St.refl, rfl⟩
        · rintro f_10 w_13 c_13 hB8 hs9 ⟨-⟩ o ho; obtain rfl : _ = o := Option.some.inj ho
          exact OS.move (v := v_) rfl ((hB8 2 (by kernel_rfl)).trans h2) ⟨_, St.refl, rfl⟩
        · rintro f_11 w_14 c_14 hB9 hs10 ⟨-⟩ o ho; obtain rfl : _ = o := Option.some.inj ho
          exact OS.move (v := vI x18) rfl ((hB9 8 (by kernel_rfl)).trans rfl) ⟨_, St.refl, rfl⟩
        · rintro f_12 w_15 c_15 hB10 hs11 ⟨g6, -⟩ o ho; obtain rfl : _ = o := Option.some.inj ho
          replace g6 : (f_12 32) = vI x18 := g6
          exact OS.bin (a := vI (4 : Int)) (b := vI x18) rfl rfl g6 bI_mul ⟨_, St.refl, rfl⟩
        · rintro f_13 w_16 c_16 hB11 hs12 ⟨g7, -⟩ o ho; obtain rfl : _ = o := Option.some.inj ho
          replace g7 : (f_13 33) = vI (W ((4 : Int) * x18)) := g7
          exact OS.bin (a := vI (W ((4 : Int) * x18))) (b := vI (1 : Int)) rfl g7 rfl bI_add ⟨_, St.refl, rfl⟩
        · rintro f_14 w_17 c_17 hB12 hs13 ⟨g8, g9, -⟩ o ho; obtain rfl : _ = o := Option.some.inj ho
          replace g8 : (f_14 31) = v_ := g8
          replace g9 : (f_14 34) = vI (W ((W ((4 : Int) * x18)) + (1 : Int))) := g9
          have o10 := o1.keep ((((s.t s1).t s2).t s3).t hs13) (by decide)
          exact OS.idx rfl Tryz.runUnderlying25 Tryz.sizeOf5 g8 o10.isSl g9 ha1 hb3 (fun _ h => ⟨_, St.refl, h⟩)
        · rintro f_15 w_18 c_18 hB13 hs14 ⟨g10, -⟩ o ho; obtain rfl : _ = o := Option.some.inj ho
          replace g10 : Adr v_ (W ((W ((4 : Int) * x18)) + (1 : Int))).toNat 1 (f_15 35) := g10
          have o11 := o1.keep ((((s.t s1).t s2).t s3).t hs14) (by decide)
          exact OS.ld1 (u := vU8 e1) rfl Tryz.isAgg5 rfl (o11.ld g10 hc1) ⟨_, St.refl, rfl⟩
        · rintro f_16 w_19 c_19 hB14 hs15 ⟨g11, -⟩ o ho; obtain rfl : _ = o := Option.some.inj ho
          replace g11 : (f_16 36) = vU8 e1 := g11
          exact OS.conv rfl Tryz.runUnderlying5 Tryz.runUnderlying132 g11 (cv_8_32 _) ⟨_, St.refl, rfl⟩
        · rintro f_17 w_20 c_20 hB15 hs16 ⟨g12, -⟩ o ho; obtain rfl : _ = o := Option.some.inj ho
          replace g12 : (f_17 37) = vU32 e1.toUInt32 := g12
          exact OS.bin (a := vU32 e1.toUInt32) (b := vU64 (16 : UInt64)) rfl g12 (by kernel_rfl) (b32_shl (by decide)) ⟨_, St.refl, rfl⟩
        · rintro f_18 w_21 c_21 hB16 hs17 ⟨g13, g14, -⟩ o ho; obtain rfl : _ = o := Option.some.inj ho
          replace g13 : (f_18 30) = vU32 (shl32 e.toUInt32 24) := g13
          replace g14 : (f_18 38) = vU32 (shl32 e1.toUInt32 16) := g14
          exact OS.bin (a := vU32 (shl32 e.toUInt32 24)) (b := vU32 (shl32 e1.toUInt32 16)) rfl g13 g14 b32_or ⟨_, St.refl, rfl⟩
        · rintro f_19 w_22 c_22 hB17 hs18 ⟨-⟩ o ho; obtain rfl : _ = o := Option.some.inj ho
          exact OS.move (v := v_) rfl ((hB17 2 (by kernel_rfl)).trans h2) ⟨_, St.refl, rfl⟩
        · rintro f_20 w_23 c_23 hB18 hs19 ⟨-⟩ o ho; obtain rfl : _ = o := Option.some.inj ho
          exact OS.move (v := vI x18) rfl ((hB18 8 (by kernel_rfl)).trans rfl) ⟨_, St.refl, rfl⟩
        · rintro f_21 w_24 c_24 hB19 hs20 ⟨g15, -⟩ o ho; obtain rfl : _ = o := Option.some.inj ho
          replace g15 : (f_21 41) = vI x18 := g15
          exact OS.bin (a := vI (4 : Int)) (b := vI x18) rfl rfl g15 bI_mul ⟨_, St.refl, rfl⟩
        · rintro f_22 w_25 c_25 hB20 hs21 ⟨g16, -⟩ o ho; obtain rfl : _ = o := Option.some.inj ho
          replace g16 : (f_22 42) = vI (W ((4 : Int) * x18)) := g16
          exact OS.bin (a := vI (W ((4 : Int) * x18))) (b := vI (2 : Int)) rfl g16 rfl bI_add ⟨_, St.refl, rfl⟩
        · rintro f_23 w_26 c_26 hB21 hs22 ⟨g17, g18, -⟩ o ho; obtain rfl : _ = o := Option.some.inj ho
          replace g17 : (f_23 40) = v_ := g17
          replace g18 : (f_23 43) = vI (W ((W ((4 : Int) * x18)) + (2 : Int))) := g18
          have o12 := o1.keep ((((s.t s1).t s2).t s3).t hs22) (by decide)
          exact OS.idx rfl Tryz.runUnderlying25 Tryz.sizeOf5 g17 o12.isSl g18 ha2 hb4 (fun _ h => ⟨_, St.refl, h⟩)
        · rintro f_24 w_27 c_27 hB22 hs23 ⟨g19, -⟩ o ho; obtain rfl : _ = o := Option.some.inj ho
          replace g19 : Adr v_ (W ((W ((4 : Int) * x18)) + (2 : Int))).toNat 1 (f_24 44) := g19
          have o13 := o1.keep ((((s.t s1).t s2).t s3).t hs23) (by decide)
          exact OS.ld1 (u := vU8 e2) rfl Tryz.isAgg5 rfl (o13.ld g19 hc2) ⟨_, St.refl, rfl⟩
        · rintro f_25 w_28 c_28 hB23 hs24 ⟨g20, -⟩ o ho; obtain rfl : _ = o := Option.some.inj ho
          replace g20 : (f_25 45) = vU8 e2 := g20
          exact OS.conv rfl Tryz.runUnderlying5 Tryz.runUnderlying132 g20 (cv_8_32 _) ⟨_, St.refl, rfl⟩
        · rintro f_26 w_29 c_29 hB24 hs25 ⟨g21, -⟩ o ho; obtain rfl : _ = o := Option.some.inj ho
          replace g21 : (f_26 46) = vU32 e2.toUInt32 := g21
          exact OS.bin (a := vU32 e2.toUInt32) (b := vU64 (8 : UInt64)) rfl g21 (by kernel_rfl) (b32_shl (by decide)) ⟨_, St.refl, rfl⟩
        · rintro f_27 w_30 c_30 hB25 hs26 ⟨g22, g23, -⟩ o ho; obtain rfl : _ = o := Option.some.inj ho
          replace g22 : (f_27 39) = vU32 ((shl32 e.toUInt32 24) ||| (shl32 e1.toUInt32 16)) := g22
          replace g23 : (f_27 47) = vU32 (shl32 e2.toUInt32 8) := g23
          exact OS.bin (a := vU32 ((shl32 e.toUInt32 24) ||| (shl32 e1.toUInt32 16))) (b := vU32 (shl32 e2.toUInt32 8)) rfl g22 g23 b32_or ⟨_, St.refl, rfl⟩
        · rintro f_28 w_31 c_31 hB26 hs27 ⟨-⟩ o ho; obtain rfl : _ = o := Option.some.inj ho
          exact OS.move (v := v_) rfl ((hB26 2 (by kernel_rfl)).trans h2) ⟨_, St.refl, rfl⟩
        · rintro f_29 w_32 c_32 hB27 hs28 ⟨-⟩ o ho; obtain rfl : _ = o := Option.some.inj ho
          exact OS.move (v := vI x18) rfl ((hB27 8 (by kernel_rfl)).trans rfl) ⟨_, St.refl, rfl⟩
        · rintro f_30 w_33 c_33 hB28 hs29 ⟨g24, -⟩ o ho; obtain rfl : _ = o := Option.some.inj ho
          replace g24 : (f_30 50) = vI x18 := g24
          exact OS.bin (a := vI (4 : Int)) (b := vI x18) rfl rfl g24 bI_mul ⟨_, St.refl, rfl⟩
        · rintro f_31 w_34 c_34 hB29 hs30 ⟨g25, -⟩ o ho; obtain rfl : _ = o := Option.some.inj ho
          replace g25 : (f_31 51) = vI (W ((4 : Int) * x18)) := g25
          exact OS.bin (a := vI (W ((4 : Int) * x18))) (b := vI (3 : Int)) rfl g25 rfl bI_add ⟨_, St.refl, rfl⟩
        · rintro f_32 w_35 c_35 hB30 hs31 ⟨g26, g27, -⟩ o ho; obtain rfl : _ = o := Option.some.inj ho
          replace g26 : (f_32 49) = v_ := g26
          replace g27 : (f_32 52) = vI (W ((W ((4 : Int) * x18)) + (3 : Int))) := g27
          have o14 := o1.keep ((((s.t s1).t s2).t s3).t hs31) (by decide)
          exact OS.idx rfl Tryz.runUnderlying25 Tryz.sizeOf5 g26 o14.isSl g27 ha3 hb5 (fun _ h => ⟨_, St.refl, h⟩)
        · rintro f_33 w_36 c_36 hB31 hs32 ⟨g28, -⟩ o ho; obtain rfl : _ = o := Option.some.inj ho
          replace g28 : Adr v_ (W ((W ((4 : Int) * x18)) + (3 : Int))).toNat 1 (f_33 53) := g28
          have o15 := o1.keep ((((s.t s1).t s2).t s3).t hs32) (by decide)
          exact OS.ld1 (u := vU8 e3) rfl Tryz.isAgg5 rfl (o15.ld g28 hc3) ⟨_, St.refl, rfl⟩
        · rintro f_34 w_37 c_37 hB32 hs33 ⟨g29, -⟩ o ho; obtain rfl : _ = o := Option.some.inj ho
          replace g29 : (f_34 54) = vU8 e3 := g29
          exact OS.conv rfl Tryz.runUnderlying5 Tryz.runUnderlying132 g29 (cv_8_32 _) ⟨_, St.refl, rfl⟩
        · rintro f_35 w_38 c_38 hB33 hs34 ⟨g30, g31, -⟩ o ho; obtain rfl : _ = o := Option.some.inj ho
          replace g30 : (f_35 48) = vU32 (((shl32 e.toUInt32 24) ||| (shl32 e1.toUInt32 16)) ||| (shl32 e2.toUInt32 8)) := g30
          replace g31 : (f_35 55) = vU32 e3.toUInt32 := g31
          exact OS.bin (a := vU32 (((shl32 e.toUInt32 24) ||| (shl32 e1.toUInt32 16)) ||| (shl32 e2.toUInt32 8))) (b := vU32 e3.toUInt32) rfl g30 g31 b32_or ⟨_, St.refl, rfl⟩
        · rintro f_36 w_39 c_39 hB34 hs35 ⟨g32, g33, -⟩
          have h7 := (hB34 1 (by kernel_rfl)).trans h1
          have h8 := (hB34 2 (by kernel_rfl)).trans h2
          have h9 := (hB34 3 (by kernel_rfl)).trans h3
          have h10 := (hB34 6 (by kernel_rfl)).trans h4
          have h11 := (hB34 7 (by kernel_rfl)).trans h5
          have h12 := (hB34 18 (by kernel_rfl)).trans h6
          replace g32 : (f_36 23) = vI x18 := g32
          replace g33 : (f_36 56) = vU32 ((((shl32 e.toUInt32 24) ||| (shl32 e1.toUInt32 16)) ||| (shl32 e2.toUInt32 8)) ||| e3.toUInt32) := g33
          have o16 := o5.keep hs35 (by decide)
          obtain ⟨u, hu, hl4⟩ := bind_some hl4
          obtain ⟨ha4, hb6⟩ := req_some hu
          refine WR.k rfl rfl rfl (OS.idxArr rfl Tryz.runUnderlying178 Tryz.sizeOf132 h11 o16 g32 ha4 (by have := hb6; rw [hl2] at this; exact this) ?_); intro p_4 a5
          obtain ⟨xs2, hxs2, hl4⟩ := bind_some hl4
          replace hxs2 := (Option.some.inj hxs2).symm
          refine WR.k0 rfl rfl (OS.stArr (q := (((shl32 e.toUInt32 24) ||| (shl32 e1.toUInt32 16)) ||| (shl32 e2.toUInt32 8)) ||| e3.toUInt32) (u := vU32 ((((shl32 e.toUInt32 24) ||| (shl32 e1.toUInt32 16)) ||| (shl32 e2.toUInt32 8)) ||| e3.toUInt32)) rfl Tryz.sizeOf132 rfl g33 o16 rfl a5 (by have h1 := (by have := hb6; rw [hl2] at this; exact this); rw [hl2]; omega) rfl ?_); intro w_40 o17 s4
          replace o17 : Arr E132 14 w_40 c_39 p_3 xs2 := by rw [hxs2]; exact o17
          have hl5 : xs2.length = 64 := (by rw [hxs2, List.length_set]; exact hl2)
          refine WR.nil ?_
          refine WC.exit ?_
          refine WC.region ?_
          refine WR.k rfl rfl rfl (OS.bin (a := vI x18) (b := vI (1 : Int)) rfl h12 rfl bI_add ?_)
          refine WR.k rfl rfl rfl (OS.move (v := vI (W (x18 + (1 : Int)))) rfl rfl ?_)
          refine WR.nil ?_
          exact ⟨k, by omega, _, _, _, hl4, h7, h8, h9, h10, h11, o17, hl5, rfl, ((s3.t hs35).t s4).mono (by decide)⟩
      · rw [if_neg (nt hb1)] at hl4
        refine WC.skip ?_
        obtain ⟨e4, he4, hl4⟩ := bind_some hl4
        obtain ⟨ha5, hb7, hc4⟩ := gt_some he4
        obtain ⟨r_, hr_, hl4⟩ := bind_some hl4
        obtain ⟨e5, he5, hl4⟩ := bind_some hl4
        obtain ⟨ha6, hb8, hc5⟩ := gt_some he5
        obtain ⟨r_1, hr_1, hl4⟩ := bind_some hl4
        obtain ⟨e6, he6, hl4⟩ := bind_some hl4
        obtain ⟨ha7, hb9, hc6⟩ := gt_some he6
        refine WC.seq (WC.draw (c := c_4) ⟨16, [[1], [1], [1], [1], [1], [1], [1], [1], [1], [1], [1], [1], [1], [1], [1], [1]], [[], [], [], [], [], [], [], [], [], [], [], [], [], [], [], []], [], [[], [0], [1], [2], [3], [], [5], [6], [7], [8], [4, 9], [], [11], [12], [13], [14]], [10, 15]⟩ [fun v w c => v = vI x18, fun v w c => v = vI (W (x18 - (15 : Int))), fun v w c => AdrP p_3 (W (x18 - (15 : Int))).toNat 1 v, fun v w c => v = vU32 e4, fun v w c => v = vU32 r_, fun v w c => v = vI x18, fun v w c => v = vI (W (x18 - (15 : Int))), fun v w c => AdrP p_3 (W (x18 - (15 : Int))).toNat 1 v, fun v w c => v = vU32 e5, fun v w c => v = vU32 r_1, fun v w c => v = vU32 (r_ ^^^ r_1), fun v w c => v = vI x18, fun v w c => v = vI (W (x18 - (15 : Int))), fun v w c => AdrP p_3 (W (x18 - (15 : Int))).toNat 1 v, fun v w c => v = vU32 e6, fun v w c => v = vU32 (shr32 e6 3)] hmix (by kernel_rfl) (by kernel_rfl) ⟨?_, ?_, ?_, ?_, ?_, ?_, ?_, ?_, ?_, ?_, ?_, ?_, ?_, ?_, ?_, ?_, trivial⟩ ⟨fun _ _ _ _ _ _ h _ _ => h, fun _ _ _ _ _ _ h _ _ => h, fun _ _ _ _ _ _ h _ _ => h, fun _ _ _ _ _ _ h _ _ => h, fun _ _ _ _ _ _ h _ _ => h, fun _ _ _ _ _ _ h _ _ => h, fun _ _ _ _ _ _ h _ _ => h, fun _ _ _ _ _ _ h _ _ => h, fun _ _ _ _ _ _ h _ _ => h, fun _ _ _ _ _ _ h _ _ => h, fun _ _ _ _ _ _ h _ _ => h, fun _ _ _ _ _ _ h _ _ => h, fun _ _ _ _ _ _ h _ _ => h, fun _ _ _ _ _ _ h _ _ => h, fun _ _ _ _ _ _ h _ _ => h, fun _ _ _ _ _ _ h _ _ => h, trivial⟩ ?_)
        · rintro f_37 w_41 c_40 hB35 hs36 ⟨-⟩ o ho; obtain rfl : _ = o := Option.some.inj ho
          exact OS.move (v := vI x18) rfl ((hB35 8 (by kernel_rfl)).trans rfl) ⟨_, St.refl, rfl⟩
        · rintro f_38 w_42 c_41 hB36 hs37 ⟨g34, -⟩ o ho; obtain rfl : _ = o := Option.some.inj ho
          replace g34 : (f_38 58) = vI x18 := g34
          exact OS.bin (a := vI x18) (b := vI (15 : Int)) rfl g34 rfl bI_sub ⟨_, St.refl, rfl⟩
        · rintro f_39 w_43 c_42 hB37 hs38 ⟨g35, -⟩ o ho; obtain rfl : _ = o := Option.some.inj ho
          replace g35 : (f_39 59) = vI (W (x18 - (15 : Int))) := g35
          have o18 := o5.keep hs38 (by decide)
          exact OS.idxArr rfl Tryz.runUnderlying178 Tryz.sizeOf132 ((hB37 7 (by kernel_rfl)).trans h5) o18 g35 ha5 (by have := hb7; rw [hl2] at this; exact this) (fun _ h => ⟨_, St.refl, h⟩)
        · rintro f_40 w_44 c_43 hB38 hs39 ⟨g36, -⟩ o ho; obtain rfl : _ = o := Option.some.inj ho
          replace g36 : AdrP p_3 (W (x18 - (15 : Int))).toNat 1 (f_40 60) := g36
          have o19 := o5.keep hs39 (by decide)
          exact OS.ld1 (u := vU32 e4) rfl Tryz.isAgg132 rfl (o19.ld g36 hc4) ⟨_, St.refl, rfl⟩
        · rintro f_41 w_45 c_44 hB39 hs40 ⟨g37, -⟩ o ho; obtain rfl : _ = o := Option.some.inj ho
          replace g37 : (f_41 61) = vU32 e4 := g37
          refine OS.callF (vs := [vU32 e4, vI (-7 : Int)]) rfl ⟨g37, rfl, trivial⟩ Tryz.call138 ((W138 K w_45 hr_).mono ?_)
          rintro _ w ⟨d, rfl, s⟩
          exact ⟨_, rfl, _, s.merge id, rfl⟩
        · rintro f_42 w_46 c_45 hB40 hs41 ⟨-⟩ o ho; obtain rfl : _ = o := Option.some.inj ho
          exact OS.move (v := vI x18) rfl ((hB40 8 (by kernel_rfl)).trans rfl) ⟨_, St.refl, rfl⟩
        · rintro f_43 w_47 c_46 hB41 hs42 ⟨g38, -⟩ o ho; obtain rfl : _ = o := Option.some.inj ho
          replace g38 : (f_43 63) = vI x18 := g38
          exact OS.bin (a := vI x18) (b := vI (15 : Int)) rfl g38 rfl bI_sub ⟨_, St.refl, rfl⟩
        · rintro f_44 w_48 c_47 hB42 hs43 ⟨g39, -⟩ o ho; obtain rfl : _ = o := Option.some.inj ho
          replace g39 : (f_44 64) = vI (W (x18 - (15 : Int))) := g39
          have o20 := o5.keep hs43 (by decide)
          exact OS.idxArr rfl Tryz.runUnderlying178 Tryz.sizeOf132 ((hB42 7 (by kernel_rfl)).trans h5) o20 g39 ha6 (by have := hb8; rw [hl2] at this; exact this) (fun _ h => ⟨_, St.refl, h⟩)
        · rintro f_45 w_49 c_48 hB43 hs44 ⟨g40, -⟩ o ho; obtain rfl : _ = o := Option.some.inj ho
          replace g40 : AdrP p_3 (W (x18 - (15 : Int))).toNat 1 (f_45 65) := g40
          have o21 := o5.keep hs44 (by decide)
          exact OS.ld1 (u := vU32 e5) rfl Tryz.isAgg132 rfl (o21.ld g40 hc5) ⟨_, St.refl, rfl⟩
        · rintro f_46 w_50 c_49 hB44 hs45 ⟨g41, -⟩ o ho; obtain rfl : _ = o := Option.some.inj ho
          replace g41 : (f_46 66) = vU32 e5 := g41
          refine OS.callF (vs := [vU32 e5, vI (-18 : Int)]) rfl ⟨g41, rfl, trivial⟩ Tryz.call138 ((W138 K w_50 hr_1).mono ?_)
          rintro _ w ⟨d, rfl, s⟩
          exact ⟨_, rfl, _, s.merge id, rfl⟩
        · rintro f_47 w_51 c_50 hB45 hs46 ⟨g42, g43, -⟩ o ho; obtain rfl : _ = o := Option.some.inj ho
          replace g42 : (f_47 62) = vU32 r_ := g42
          replace g43 : (f_47 67) = vU32 r_1 := g43
          exact OS.bin (a := vU32 r_) (b := vU32 r_1) rfl g42 g43 b32_xor ⟨_, St.refl, rfl⟩
        · rintro f_48 w_52 c_51 hB46 hs47 ⟨-⟩ o ho; obtain rfl : _ = o := Option.some.inj ho
          exact OS.move (v := vI x18) rfl ((hB46 8 (by kernel_rfl)).trans rfl) ⟨_, St.refl, rfl⟩
        · rintro f_49 w_53 c_52 hB47 hs48 ⟨g44, -⟩ o ho; obtain rfl : _ = o := Option.some.inj ho
          replace g44 : (f_49 69) = vI x18 := g44
          exact OS.bin (a := vI x18) (b := vI (15 : Int)) rfl g44 rfl bI_sub ⟨_, St.refl, rfl⟩
        · rintro f_50 w_54 c_53 hB48 hs49 ⟨g45, -⟩ o ho; obtain rfl : _ = o := Option.some.inj ho
          replace g45 : (f_50 70) = vI (W (x18 - (15 : Int))) := g45
          have o22 := o5.keep hs49 (by decide)
          exact OS.idxArr rfl Tryz.runUnderlying178 Tryz.sizeOf132 ((hB48 7 (by kernel_rfl)).trans h5) o22 g45 ha7 (by have := hb9; rw [hl2] at this; exact this) (fun _ h => ⟨_, St.refl, h⟩)
        · rintro f_51 w_55 c_54 hB49 hs50 ⟨g46, -⟩ o ho; obtain rfl : _ = o := Option.some.inj ho
          replace g46 : AdrP p_3 (W (x18 - (15 : Int))).toNat 1 (f_51 71) := g46
          have o23 := o5.keep hs50 (by decide)
          exact OS.ld1 (u := vU32 e6) rfl Tryz.isAgg132 rfl (o23.ld g46 hc6) ⟨_, St.refl, rfl⟩
        · rintro f_52 w_56 c_55 hB50 hs51 ⟨g47, -⟩ o ho; obtain rfl : _ = o := Option.some.inj ho
          replace g47 : (f_52 72) = vU32 e6 := g47
          exact OS.bin (a := vU32 e6) (b := vU64 (3 : UInt64)) rfl g47 (by kernel_rfl) (b32_shr (by decide)) ⟨_, St.refl, rfl⟩
        · rintro f_53 w_57 c_56 hB51 hs52 ⟨g48, g49, -⟩
          have h13 := (hB51 1 (by kernel_rfl)).trans h1
          have h14 := (hB51 2 (by kernel_rfl)).trans h2
          have h15 := (hB51 3 (by kernel_rfl)).trans h3
          have h16 := (hB51 6 (by kernel_rfl)).trans h4
          have h17 := (hB51 7 (by kernel_rfl)).trans h5
          have h18 := (hB51 18 (by kernel_rfl)).trans h6
          have h19 := (hB51 8 (by kernel_rfl)).trans (show _ = vI x18 from rfl)
          replace g48 : (f_53 68) = vU32 (r_ ^^^ r_1) := g48
          replace g49 : (f_53 73) = vU32 (shr32 e6 3) := g49
          refine WR.k rfl rfl rfl (OS.bin (a := vU32 (r_ ^^^ r_1)) (b := vU32 (shr32 e6 3)) rfl g48 g49 b32_xor ?_)
          refine WR.k rfl rfl rfl (OS.assign (v := vU32 ((r_ ^^^ r_1) ^^^ (shr32 e6 3))) rfl rfl ?_)
          refine WR.nil ?_
          have o24 := o5.keep hs52 (by decide)
          obtain ⟨e7, he7, hl4⟩ := bind_some hl4
          obtain ⟨ha8, hb10, hc7⟩ := gt_some he7
          obtain ⟨r_2, hr_2, hl4⟩ := bind_some hl4
          obtain ⟨e8, he8, hl4⟩ := bind_some hl4
          obtain ⟨ha9, hb11, hc8⟩ := gt_some he8
          obtain ⟨r_3, hr_3, hl4⟩ := bind_some hl4
          obtain ⟨e9, he9, hl4⟩ := bind_some hl4
          obtain ⟨ha10, hb12, hc9⟩ := gt_some he9
          refine WC.seq (WC.draw (c := c_56) ⟨16, [[1], [1], [1], [1], [1], [1], [1], [1], [1], [1], [1], [1], [1], [1], [1], [1]], [[], [], [], [], [], [], [], [], [], [], [], [], [], [], [], []], [], [[], [0], [1], [2], [3], [], [5], [6], [7], [8], [4, 9], [], [11], [12], [13], [14]], [10, 15]⟩ [fun v w c => v = vI x18, fun v w c => v = vI (W (x18 - (2 : Int))), fun v w c => AdrP p_3 (W (x18 - (2 : Int))).toNat 1 v, fun v w c => v = vU32 e7, fun v w c => v = vU32 r_2, fun v w c => v = vI x18, fun v w c => v = vI (W (x18 - (2 : Int))), fun v w c => AdrP p_3 (W (x18 - (2 : Int))).toNat 1 v, fun v w c => v = vU32 e8, fun v w c => v = vU32 r_3, fun v w c => v = vU32 (r_2 ^^^ r_3), fun v w c => v = vI x18, fun v w c => v = vI (W (x18 - (2 : Int))), fun v w c => AdrP p_3 (W (x18 - (2 : Int))).toNat 1 v, fun v w c => v = vU32 e9, fun v w c => v = vU32 (shr32 e9 10)] hmix (by kernel_rfl) (by kernel_rfl) ⟨?_, ?_, ?_, ?_, ?_, ?_, ?_, ?_, ?_, ?_, ?_, ?_, ?_, ?_, ?_, ?_, trivial⟩ ⟨fun _ _ _ _ _ _ h _ _ => h, fun _ _ _ _ _ _ h _ _ => h, fun _ _ _ _ _ _ h _ _ => h, fun _ _ _ _ _ _ h _ _ => h, fun _ _ _ _ _ _ h _ _ => h, fun _ _ _ _ _ _ h _ _ => h, fun _ _ _ _ _ _ h _ _ => h, fun _ _ _ _ _ _ h _ _ => h, fun _ _ _ _ _ _ h _ _ => h, fun _ _ _ _ _ _ h _ _ => h, fun _ _ _ _ _ _ h _ _ => h, fun _ _ _ _ _ _ h _ _ => h, fun _ _ _ _ _ _ h _ _ => h, fun _ _ _ _ _ _ h _ _ => h, fun _ _ _ _ _ _ h _ _ => h, fun _ _ _ _ _ _ h _ _ => h, trivial⟩ ?_)
          · rintro f_54 w_58 c_57 hB52 hs53 ⟨-⟩ o ho; obtain rfl : _ = o := Option.some.inj ho
            exact OS.move (v := vI x18) rfl ((hB52 8 (by kernel_rfl)).trans h19) ⟨_, St.refl, rfl⟩
          · rintro f_55 w_59 c_58 hB53 hs54 ⟨g50, -⟩ o ho; obtain rfl : _ = o := Option.some.inj ho
            replace g50 : (f_55 75) = vI x18 := g50
            exact OS.bin (a := vI x18) (b := vI (2 : Int)) rfl g50 rfl bI_sub ⟨_, St.refl, rfl⟩
          · rintro f_56 w_60 c_59 hB54 hs55 ⟨g51, -⟩ o ho; obtain rfl : _ = o := Option.some.inj ho
            replace g51 : (f_56 76) = vI (W (x18 - (2 : Int))) := g51
            have o25 := o5.keep (hs52.t hs55) (by decide)
            exact OS.idxArr rfl Tryz.runUnderlying178 Tryz.sizeOf132 ((hB54 7 (by kernel_rfl)).trans h17) o25 g51 ha8 (by have := hb10; rw [hl2] at this; exact this) (fun _ h => ⟨_, St.refl, h⟩)
          · rintro f_57 w_61 c_60 hB55 hs56 ⟨g52, -⟩ o ho; obtain rfl : _ = o := Option.some.inj ho
            replace g52 : AdrP p_3 (W (x18 - (2 : Int))).toNat 1 (f_57 77) := g52
            have o26 := o5.keep (hs52.t hs56) (by decide)
            exact OS.ld1 (u := vU32 e7) rfl Tryz.isAgg132 rfl (o26.ld g52 hc7) ⟨_, St.refl, rfl⟩
          · rintro f_58 w_62 c_61 hB56 hs57 ⟨g53, -⟩ o ho; obtain rfl : _ = o := Option.some.inj ho
            replace g53 : (f_58 78) = vU32 e7 := g53
            refine OS.callF (vs := [vU32 e7, vI (-17 : Int)]) rfl ⟨g53, rfl, trivial⟩ Tryz.call138 ((W138 K w_62 hr_2).mono ?_)
            rintro _ w ⟨d, rfl, s⟩
            exact ⟨_, rfl, _, s.merge id, rfl⟩
          · rintro f_59 w_63 c_62 hB57 hs58 ⟨-⟩ o ho; obtain rfl : _ = o := Option.some.inj ho
            exact OS.move (v := vI x18) rfl ((hB57 8 (by kernel_rfl)).trans h19) ⟨_, St.refl, rfl⟩
          · rintro f_60 w_64 c_63 hB58 hs59 ⟨g54, -⟩ o ho; obtain rfl : _ = o := Option.some.inj ho
            replace g54 : (f_60 80) = vI x18 := g54
            exact OS.bin (a := vI x18) (b := vI (2 : Int)) rfl g54 rfl bI_sub ⟨_, St.refl, rfl⟩
          · rintro f_61 w_65 c_64 hB59 hs60 ⟨g55, -⟩ o ho; obtain rfl : _ = o := Option.some.inj ho
            replace g55 : (f_61 81) = vI (W (x18 - (2 : Int))) := g55
            have o27 := o5.keep (hs52.t hs60) (by decide)
            exact OS.idxArr rfl Tryz.runUnderlying178 Tryz.sizeOf132 ((hB59 7 (by kernel_rfl)).trans h17) o27 g55 ha9 (by have := hb11; rw [hl2] at this; exact this) (fun _ h => ⟨_, St.refl, h⟩)
          · rintro f_62 w_66 c_65 hB60 hs61 ⟨g56, -⟩ o ho; obtain rfl : _ = o := Option.some.inj ho
            replace g56 : AdrP p_3 (W (x18 - (2 : Int))).toNat 1 (f_62 82) := g56
            have o28 := o5.keep (hs52.t hs61) (by decide)
            exact OS.ld1 (u := vU32 e8) rfl Tryz.isAgg132 rfl (o28.ld g56 hc8) ⟨_, St.refl, rfl⟩
          · rintro f_63 w_67 c_66 hB61 hs62 ⟨g57, -⟩ o ho; obtain rfl : _ = o := Option.some.inj ho
            replace g57 : (f_63 83) = vU32 e8 := g57
            refine OS.callF (vs := [vU32 e8, vI (-19 : Int)]) rfl ⟨g57, rfl, trivial⟩ Tryz.call138 ((W138 K w_67 hr_3).mono ?_)
            rintro _ w ⟨d, rfl, s⟩
            exact ⟨_, rfl, _, s.merge id, rfl⟩
          · rintro f_64 w_68 c_67 hB62 hs63 ⟨g58, g59, -⟩ o ho; obtain rfl : _ = o := Option.some.inj ho
            replace g58 : (f_64 79) = vU32 r_2 := g58
            replace g59 : (f_64 84) = vU32 r_3 := g59
            exact OS.bin (a := vU32 r_2) (b := vU32 r_3) rfl g58 g59 b32_xor ⟨_, St.refl, rfl⟩
          · rintro f_65 w_69 c_68 hB63 hs64 ⟨-⟩ o ho; obtain rfl : _ = o := Option.some.inj ho
            exact OS.move (v := vI x18) rfl ((hB63 8 (by kernel_rfl)).trans h19) ⟨_, St.refl, rfl⟩
          · rintro f_66 w_70 c_69 hB64 hs65 ⟨g60, -⟩ o ho; obtain rfl : _ = o := Option.some.inj ho
            replace g60 : (f_66 86) = vI x18 := g60
            exact OS.bin (a := vI x18) (b := vI (2 : Int)) rfl g60 rfl bI_sub ⟨_, St.refl, rfl⟩
          · rintro f_67 w_71 c_70 hB65 hs66 ⟨g61, -⟩ o ho; obtain rfl : _ = o := Option.some.inj ho
            replace g61 : (f_67 87) = vI (W (x18 - (2 : Int))) := g61
            have o29 := o5.keep (hs52.t hs66) (by decide)
            exact OS.idxArr rfl Tryz.runUnderlying178 Tryz.sizeOf132 ((hB65 7 (by kernel_rfl)).trans h17) o29 g61 ha10 (by have := hb12; rw [hl2] at this; exact this) (fun _ h => ⟨_, St.refl, h⟩)
          · rintro f_68 w_72 c_71 hB66 hs67 ⟨g62, -⟩ o ho; obtain rfl : _ = o := Option.some.inj ho
            replace g62 : AdrP p_3 (W (x18 - (2 : Int))).toNat 1 (f_68 88) := g62
            have o30 := o5.keep (hs52.t hs67) (by decide)
            exact OS.ld1 (u := vU32 e9) rfl Tryz.isAgg132 rfl (o30.ld g62 hc9) ⟨_, St.refl, rfl⟩
          · rintro f_69 w_73 c_72 hB67 hs68 ⟨g63, -⟩ o ho; obtain rfl : _ = o := Option.some.inj ho
            replace g63 : (f_69 89) = vU32 e9 := g63
            exact OS.bin (a := vU32 e9) (b := vU64 (10 : UInt64)) rfl g63 (by kernel_rfl) (b32_shr (by decide)) ⟨_, St.refl, rfl⟩
          · rintro f_70 w_74 c_73 hB68 hs69 ⟨g64, g65, -⟩
            have h20 := (hB68 1 (by kernel_rfl)).trans h13
            have h21 := (hB68 2 (by kernel_rfl)).trans h14
            have h22 := (hB68 3 (by kernel_rfl)).trans h15
            have h23 := (hB68 6 (by kernel_rfl)).trans h16
            have h24 := (hB68 7 (by kernel_rfl)).trans h17
            have h25 := (hB68 18 (by kernel_rfl)).trans h18
            have h26 := (hB68 8 (by kernel_rfl)).trans h19
            have h27 := (hB68 9 (by kernel_rfl)).trans (show _ = vU32 ((r_ ^^^ r_1) ^^^ (shr32 e6 3)) from rfl)
            replace g64 : (f_70 85) = vU32 (r_2 ^^^ r_3) := g64
            replace g65 : (f_70 90) = vU32 (shr32 e9 10) := g65
            refine WR.k rfl rfl rfl (OS.bin (a := vU32 (r_2 ^^^ r_3)) (b := vU32 (shr32 e9 10)) rfl g64 g65 b32_xor ?_)
            refine WR.k rfl rfl rfl (OS.assign (v := vU32 ((r_2 ^^^ r_3) ^^^ (shr32 e9 10))) rfl rfl ?_)
            refine WR.nil ?_
            have o31 := o5.keep (hs52.t hs69) (by decide)
            obtain ⟨e10, he10, hl4⟩ := bind_some hl4
            obtain ⟨ha11, hb13, hc10⟩ := gt_some he10
            obtain ⟨e11, he11, hl4⟩ := bind_some hl4
            obtain ⟨ha12, hb14, hc11⟩ := gt_some he11
            refine WC.draw (c := c_73) ⟨14, [[1], [1], [1], [1], [1], [1], [1], [1], [1], [1], [1], [1], [1], [1]], [[], [], [], [], [], [], [], [], [], [], [], [], [], []], [], [[], [], [1], [2], [3], [], [4, 5], [], [7], [8], [9], [6, 10], [], [11, 12]], [0, 13]⟩ [fun v w c => v = vI x18, fun v w c => v = vI x18, fun v w c => v = vI (W (x18 - (16 : Int))), fun v w c => AdrP p_3 (W (x18 - (16 : Int))).toNat 1 v, fun v w c => v = vU32 e10, fun v w c => v = vU32 ((r_ ^^^ r_1) ^^^ (shr32 e6 3)), fun v w c => v = vU32 (e10 + ((r_ ^^^ r_1) ^^^ (shr32 e6 3))), fun v w c => v = vI x18, fun v w c => v = vI (W (x18 - (7 : Int))), fun v w c => AdrP p_3 (W (x18 - (7 : Int))).toNat 1 v, fun v w c => v = vU32 e11, fun v w c => v = vU32 ((e10 + ((r_ ^^^ r_1) ^^^ (shr32 e6 3))) + e11), fun v w c => v = vU32 ((r_2 ^^^ r_3) ^^^ (shr32 e9 10)), fun v w c => v = vU32 (((e10 + ((r_ ^^^ r_1) ^^^ (shr32 e6 3))) + e11) + ((r_2 ^^^ r_3) ^^^ (shr32 e9 10)))] hmix (by kernel_rfl) (by kernel_rfl) ⟨?_, ?_, ?_, ?_, ?_, ?_, ?_, ?_, ?_, ?_, ?_, ?_, ?_, ?_, trivial⟩ ⟨fun _ _ _ _ _ _ h _ _ => h, fun _ _ _ _ _ _ h _ _ => h, fun _ _ _ _ _ _ h _ _ => h, fun _ _ _ _ _ _ h _ _ => h, fun _ _ _ _ _ _ h _ _ => h, fun _ _ _ _ _ _ h _ _ => h, fun _ _ _ _ _ _ h _ _ => h, fun _ _ _ _ _ _ h _ _ => h, fun _ _ _ _ _ _ h _ _ => h, fun _ _ _ _ _ _ h _ _ => h, fun _ _ _ _ _ _ h _ _ => h, fun _ _ _ _ _ _ h _ _ => h, fun _ _ _ _ _ _ h _ _ => h, fun _ _ _ _ _ _ h _ _ => h, trivial⟩ ?_
            · rintro f_71 w_75 c_74 hB69 hs70 ⟨-⟩ o ho; obtain rfl : _ = o := Option.some.inj ho
              exact OS.move (v := vI x18) rfl ((hB69 8 (by kernel_rfl)).trans h26) ⟨_, St.refl, rfl⟩
            · rintro f_72 w_76 c_75 hB70 hs71 ⟨-⟩ o ho; obtain rfl : _ = o := Option.some.inj ho
              exact OS.move (v := vI x18) rfl ((hB70 8 (by kernel_rfl)).trans h26) ⟨_, St.refl, rfl⟩
            · rintro f_73 w_77 c_76 hB71 hs72 ⟨g66, -⟩ o ho; obtain rfl : _ = o := Option.some.inj ho
              replace g66 : (f_73 93) = vI x18 := g66
              exact OS.bin (a := vI x18) (b := vI (16 : Int)) rfl g66 rfl bI_sub ⟨_, St.refl, rfl⟩
            · rintro f_74 w_78 c_77 hB72 hs73 ⟨g67, -⟩ o ho; obtain rfl : _ = o := Option.some.inj ho
              replace g67 : (f_74 94) = vI (W (x18 - (16 : Int))) := g67
              have o32 := o5.keep ((hs52.t hs69).t hs73) (by decide)
              exact OS.idxArr rfl Tryz.runUnderlying178 Tryz.sizeOf132 ((hB72 7 (by kernel_rfl)).trans h24) o32 g67 ha11 (by have := hb13; rw [hl2] at this; exact this) (fun _ h => ⟨_, St.refl, h⟩)
            · rintro f_75 w_79 c_78 hB73 hs74 ⟨g68, -⟩ o ho; obtain rfl : _ = o := Option.some.inj ho
              replace g68 : AdrP p_3 (W (x18 - (16 : Int))).toNat 1 (f_75 95) := g68
              have o33 := o5.keep ((hs52.t hs69).t hs74) (by decide)
              exact OS.ld1 (u := vU32 e10) rfl Tryz.isAgg132 rfl (o33.ld g68 hc10) ⟨_, St.refl, rfl⟩
            · rintro f_76 w_80 c_79 hB74 hs75 ⟨-⟩ o ho; obtain rfl : _ = o := Option.some.inj ho
              exact OS.move (v := vU32 ((r_ ^^^ r_1) ^^^ (shr32 e6 3))) rfl ((hB74 9 (by kernel_rfl)).trans h27) ⟨_, St.refl, rfl⟩
            · rintro f_77 w_81 c_80 hB75 hs76 ⟨g69, g70, -⟩ o ho; obtain rfl : _ = o := Option.some.inj ho
              replace g69 : (f_77 96) = vU32 e10 := g69
              replace g70 : (f_77 97) = vU32 ((r_ ^^^ r_1) ^^^ (shr32 e6 3)) := g70
              exact OS.bin (a := vU32 e10) (b := vU32 ((r_ ^^^ r_1) ^^^ (shr32 e6 3))) rfl g69 g70 b32_add ⟨_, St.refl, rfl⟩
            · rintro f_78 w_82 c_81 hB76 hs77 ⟨-⟩ o ho; obtain rfl : _ = o := Option.some.inj ho
              exact OS.move (v := vI x18) rfl ((hB76 8 (by kernel_rfl)).trans h26) ⟨_, St.refl, rfl⟩
            · rintro f_79 w_83 c_82 hB77 hs78 ⟨g71, -⟩ o ho; obtain rfl : _ = o := Option.some.inj ho
              replace g71 : (f_79 99) = vI x18 := g71
              exact OS.bin (a := vI x18) (b := vI (7 : Int)) rfl g71 rfl bI_sub ⟨_, St.refl, rfl⟩
            · rintro f_80 w_84 c_83 hB78 hs79 ⟨g72, -⟩ o ho; obtain rfl : _ = o := Option.some.inj ho
              replace g72 : (f_80 100) = vI (W (x18 - (7 : Int))) := g72
              have o34 := o5.keep ((hs52.t hs69).t hs79) (by decide)
              exact OS.idxArr rfl Tryz.runUnderlying178 Tryz.sizeOf132 ((hB78 7 (by kernel_rfl)).trans h24) o34 g72 ha12 (by have := hb14; rw [hl2] at this; exact this) (fun _ h => ⟨_, St.refl, h⟩)
            · rintro f_81 w_85 c_84 hB79 hs80 ⟨g73, -⟩ o ho; obtain rfl : _ = o := Option.some.inj ho
              replace g73 : AdrP p_3 (W (x18 - (7 : Int))).toNat 1 (f_81 101) := g73
              have o35 := o5.keep ((hs52.t hs69).t hs80) (by decide)
              exact OS.ld1 (u := vU32 e11) rfl Tryz.isAgg132 rfl (o35.ld g73 hc11) ⟨_, St.refl, rfl⟩
            · rintro f_82 w_86 c_85 hB80 hs81 ⟨g74, g75, -⟩ o ho; obtain rfl : _ = o := Option.some.inj ho
              replace g74 : (f_82 98) = vU32 (e10 + ((r_ ^^^ r_1) ^^^ (shr32 e6 3))) := g74
              replace g75 : (f_82 102) = vU32 e11 := g75
              exact OS.bin (a := vU32 (e10 + ((r_ ^^^ r_1) ^^^ (shr32 e6 3)))) (b := vU32 e11) rfl g74 g75 b32_add ⟨_, St.refl, rfl⟩
            · rintro f_83 w_87 c_86 hB81 hs82 ⟨-⟩ o ho; obtain rfl : _ = o := Option.some.inj ho
              exact OS.move (v := vU32 ((r_2 ^^^ r_3) ^^^ (shr32 e9 10))) rfl ((hB81 10 (by kernel_rfl)).trans rfl) ⟨_, St.refl, rfl⟩
            · rintro f_84 w_88 c_87 hB82 hs83 ⟨g76, g77, -⟩ o ho; obtain rfl : _ = o := Option.some.inj ho
              replace g76 : (f_84 103) = vU32 ((e10 + ((r_ ^^^ r_1) ^^^ (shr32 e6 3))) + e11) := g76
              replace g77 : (f_84 104) = vU32 ((r_2 ^^^ r_3) ^^^ (shr32 e9 10)) := g77
              exact OS.bin (a := vU32 ((e10 + ((r_ ^^^ r_1) ^^^ (shr32 e6 3))) + e11)) (b := vU32 ((r_2 ^^^ r_3) ^^^ (shr32 e9 10))) rfl g76 g77 b32_add ⟨_, St.refl, rfl⟩
            · rintro f_85 w_89 c_88 hB83 hs84 ⟨g78, g79, -⟩
              have h28 := (hB83 1 (by kernel_rfl)).trans h20
              have h29 := (hB83 2 (by kernel_rfl)).trans h21
              have h30 := (hB83 3 (by kernel_rfl)).trans h22
              have h31 := (hB83 6 (by kernel_rfl)).trans h23
              have h32 := (hB83 7 (by kernel_rfl)).trans h24
              have h33 := (hB83 18 (by kernel_rfl)).trans h25
              replace g78 : (f_85 92) = vI x18 := g78
              replace g79 : (f_85 105) = vU32 (((e10 + ((r_ ^^^ r_1) ^^^ (shr32 e6 3))) + e11) + ((r_2 ^^^ r_3) ^^^ (shr32 e9 10))) := g79
              have o36 := o5.keep ((hs52.t hs69).t hs84) (by decide)
              obtain ⟨u1, hu1, hl4⟩ := bind_some hl4
              obtain ⟨ha13, hb15⟩ := req_some hu1
              refine WR.k rfl rfl rfl (OS.idxArr rfl Tryz.runUnderlying178 Tryz.sizeOf132 h32 o36 g78 ha13 (by have := hb15; rw [hl2] at this; exact this) ?_); intro p_5 a14
              obtain ⟨xs3, hxs3, hl4⟩ := bind_some hl4
              replace hxs3 := (Option.some.inj hxs3).symm
              refine WR.k0 rfl rfl (OS.stArr (q := ((e10 + ((r_ ^^^ r_1) ^^^ (shr32 e6 3))) + e11) + ((r_2 ^^^ r_3) ^^^ (shr32 e9 10))) (u := vU32 (((e10 + ((r_ ^^^ r_1) ^^^ (shr32 e6 3))) + e11) + ((r_2 ^^^ r_3) ^^^ (shr32 e9 10)))) rfl Tryz.sizeOf132 rfl g79 o36 rfl a14 (by have h1 := (by have := hb15; rw [hl2] at this; exact this); rw [hl2]; omega) rfl ?_); intro w_90 o37 s5
              replace o37 : Arr E132 14 w_90 c_88 p_3 xs3 := by rw [hxs3]; exact o37
              have hl6 : xs3.length = 64 := (by rw [hxs3, List.length_set]; exact hl2)
              refine WR.nil ?_
              refine WC.region ?_
              refine WR.k rfl rfl rfl (OS.bin (a := vI x18) (b := vI (1 : Int)) rfl h33 rfl bI_add ?_)
              refine WR.k rfl rfl rfl (OS.move (v := vI (W (x18 + (1 : Int)))) rfl rfl ?_)
              refine WR.nil ?_
              exact ⟨k, by omega, _, _, _, hl4, h28, h29, h30, h31, h32, o37, hl6, rfl, ((((s3.t hs52).t hs69).t hs84).t s5).mono (by decide)⟩
    · rw [if_neg (nt hb)] at hl4
      refine WC.exit ?_
      cases hl4
      exact ⟨_, h1, h3, h4, h5, o5, hl2, s3.mono (by decide)⟩
  · rintro f_ w_3 ⟨c_3, h34, h35, h36, h37, o6, hl3, s6⟩
    refine WC.seq (WC.region ?_)
    have o38 := o2.keep ((s1.t s2).t s6) (by decide)
    refine WR.k rfl rfl rfl (OS.ldN rfl Tryz.isAgg149 Tryz.sizeOf149 h35 o38.ldAll (by rw [fl_length, hl]; rfl) ?_)
    refine WR.k rfl rfl rfl (OS.allocArr (E := E132) (xs := (List.replicate 8 (0 : UInt32))) (c := c_3) 18 rfl Tryz.zeroValue149 (by kernel_rfl) ?_); intro p_6 w_91 c_89 o39 s7
    refine WR.k0 rfl rfl (OS.stArrAll rfl Tryz.sizeOf149 rfl rfl o39 (by rw [fl_length, hl]; rfl) (Eq.trans (List.length_replicate (n := 8) (a := (0 : UInt32))) (Eq.symm hl)) ?_); intro w_92 o40 s8
    have hl7 : h.length = 8 := hl
    refine WR.nil ?_
    refine WC.seq ?_
    refine WC.seq (WC.region ?_)
    refine WR.k rfl rfl rfl (OS.move (v := vI (0 : Int)) rfl rfl ?_)
    refine WR.nil ?_
    obtain ⟨q1, hl10, hp⟩ := bind_some hp
    obtain ⟨h39, hx⟩ : ∃ z, z = q1 := ⟨_, rfl⟩; subst hx
    refine WC.blockJ2 (fun f_86 w_93 => ∃ (c_90 : Col), f_86 3 = p_1 ∧ f_86 6 = p_2 ∧ f_86 11 = p_6 ∧ Arr E132 18 w_93 c_90 p_6 h39 ∧ h39.length = 8 ∧ St [18] w_92 c_89 w_93 c_90) ?_ ?_
    · refine WC.loop (fun n => fun f_87 w_94 => ∃ (h38 : List UInt32) (x109 : Int) (c_91 : Col), hash_words_mix.l2 K n k1 xs1 h38 x109 = some h39 ∧ f_87 1 = p_ ∧ f_87 3 = p_1 ∧ f_87 6 = p_2 ∧ f_87 7 = p_3 ∧ f_87 11 = p_6 ∧ Arr E132 18 w_94 c_91 p_6 h38 ∧ h38.length = 8 ∧ f_87 109 = vI x109 ∧ St [18] w_92 c_89 w_94 c_91) K ⟨_, _, _, hl10, h34, h35, h36, h37, rfl, o40, hl7, rfl, St.refl.mono (by decide)⟩ ?_
      rintro n f_87 w_94 ⟨h38, x109, c_91, hl10, h40, h41, h42, h43, h44, o41, hl8, h45, s9⟩
      cases n with
      | zero => exact absurd hl10 (by simp [hash_words_mix.l2])
      | succ k =>
      rw [hash_words_mix.l2] at hl10
      refine WC.seq (WC.region ?_)
      refine WR.k rfl rfl rfl (OS.bin (a := vI x109) (b := vI (64 : Int)) rfl h45 rfl bI_lss ?_)
      refine WR.nil ?_
      refine WC.seq ?_
      refine WC.cond (decide (x109 < (64 : Int))) rfl (fun hb16 => ?_) (fun hb16 => ?_)
      · rw [if_pos hb16] at hl10
        refine WC.skip ?_
        refine WC.seq ?_
        refine WC.block ?_
        refine WC.seq (WC.region ?_)
        refine WR.k rfl rfl rfl (OS.move (v := vI x109) rfl h45 ?_)
        refine WR.k rfl rfl rfl (OS.assign (v := vI x109) rfl rfl ?_)
        refine WR.nil ?_
        obtain ⟨r_4, hr_4, hl10⟩ := bind_some hl10
        obtain ⟨r_5, hr_5, hl10⟩ := bind_some hl10
        obtain ⟨r_6, hr_6, hl10⟩ := bind_some hl10
        refine WC.seq (WC.draw (c := c_91) ⟨10, [[1], [1], [1], [1], [1], [1], [1], [1], [1], [1]], [[], [], [], [], [], [], [], [], [], []], [], [[], [0], [1], [], [3], [4], [2, 5], [], [7], [8]], [6, 9]⟩ [fun v w c => AdrP p_6 ((4 : Int)).toNat 1 v, fun v w c => v = vU32 (h38.getD 4 0), fun v w c => v = vU32 r_4, fun v w c => AdrP p_6 ((4 : Int)).toNat 1 v, fun v w c => v = vU32 (h38.getD 4 0), fun v w c => v = vU32 r_5, fun v w c => v = vU32 (r_4 ^^^ r_5), fun v w c => AdrP p_6 ((4 : Int)).toNat 1 v, fun v w c => v = vU32 (h38.getD 4 0), fun v w c => v = vU32 r_6] hmix (by kernel_rfl) (by kernel_rfl) ⟨?_, ?_, ?_, ?_, ?_, ?_, ?_, ?_, ?_, ?_, trivial⟩ ⟨fun _ _ _ _ _ _ h _ _ => h, fun _ _ _ _ _ _ h _ _ => h, fun _ _ _ _ _ _ h _ _ => h, fun _ _ _ _ _ _ h _ _ => h, fun _ _ _ _ _ _ h _ _ => h, fun _ _ _ _ _ _ h _ _ => h, fun _ _ _ _ _ _ h _ _ => h, fun _ _ _ _ _ _ h _ _ => h, fun _ _ _ _ _ _ h _ _ => h, fun _ _ _ _ _ _ h _ _ => h, trivial⟩ ?_)
        · rintro f_88 w_95 c_92 hB84 hs85 ⟨-⟩ o ho; obtain rfl : _ = o := Option.some.inj ho
          have o43 := o41.keep hs85 (by decide)
          exact OS.idxArr rfl Tryz.runUnderlying149 Tryz.sizeOf132 ((hB84 11 (by kernel_rfl)).trans h44) o43 rfl (by decide) (by decide) (fun _ h => ⟨_, St.refl, h⟩)
        · rintro f_89 w_96 c_93 hB85 hs86 ⟨g80, -⟩ o ho; obtain rfl : _ = o := Option.some.inj ho
          replace g80 : AdrP p_6 ((4 : Int)).toNat 1 (f_89 112) := g80
          have o44 := o41.keep hs86 (by decide)
          exact OS.ld1 (u := vU32 (h38.getD 4 0)) rfl Tryz.isAgg132 rfl (o44.ld g80 (getD_some (by rw [hl8]; decide))) ⟨_, St.refl, rfl⟩
        · rintro f_90 w_97 c_94 hB86 hs87 ⟨g81, -⟩ o ho; obtain rfl : _ = o := Option.some.inj ho
          replace g81 : (f_90 113) = vU32 (h38.getD 4 0) := g81
          refine OS.callF (vs := [vU32 (h38.getD 4 0), vI (-6 : Int)]) rfl ⟨g81, rfl, trivial⟩ Tryz.call138 ((W138 K w_97 hr_4).mono ?_)
          rintro _ w ⟨d, rfl, s⟩
          exact ⟨_, rfl, _, s.merge id, rfl⟩
        · rintro f_91 w_98 c_95 hB87 hs88 ⟨-⟩ o ho; obtain rfl : _ = o := Option.some.inj ho
          have o45 := o41.keep hs88 (by decide)
          exact OS.idxArr rfl Tryz.runUnderlying149 Tryz.sizeOf132 ((hB87 11 (by kernel_rfl)).trans h44) o45 rfl (by decide) (by decide) (fun _ h => ⟨_, St.refl, h⟩)
        · rintro f_92 w_99 c_96 hB88 hs89 ⟨g82, -⟩ o ho; obtain rfl : _ = o := Option.some.inj ho
          replace g82 : AdrP p_6 ((4 : Int)).toNat 1 (f_92 115) := g82
          have o46 := o41.keep hs89 (by decide)
          exact OS.ld1 (u := vU32 (h38.getD 4 0)) rfl Tryz.isAgg132 rfl (o46.ld g82 (getD_some (by rw [hl8]; decide))) ⟨_, St.refl, rfl⟩
        · rintro f_93 w_100 c_97 hB89 hs90 ⟨g83, -⟩ o ho; obtain rfl : _ = o := Option.some.inj ho
          replace g83 : (f_93 116) = vU32 (h38.getD 4 0) := g83
          refine OS.callF (vs := [vU32 (h38.getD 4 0), vI (-11 : Int)]) rfl ⟨g83, rfl, trivial⟩ Tryz.call138 ((W138 K w_100 hr_5).mono ?_)
          rintro _ w ⟨d, rfl, s⟩
          exact ⟨_, rfl, _, s.merge id, rfl⟩
        · rintro f_94 w_101 c_98 hB90 hs91 ⟨g84, g85, -⟩ o ho; obtain rfl : _ = o := Option.some.inj ho
          replace g84 : (f_94 114) = vU32 r_4 := g84
          replace g85 : (f_94 117) = vU32 r_5 := g85
          exact OS.bin (a := vU32 r_4) (b := vU32 r_5) rfl g84 g85 b32_xor ⟨_, St.refl, rfl⟩
        · rintro f_95 w_102 c_99 hB91 hs92 ⟨-⟩ o ho; obtain rfl : _ = o := Option.some.inj ho
          have o47 := o41.keep hs92 (by decide)
          exact OS.idxArr rfl Tryz.runUnderlying149 Tryz.sizeOf132 ((hB91 11 (by kernel_rfl)).trans h44) o47 rfl (by decide) (by decide) (fun _ h => ⟨_, St.refl, h⟩)
        · rintro f_96 w_103 c_100 hB92 hs93 ⟨g86, -⟩ o ho; obtain rfl : _ = o := Option.some.inj ho
          replace g86 : AdrP p_6 ((4 : Int)).toNat 1 (f_96 119) := g86
          have o48 := o41.keep hs93 (by decide)
          exact OS.ld1 (u := vU32 (h38.getD 4 0)) rfl Tryz.isAgg132 rfl (o48.ld g86 (getD_some (by rw [hl8]; decide))) ⟨_, St.refl, rfl⟩
        · rintro f_97 w_104 c_101 hB93 hs94 ⟨g87, -⟩ o ho; obtain rfl : _ = o := Option.some.inj ho
          replace g87 : (f_97 120) = vU32 (h38.getD 4 0) := g87
          refine OS.callF (vs := [vU32 (h38.getD 4 0), vI (-25 : Int)]) rfl ⟨g87, rfl, trivial⟩ Tryz.call138 ((W138 K w_104 hr_6).mono ?_)
          rintro _ w ⟨d, rfl, s⟩
          exact ⟨_, rfl, _, s.merge id, rfl⟩
        · rintro f_98 w_105 c_102 hB94 hs95 ⟨g88, g89, -⟩
          have h46 := (hB94 1 (by kernel_rfl)).trans h40
          have h47 := (hB94 3 (by kernel_rfl)).trans h41
          have h48 := (hB94 6 (by kernel_rfl)).trans h42
          have h49 := (hB94 7 (by kernel_rfl)).trans h43
          have h50 := (hB94 11 (by kernel_rfl)).trans h44
          have h51 := (hB94 109 (by kernel_rfl)).trans h45
          have h52 := (hB94 12 (by kernel_rfl)).trans (show _ = vI x109 from rfl)
          replace g88 : (f_98 118) = vU32 (r_4 ^^^ r_5) := g88
          replace g89 : (f_98 121) = vU32 r_6 := g89
          refine WR.k rfl rfl rfl (OS.bin (a := vU32 (r_4 ^^^ r_5)) (b := vU32 r_6) rfl g88 g89 b32_xor ?_)
          refine WR.k rfl rfl rfl (OS.assign (v := vU32 ((r_4 ^^^ r_5) ^^^ r_6)) rfl rfl ?_)
          refine WR.nil ?_
          have o49 := o41.keep hs95 (by decide)
          have o50 := o.keep (((((((s.t s1).t s2).t s6).t s7).t s8).t s9).t hs95) (by decide)
          obtain ⟨e12, he12, hl10⟩ := bind_some hl10
          obtain ⟨ha14, hb17, hc12⟩ := gt_some he12
          have o51 := o6.keep (((s7.t s8).t s9).t hs95) (by decide)
          obtain ⟨e13, he13, hl10⟩ := bind_some hl10
          obtain ⟨ha15, hb18, hc13⟩ := gt_some he13
          refine WC.seq (WC.draw (c := c_102) ⟨25, [[1], [1], [1], [1], [1], [1], [1], [1], [1], [1], [1], [1], [1], [1], [1], [1], [1], [1], [1], [1], [1], [1], [1], [1], [1]], [[], [], [], [], [], [], [], [], [], [], [], [], [], [], [], [], [], [], [], [], [], [], [], [], []], [], [[], [0], [], [1, 2], [], [4], [], [6], [], [8], [], [10], [9, 11], [7, 12], [5, 13], [3, 14], [], [], [16], [17, 18], [19], [15, 20], [], [22], [23]], [21, 24]⟩ [fun v w c => AdrP p_6 ((7 : Int)).toNat 1 v, fun v w c => v = vU32 (h38.getD 7 0), fun v w c => v = vU32 ((r_4 ^^^ r_5) ^^^ r_6), fun v w c => v = vU32 ((h38.getD 7 0) + ((r_4 ^^^ r_5) ^^^ r_6)), fun v w c => AdrP p_6 ((6 : Int)).toNat 1 v, fun v w c => v = vU32 (h38.getD 6 0), fun v w c => AdrP p_6 ((4 : Int)).toNat 1 v, fun v w c => v = vU32 (h38.getD 4 0), fun v w c => AdrP p_6 ((5 : Int)).toNat 1 v, fun v w c => v = vU32 (h38.getD 5 0), fun v w c => AdrP p_6 ((6 : Int)).toNat 1 v, fun v w c => v = vU32 (h38.getD 6 0), fun v w c => v = vU32 ((h38.getD 5 0) ^^^ (h38.getD 6 0)), fun v w c => v = vU32 ((h38.getD 4 0) &&& ((h38.getD 5 0) ^^^ (h38.getD 6 0))), fun v w c => v = vU32 ((h38.getD 6 0) ^^^ ((h38.getD 4 0) &&& ((h38.getD 5 0) ^^^ (h38.getD 6 0)))), fun v w c => v = vU32 (((h38.getD 7 0) + ((r_4 ^^^ r_5) ^^^ r_6)) + ((h38.getD 6 0) ^^^ ((h38.getD 4 0) &&& ((h38.getD 5 0) ^^^ (h38.getD 6 0))))), fun v w c => v = p_, fun v w c => v = vI x109, fun v w c => v = p_, fun v w c => AdrP p_ (x109).toNat 1 v, fun v w c => v = vU32 e12, fun v w c => v = vU32 ((((h38.getD 7 0) + ((r_4 ^^^ r_5) ^^^ r_6)) + ((h38.getD 6 0) ^^^ ((h38.getD 4 0) &&& ((h38.getD 5 0) ^^^ (h38.getD 6 0))))) + e12), fun v w c => v = vI x109, fun v w c => AdrP p_3 (x109).toNat 1 v, fun v w c => v = vU32 e13] hmix (by kernel_rfl) (by kernel_rfl) ⟨?_, ?_, ?_, ?_, ?_, ?_, ?_, ?_, ?_, ?_, ?_, ?_, ?_, ?_, ?_, ?_, ?_, ?_, ?_, ?_, ?_, ?_, ?_, ?_, ?_, trivial⟩ ⟨fun _ _ _ _ _ _ h _ _ => h, fun _ _ _ _ _ _ h _ _ => h, fun _ _ _ _ _ _ h _ _ => h, fun _ _ _ _ _ _ h _ _ => h, fun _ _ _ _ _ _ h _ _ => h, fun _ _ _ _ _ _ h _ _ => h, fun _ _ _ _ _ _ h _ _ => h, fun _ _ _ _ _ _ h _ _ => h, fun _ _ _ _ _ _ h _ _ => h, fun _ _ _ _ _ _ h _ _ => h, fun _ _ _ _ _ _ h _ _ => h, fun _ _ _ _ _ _ h _ _ => h, fun _ _ _ _ _ _ h _ _ => h, fun _ _ _ _ _ _ h _ _ => h, fun _ _ _ _ _ _ h _ _ => h, fun _ _ _ _ _ _ h _ _ => h, fun _ _ _ _ _ _ h _ _ => h, fun _ _ _ _ _ _ h _ _ => h, fun _ _ _ _ _ _ h _ _ => h, fun _ _ _ _ _ _ h _ _ => h, fun _ _ _ _ _ _ h _ _ => h, fun _ _ _ _ _ _ h _ _ => h, fun _ _ _ _ _ _ h _ _ => h, fun _ _ _ _ _ _ h _ _ => h, fun _ _ _ _ _ _ h _ _ => h, trivial⟩ ?_)
          · rintro f_99 w_106 c_103 hB95 hs96 ⟨-⟩ o ho; obtain rfl : _ = o := Option.some.inj ho
            have o52 := o41.keep (hs95.t hs96) (by decide)
            exact OS.idxArr rfl Tryz.runUnderlying149 Tryz.sizeOf132 ((hB95 11 (by kernel_rfl)).trans h50) o52 rfl (by decide) (by decide) (fun _ h => ⟨_, St.refl, h⟩)
          · rintro f_100 w_107 c_104 hB96 hs97 ⟨g90, -⟩ o ho; obtain rfl : _ = o := Option.some.inj ho
            replace g90 : AdrP p_6 ((7 : Int)).toNat 1 (f_100 123) := g90
            have o53 := o41.keep (hs95.t hs97) (by decide)
            exact OS.ld1 (u := vU32 (h38.getD 7 0)) rfl Tryz.isAgg132 rfl (o53.ld g90 (getD_some (by rw [hl8]; decide))) ⟨_, St.refl, rfl⟩
          · rintro f_101 w_108 c_105 hB97 hs98 ⟨-⟩ o ho; obtain rfl : _ = o := Option.some.inj ho
            exact OS.move (v := vU32 ((r_4 ^^^ r_5) ^^^ r_6)) rfl ((hB97 13 (by kernel_rfl)).trans rfl) ⟨_, St.refl, rfl⟩
          · rintro f_102 w_109 c_106 hB98 hs99 ⟨g91, g92, -⟩ o ho; obtain rfl : _ = o := Option.some.inj ho
            replace g91 : (f_102 124) = vU32 (h38.getD 7 0) := g91
            replace g92 : (f_102 125) = vU32 ((r_4 ^^^ r_5) ^^^ r_6) := g92
            exact OS.bin (a := vU32 (h38.getD 7 0)) (b := vU32 ((r_4 ^^^ r_5) ^^^ r_6)) rfl g91 g92 b32_add ⟨_, St.refl, rfl⟩
          · rintro f_103 w_110 c_107 hB99 hs100 ⟨-⟩ o ho; obtain rfl : _ = o := Option.some.inj ho
            have o54 := o41.keep (hs95.t hs100) (by decide)
            exact OS.idxArr rfl Tryz.runUnderlying149 Tryz.sizeOf132 ((hB99 11 (by kernel_rfl)).trans h50) o54 rfl (by decide) (by decide) (fun _ h => ⟨_, St.refl, h⟩)
          · rintro f_104 w_111 c_108 hB100 hs101 ⟨g93, -⟩ o ho; obtain rfl : _ = o := Option.some.inj ho
            replace g93 : AdrP p_6 ((6 : Int)).toNat 1 (f_104 127) := g93
            have o55 := o41.keep (hs95.t hs101) (by decide)
            exact OS.ld1 (u := vU32 (h38.getD 6 0)) rfl Tryz.isAgg132 rfl (o55.ld g93 (getD_some (by rw [hl8]; decide))) ⟨_, St.refl, rfl⟩
          · rintro f_105 w_112 c_109 hB101 hs102 ⟨-⟩ o ho; obtain rfl : _ = o := Option.some.inj ho
            have o56 := o41.keep (hs95.t hs102) (by decide)
            exact OS.idxArr rfl Tryz.runUnderlying149 Tryz.sizeOf132 ((hB101 11 (by kernel_rfl)).trans h50) o56 rfl (by decide) (by decide) (fun _ h => ⟨_, St.refl, h⟩)
          · rintro f_106 w_113 c_110 hB102 hs103 ⟨g94, -⟩ o ho; obtain rfl : _ = o := Option.some.inj ho
            replace g94 : AdrP p_6 ((4 : Int)).toNat 1 (f_106 129) := g94
            have o57 := o41.keep (hs95.t hs103) (by decide)
            exact OS.ld1 (u := vU32 (h38.getD 4 0)) rfl Tryz.isAgg132 rfl (o57.ld g94 (getD_some (by rw [hl8]; decide))) ⟨_, St.refl, rfl⟩
          · rintro f_107 w_114 c_111 hB103 hs104 ⟨-⟩ o ho; obtain rfl : _ = o := Option.some.inj ho
            have o58 := o41.keep (hs95.t hs104) (by decide)
            exact OS.idxArr rfl Tryz.runUnderlying149 Tryz.sizeOf132 ((hB103 11 (by kernel_rfl)).trans h50) o58 rfl (by decide) (by decide) (fun _ h => ⟨_, St.refl, h⟩)
          · rintro f_108 w_115 c_112 hB104 hs105 ⟨g95, -⟩ o ho; obtain rfl : _ = o := Option.some.inj ho
            replace g95 : AdrP p_6 ((5 : Int)).toNat 1 (f_108 131) := g95
            have o59 := o41.keep (hs95.t hs105) (by decide)
            exact OS.ld1 (u := vU32 (h38.getD 5 0)) rfl Tryz.isAgg132 rfl (o59.ld g95 (getD_some (by rw [hl8]; decide))) ⟨_, St.refl, rfl⟩
          · rintro f_109 w_116 c_113 hB105 hs106 ⟨-⟩ o ho; obtain rfl : _ = o := Option.some.inj ho
            have o60 := o41.keep (hs95.t hs106) (by decide)
            exact OS.idxArr rfl Tryz.runUnderlying149 Tryz.sizeOf132 ((hB105 11 (by kernel_rfl)).trans h50) o60 rfl (by decide) (by decide) (fun _ h => ⟨_, St.refl, h⟩)
          · rintro f_110 w_117 c_114 hB106 hs107 ⟨g96, -⟩ o ho; obtain rfl : _ = o := Option.some.inj ho
            replace g96 : AdrP p_6 ((6 : Int)).toNat 1 (f_110 133) := g96
            have o61 := o41.keep (hs95.t hs107) (by decide)
            exact OS.ld1 (u := vU32 (h38.getD 6 0)) rfl Tryz.isAgg132 rfl (o61.ld g96 (getD_some (by rw [hl8]; decide))) ⟨_, St.refl, rfl⟩
          · rintro f_111 w_118 c_115 hB107 hs108 ⟨g97, g98, -⟩ o ho; obtain rfl : _ = o := Option.some.inj ho
            replace g97 : (f_111 132) = vU32 (h38.getD 5 0) := g97
            replace g98 : (f_111 134) = vU32 (h38.getD 6 0) := g98
            exact OS.bin (a := vU32 (h38.getD 5 0)) (b := vU32 (h38.getD 6 0)) rfl g97 g98 b32_xor ⟨_, St.refl, rfl⟩
          · rintro f_112 w_119 c_116 hB108 hs109 ⟨g99, g100, -⟩ o ho; obtain rfl : _ = o := Option.some.inj ho
            replace g99 : (f_112 130) = vU32 (h38.getD 4 0) := g99
            replace g100 : (f_112 135) = vU32 ((h38.getD 5 0) ^^^ (h38.getD 6 0)) := g100
            exact OS.bin (a := vU32 (h38.getD 4 0)) (b := vU32 ((h38.getD 5 0) ^^^ (h38.getD 6 0))) rfl g99 g100 b32_and ⟨_, St.refl, rfl⟩
          · rintro f_113 w_120 c_117 hB109 hs110 ⟨g101, g102, -⟩ o ho; obtain rfl : _ = o := Option.some.inj ho
            replace g101 : (f_113 128) = vU32 (h38.getD 6 0) := g101
            replace g102 : (f_113 136) = vU32 ((h38.getD 4 0) &&& ((h38.getD 5 0) ^^^ (h38.getD 6 0))) := g102
            exact OS.bin (a := vU32 (h38.getD 6 0)) (b := vU32 ((h38.getD 4 0) &&& ((h38.getD 5 0) ^^^ (h38.getD 6 0)))) rfl g101 g102 b32_xor ⟨_, St.refl, rfl⟩
          · rintro f_114 w_121 c_118 hB110 hs111 ⟨g103, g104, -⟩ o ho; obtain rfl : _ = o := Option.some.inj ho
            replace g103 : (f_114 126) = vU32 ((h38.getD 7 0) + ((r_4 ^^^ r_5) ^^^ r_6)) := g103
            replace g104 : (f_114 137) = vU32 ((h38.getD 6 0) ^^^ ((h38.getD 4 0) &&& ((h38.getD 5 0) ^^^ (h38.getD 6 0)))) := g104
            exact OS.bin (a := vU32 ((h38.getD 7 0) + ((r_4 ^^^ r_5) ^^^ r_6))) (b := vU32 ((h38.getD 6 0) ^^^ ((h38.getD 4 0) &&& ((h38.getD 5 0) ^^^ (h38.getD 6 0))))) rfl g103 g104 b32_add ⟨_, St.refl, rfl⟩
          · rintro f_115 w_122 c_119 hB111 hs112 ⟨-⟩ o ho; obtain rfl : _ = o := Option.some.inj ho
            exact OS.move (v := p_) rfl ((hB111 1 (by kernel_rfl)).trans h46) ⟨_, St.refl, rfl⟩
          · rintro f_116 w_123 c_120 hB112 hs113 ⟨-⟩ o ho; obtain rfl : _ = o := Option.some.inj ho
            exact OS.move (v := vI x109) rfl ((hB112 12 (by kernel_rfl)).trans h52) ⟨_, St.refl, rfl⟩
          · rintro f_117 w_124 c_121 hB113 hs114 ⟨g105, -⟩ o ho; obtain rfl : _ = o := Option.some.inj ho
            replace g105 : (f_117 139) = p_ := g105
            have o62 := o.keep ((((((((s.t s1).t s2).t s6).t s7).t s8).t s9).t hs95).t hs114) (by decide)
            exact OS.nilCheckArr rfl g105 o62 ⟨_, St.refl, rfl⟩
          · rintro f_118 w_125 c_122 hB114 hs115 ⟨g106, g107, -⟩ o ho; obtain rfl : _ = o := Option.some.inj ho
            replace g106 : (f_118 140) = vI x109 := g106
            replace g107 : (f_118 141) = p_ := g107
            have o63 := o.keep ((((((((s.t s1).t s2).t s6).t s7).t s8).t s9).t hs95).t hs115) (by decide)
            exact OS.idxArr rfl Tryz.runUnderlying178 Tryz.sizeOf132 g107 o63 g106 ha14 (by have := hb17; rw [hl1] at this; exact this) (fun _ h => ⟨_, St.refl, h⟩)
          · rintro f_119 w_126 c_123 hB115 hs116 ⟨g108, -⟩ o ho; obtain rfl : _ = o := Option.some.inj ho
            replace g108 : AdrP p_ (x109).toNat 1 (f_119 142) := g108
            have o64 := o.keep ((((((((s.t s1).t s2).t s6).t s7).t s8).t s9).t hs95).t hs116) (by decide)
            exact OS.ld1 (u := vU32 e12) rfl Tryz.isAgg132 rfl (o64.ld g108 hc12) ⟨_, St.refl, rfl⟩
          · rintro f_120 w_127 c_124 hB116 hs117 ⟨g109, g110, -⟩ o ho; obtain rfl : _ = o := Option.some.inj ho
            replace g109 : (f_120 138) = vU32 (((h38.getD 7 0) + ((r_4 ^^^ r_5) ^^^ r_6)) + ((h38.getD 6 0) ^^^ ((h38.getD 4 0) &&& ((h38.getD 5 0) ^^^ (h38.getD 6 0))))) := g109
            replace g110 : (f_120 143) = vU32 e12 := g110
            exact OS.bin (a := vU32 (((h38.getD 7 0) + ((r_4 ^^^ r_5) ^^^ r_6)) + ((h38.getD 6 0) ^^^ ((h38.getD 4 0) &&& ((h38.getD 5 0) ^^^ (h38.getD 6 0)))))) (b := vU32 e12) rfl g109 g110 b32_add ⟨_, St.refl, rfl⟩
          · rintro f_121 w_128 c_125 hB117 hs118 ⟨-⟩ o ho; obtain rfl : _ = o := Option.some.inj ho
            exact OS.move (v := vI x109) rfl ((hB117 12 (by kernel_rfl)).trans h52) ⟨_, St.refl, rfl⟩
          · rintro f_122 w_129 c_126 hB118 hs119 ⟨g111, -⟩ o ho; obtain rfl : _ = o := Option.some.inj ho
            replace g111 : (f_122 145) = vI x109 := g111
            have o65 := o6.keep ((((s7.t s8).t s9).t hs95).t hs119) (by decide)
            exact OS.idxArr rfl Tryz.runUnderlying178 Tryz.sizeOf132 ((hB118 7 (by kernel_rfl)).trans h49) o65 g111 ha15 (by have := hb18; rw [hl3] at this; exact this) (fun _ h => ⟨_, St.refl, h⟩)
          · rintro f_123 w_130 c_127 hB119 hs120 ⟨g112, -⟩ o ho; obtain rfl : _ = o := Option.some.inj ho
            replace g112 : AdrP p_3 (x109).toNat 1 (f_123 146) := g112
            have o66 := o6.keep ((((s7.t s8).t s9).t hs95).t hs120) (by decide)
            exact OS.ld1 (u := vU32 e13) rfl Tryz.isAgg132 rfl (o66.ld g112 hc13) ⟨_, St.refl, rfl⟩
          · rintro f_124 w_131 c_128 hB120 hs121 ⟨g113, g114, -⟩
            have h53 := (hB120 1 (by kernel_rfl)).trans h46
            have h54 := (hB120 3 (by kernel_rfl)).trans h47
            have h55 := (hB120 6 (by kernel_rfl)).trans h48
            have h56 := (hB120 7 (by kernel_rfl)).trans h49
            have h57 := (hB120 11 (by kernel_rfl)).trans h50
            have h58 := (hB120 109 (by kernel_rfl)).trans h51
            replace g113 : (f_124 144) = vU32 ((((h38.getD 7 0) + ((r_4 ^^^ r_5) ^^^ r_6)) + ((h38.getD 6 0) ^^^ ((h38.getD 4 0) &&& ((h38.getD 5 0) ^^^ (h38.getD 6 0))))) + e12) := g113
            replace g114 : (f_124 147) = vU32 e13 := g114
            refine WR.k rfl rfl rfl (OS.bin (a := vU32 ((((h38.getD 7 0) + ((r_4 ^^^ r_5) ^^^ r_6)) + ((h38.getD 6 0) ^^^ ((h38.getD 4 0) &&& ((h38.getD 5 0) ^^^ (h38.getD 6 0))))) + e12)) (b := vU32 e13) rfl g113 g114 b32_add ?_)
            refine WR.k rfl rfl rfl (OS.assign (v := vU32 (((((h38.getD 7 0) + ((r_4 ^^^ r_5) ^^^ r_6)) + ((h38.getD 6 0) ^^^ ((h38.getD 4 0) &&& ((h38.getD 5 0) ^^^ (h38.getD 6 0))))) + e12) + e13)) rfl rfl ?_)
            refine WR.nil ?_
            have o67 := o41.keep (hs95.t hs121) (by decide)
            obtain ⟨r_7, hr_7, hl10⟩ := bind_some hl10
            obtain ⟨r_8, hr_8, hl10⟩ := bind_some hl10
            obtain ⟨r_9, hr_9, hl10⟩ := bind_some hl10
            refine WC.seq (WC.draw (c := c_128) ⟨10, [[1], [1], [1], [1], [1], [1], [1], [1], [1], [1]], [[], [], [], [], [], [], [], [], [], []], [], [[], [0], [1], [], [3], [4], [2, 5], [], [7], [8]], [6, 9]⟩ [fun v w c => AdrP p_6 ((0 : Int)).toNat 1 v, fun v w c => v = vU32 (h38.getD 0 0), fun v w c => v = vU32 r_7, fun v w c => AdrP p_6 ((0 : Int)).toNat 1 v, fun v w c => v = vU32 (h38.getD 0 0), fun v w c => v = vU32 r_8, fun v w c => v = vU32 (r_7 ^^^ r_8), fun v w c => AdrP p_6 ((0 : Int)).toNat 1 v, fun v w c => v = vU32 (h38.getD 0 0), fun v w c => v = vU32 r_9] hmix (by kernel_rfl) (by kernel_rfl) ⟨?_, ?_, ?_, ?_, ?_, ?_, ?_, ?_, ?_, ?_, trivial⟩ ⟨fun _ _ _ _ _ _ h _ _ => h, fun _ _ _ _ _ _ h _ _ => h, fun _ _ _ _ _ _ h _ _ => h, fun _ _ _ _ _ _ h _ _ => h, fun _ _ _ _ _ _ h _ _ => h, fun _ _ _ _ _ _ h _ _ => h, fun _ _ _ _ _ _ h _ _ => h, fun _ _ _ _ _ _ h _ _ => h, fun _ _ _ _ _ _ h _ _ => h, fun _ _ _ _ _ _ h _ _ => h, trivial⟩ ?_)
            · rintro f_125 w_132 c_129 hB121 hs122 ⟨-⟩ o ho; obtain rfl : _ = o := Option.some.inj ho
              have o68 := o41.keep ((hs95.t hs121).t hs122) (by decide)
              exact OS.idxArr rfl Tryz.runUnderlying149 Tryz.sizeOf132 ((hB121 11 (by kernel_rfl)).trans h57) o68 rfl (by decide) (by decide) (fun _ h => ⟨_, St.refl, h⟩)
            · rintro f_126 w_133 c_130 hB122 hs123 ⟨g115, -⟩ o ho; obtain rfl : _ = o := Option.some.inj ho
              replace g115 : AdrP p_6 ((0 : Int)).toNat 1 (f_126 149) := g115
              have o69 := o41.keep ((hs95.t hs121).t hs123) (by decide)
              exact OS.ld1 (u := vU32 (h38.getD 0 0)) rfl Tryz.isAgg132 rfl (o69.ld g115 (getD_some (by rw [hl8]; decide))) ⟨_, St.refl, rfl⟩
            · rintro f_127 w_134 c_131 hB123 hs124 ⟨g116, -⟩ o ho; obtain rfl : _ = o := Option.some.inj ho
              replace g116 : (f_127 150) = vU32 (h38.getD 0 0) := g116
              refine OS.callF (vs := [vU32 (h38.getD 0 0), vI (-2 : Int)]) rfl ⟨g116, rfl, trivial⟩ Tryz.call138 ((W138 K w_134 hr_7).mono ?_)
              rintro _ w ⟨d, rfl, s⟩
              exact ⟨_, rfl, _, s.merge id, rfl⟩
            · rintro f_128 w_135 c_132 hB124 hs125 ⟨-⟩ o ho; obtain rfl : _ = o := Option.some.inj ho
              have o70 := o41.keep ((hs95.t hs121).t hs125) (by decide)
              exact OS.idxArr rfl Tryz.runUnderlying149 Tryz.sizeOf132 ((hB124 11 (by kernel_rfl)).trans h57) o70 rfl (by decide) (by decide) (fun _ h => ⟨_, St.refl, h⟩)
            · rintro f_129 w_136 c_133 hB125 hs126 ⟨g117, -⟩ o ho; obtain rfl : _ = o := Option.some.inj ho
              replace g117 : AdrP p_6 ((0 : Int)).toNat 1 (f_129 152) := g117
              have o71 := o41.keep ((hs95.t hs121).t hs126) (by decide)
              exact OS.ld1 (u := vU32 (h38.getD 0 0)) rfl Tryz.isAgg132 rfl (o71.ld g117 (getD_some (by rw [hl8]; decide))) ⟨_, St.refl, rfl⟩
            · rintro f_130 w_137 c_134 hB126 hs127 ⟨g118, -⟩ o ho; obtain rfl : _ = o := Option.some.inj ho
              replace g118 : (f_130 153) = vU32 (h38.getD 0 0) := g118
              refine OS.callF (vs := [vU32 (h38.getD 0 0), vI (-13 : Int)]) rfl ⟨g118, rfl, trivial⟩ Tryz.call138 ((W138 K w_137 hr_8).mono ?_)
              rintro _ w ⟨d, rfl, s⟩
              exact ⟨_, rfl, _, s.merge id, rfl⟩
            · rintro f_131 w_138 c_135 hB127 hs128 ⟨g119, g120, -⟩ o ho; obtain rfl : _ = o := Option.some.inj ho
              replace g119 : (f_131 151) = vU32 r_7 := g119
              replace g120 : (f_131 154) = vU32 r_8 := g120
              exact OS.bin (a := vU32 r_7) (b := vU32 r_8) rfl g119 g120 b32_xor ⟨_, St.refl, rfl⟩
            · rintro f_132 w_139 c_136 hB128 hs129 ⟨-⟩ o ho; obtain rfl : _ = o := Option.some.inj ho
              have o72 := o41.keep ((hs95.t hs121).t hs129) (by decide)
              exact OS.idxArr rfl Tryz.runUnderlying149 Tryz.sizeOf132 ((hB128 11 (by kernel_rfl)).trans h57) o72 rfl (by decide) (by decide) (fun _ h => ⟨_, St.refl, h⟩)
            · rintro f_133 w_140 c_137 hB129 hs130 ⟨g121, -⟩ o ho; obtain rfl : _ = o := Option.some.inj ho
              replace g121 : AdrP p_6 ((0 : Int)).toNat 1 (f_133 156) := g121
              have o73 := o41.keep ((hs95.t hs121).t hs130) (by decide)
              exact OS.ld1 (u := vU32 (h38.getD 0 0)) rfl Tryz.isAgg132 rfl (o73.ld g121 (getD_some (by rw [hl8]; decide))) ⟨_, St.refl, rfl⟩
            · rintro f_134 w_141 c_138 hB130 hs131 ⟨g122, -⟩ o ho; obtain rfl : _ = o := Option.some.inj ho
              replace g122 : (f_134 157) = vU32 (h38.getD 0 0) := g122
              refine OS.callF (vs := [vU32 (h38.getD 0 0), vI (-22 : Int)]) rfl ⟨g122, rfl, trivial⟩ Tryz.call138 ((W138 K w_141 hr_9).mono ?_)
              rintro _ w ⟨d, rfl, s⟩
              exact ⟨_, rfl, _, s.merge id, rfl⟩
            · rintro f_135 w_142 c_139 hB131 hs132 ⟨g123, g124, -⟩
              have h59 := (hB131 1 (by kernel_rfl)).trans h53
              have h60 := (hB131 3 (by kernel_rfl)).trans h54
              have h61 := (hB131 6 (by kernel_rfl)).trans h55
              have h62 := (hB131 7 (by kernel_rfl)).trans h56
              have h63 := (hB131 11 (by kernel_rfl)).trans h57
              have h64 := (hB131 109 (by kernel_rfl)).trans h58
              have h65 := (hB131 14 (by kernel_rfl)).trans (show _ = vU32 (((((h38.getD 7 0) + ((r_4 ^^^ r_5) ^^^ r_6)) + ((h38.getD 6 0) ^^^ ((h38.getD 4 0) &&& ((h38.getD 5 0) ^^^ (h38.getD 6 0))))) + e12) + e13) from rfl)
              replace g123 : (f_135 155) = vU32 (r_7 ^^^ r_8) := g123
              replace g124 : (f_135 158) = vU32 r_9 := g124
              refine WR.k rfl rfl rfl (OS.bin (a := vU32 (r_7 ^^^ r_8)) (b := vU32 r_9) rfl g123 g124 b32_xor ?_)
              refine WR.k rfl rfl rfl (OS.assign (v := vU32 ((r_7 ^^^ r_8) ^^^ r_9)) rfl rfl ?_)
              refine WR.nil ?_
              refine WC.seq (WC.region ?_)
              refine WR.k rfl rfl rfl (OS.move (v := vU32 ((r_7 ^^^ r_8) ^^^ r_9)) rfl rfl ?_)
              have o74 := o41.keep ((hs95.t hs121).t hs132) (by decide)
              refine WR.k rfl rfl rfl (OS.idxArr rfl Tryz.runUnderlying149 Tryz.sizeOf132 h63 o74 rfl (by decide) (by decide) ?_); intro p_7 a28
              refine WR.k rfl rfl rfl (OS.ld1 (u := vU32 (h38.getD 0 0)) rfl Tryz.isAgg132 rfl (o74.ld a28 (getD_some (by rw [hl8]; decide))) ?_)
              refine WR.k rfl rfl rfl (OS.idxArr rfl Tryz.runUnderlying149 Tryz.sizeOf132 h63 o74 rfl (by decide) (by decide) ?_); intro p_8 a29
              refine WR.k rfl rfl rfl (OS.ld1 (u := vU32 (h38.getD 1 0)) rfl Tryz.isAgg132 rfl (o74.ld a29 (getD_some (by rw [hl8]; decide))) ?_)
              refine WR.k rfl rfl rfl (OS.bin (a := vU32 (h38.getD 0 0)) (b := vU32 (h38.getD 1 0)) rfl rfl rfl b32_and ?_)
              refine WR.k rfl rfl rfl (OS.idxArr rfl Tryz.runUnderlying149 Tryz.sizeOf132 h63 o74 rfl (by decide) (by decide) ?_); intro p_9 a30
              refine WR.k rfl rfl rfl (OS.ld1 (u := vU32 (h38.getD 2 0)) rfl Tryz.isAgg132 rfl (o74.ld a30 (getD_some (by rw [hl8]; decide))) ?_)
              refine WR.k rfl rfl rfl (OS.idxArr rfl Tryz.runUnderlying149 Tryz.sizeOf132 h63 o74 rfl (by decide) (by decide) ?_); intro p_10 a31
              refine WR.k rfl rfl rfl (OS.ld1 (u := vU32 (h38.getD 0 0)) rfl Tryz.isAgg132 rfl (o74.ld a31 (getD_some (by rw [hl8]; decide))) ?_)
              refine WR.k rfl rfl rfl (OS.idxArr rfl Tryz.runUnderlying149 Tryz.sizeOf132 h63 o74 rfl (by decide) (by decide) ?_); intro p_11 a32
              refine WR.k rfl rfl rfl (OS.ld1 (u := vU32 (h38.getD 1 0)) rfl Tryz.isAgg132 rfl (o74.ld a32 (getD_some (by rw [hl8]; decide))) ?_)
              refine WR.k rfl rfl rfl (OS.bin (a := vU32 (h38.getD 0 0)) (b := vU32 (h38.getD 1 0)) rfl rfl rfl b32_or ?_)
              refine WR.k rfl rfl rfl (OS.bin (a := vU32 (h38.getD 2 0)) (b := vU32 ((h38.getD 0 0) ||| (h38.getD 1 0))) rfl rfl rfl b32_and ?_)
              refine WR.k rfl rfl rfl (OS.bin (a := vU32 ((h38.getD 0 0) &&& (h38.getD 1 0))) (b := vU32 ((h38.getD 2 0) &&& ((h38.getD 0 0) ||| (h38.getD 1 0)))) rfl rfl rfl b32_or ?_)
              refine WR.k rfl rfl rfl (OS.bin (a := vU32 ((r_7 ^^^ r_8) ^^^ r_9)) (b := vU32 (((h38.getD 0 0) &&& (h38.getD 1 0)) ||| ((h38.getD 2 0) &&& ((h38.getD 0 0) ||| (h38.getD 1 0))))) rfl rfl rfl b32_add ?_)
              refine WR.k rfl rfl rfl (OS.assign (v := vU32 (((r_7 ^^^ r_8) ^^^ r_9) + (((h38.getD 0 0) &&& (h38.getD 1 0)) ||| ((h38.getD 2 0) &&& ((h38.getD 0 0) ||| (h38.getD 1 0)))))) rfl rfl ?_)
              refine WR.nil ?_
              refine WC.seq (WC.draw (c := c_139) ⟨2, [[18], [18]], [[], []], [], [[], []], [0, 1]⟩ [fun v w c => Vw E132 18 w c v ((h38.take 8).drop 1) ∧ SlP p_6 1 7 1 v ∧ Full v, fun v w c => Vw E132 18 w c v ((h38.take 7).drop 0) ∧ SlP p_6 0 7 1 v] hmix (by kernel_rfl) (by kernel_rfl) ⟨?_, ?_, trivial⟩ ⟨fun _ _ _ _ _ _ ⟨y, z0, z1⟩ s hk => ⟨y.keep s (hk _ (by simp)), z0, z1⟩, fun _ _ _ _ _ _ ⟨y, z0⟩ s hk => ⟨y.keep s (hk _ (by simp)), z0⟩, trivial⟩ ?_)
              · rintro f_136 w_143 c_140 hB132 hs133 ⟨-⟩ o ho; obtain rfl : _ = o := Option.some.inj ho
                have o75 := o74.keep hs133 (by decide)
                refine OS.sliceAF (E := E132) (l := 1) (h := 8) rfl Tryz.underlying149 Tryz.sizeOf132 ((hB132 11 (by kernel_rfl)).trans h63) o75 hl8 (Bd.some (j := 1) rfl (by decide)) Bd.none (by decide) (by decide) ?_
                intro v y z fu
                exact ⟨_, St.refl, y, z (by decide), fu rfl⟩
              · rintro f_137 w_144 c_141 hB133 hs134 ⟨-⟩ o ho; obtain rfl : _ = o := Option.some.inj ho
                have o76 := o74.keep hs134 (by decide)
                refine OS.sliceAF (E := E132) (l := 0) (h := 7) rfl Tryz.underlying149 Tryz.sizeOf132 ((hB133 11 (by kernel_rfl)).trans h63) o76 hl8 Bd.none (Bd.some (j := 7) rfl (by decide)) (by decide) (by decide) ?_
                intro v y z fu
                exact ⟨_, St.refl, y, z (by decide)⟩
              · rintro f_138 w_145 c_142 hB134 hs135 ⟨g125, g126, -⟩
                have h66 := (hB134 1 (by kernel_rfl)).trans h59
                have h67 := (hB134 3 (by kernel_rfl)).trans h60
                have h68 := (hB134 6 (by kernel_rfl)).trans h61
                have h69 := (hB134 7 (by kernel_rfl)).trans h62
                have h70 := (hB134 11 (by kernel_rfl)).trans h63
                have h71 := (hB134 109 (by kernel_rfl)).trans h64
                have h72 := (hB134 14 (by kernel_rfl)).trans h65
                have h73 := (hB134 16 (by kernel_rfl)).trans (show _ = vU32 (((r_7 ^^^ r_8) ^^^ r_9) + (((h38.getD 0 0) &&& (h38.getD 1 0)) ||| ((h38.getD 2 0) &&& ((h38.getD 0 0) ||| (h38.getD 1 0))))) from rfl)
                replace g125 : Vw E132 18 w_145 c_142 (f_138 176) ((h38.take 8).drop 1) ∧ SlP p_6 1 7 1 (f_138 176) ∧ Full (f_138 176) := g125
                replace g126 : Vw E132 18 w_145 c_142 (f_138 177) ((h38.take 7).drop 0) ∧ SlP p_6 0 7 1 (f_138 177) := g126
                have o77 := o74.keep hs135 (by decide)
                obtain ⟨h74, hh74, hl10⟩ := bind_some hl10
                replace hh74 := (Option.some.inj hh74).symm
                refine WR.k rfl rfl rfl (OS.copyArr (E := E132) rfl Tryz.underlying163 Tryz.sizeOf132 rfl rfl rfl o77 g125.2.1 g126.1 (by rw [hl8]; decide) ?_); intro w_146 o78 s10
                replace o78 : Arr E132 18 w_146 c_142 p_6 h74 := by rw [hh74]; exact o78
                have hl11 : h74.length = 8 := (by rw [hh74]; have h1 := hl8; simp only [List.length_append, List.length_take, List.length_drop]; omega)
                refine WR.nil ?_
                refine WC.seq (WC.region ?_)
                refine WR.k rfl rfl rfl (OS.idxArr rfl Tryz.runUnderlying149 Tryz.sizeOf132 h70 o78 rfl (by decide) (by decide) ?_); intro p_12 a33
                refine WR.k rfl rfl rfl (OS.ld1 (u := vU32 (h74.getD 4 0)) rfl Tryz.isAgg132 rfl (o78.ld a33 (getD_some (by rw [hl11]; decide))) ?_)
                refine WR.k rfl rfl rfl (OS.move (v := vU32 (((((h38.getD 7 0) + ((r_4 ^^^ r_5) ^^^ r_6)) + ((h38.getD 6 0) ^^^ ((h38.getD 4 0) &&& ((h38.getD 5 0) ^^^ (h38.getD 6 0))))) + e12) + e13)) rfl h72 ?_)
                refine WR.k rfl rfl rfl (OS.bin (a := vU32 (h74.getD 4 0)) (b := vU32 (((((h38.getD 7 0) + ((r_4 ^^^ r_5) ^^^ r_6)) + ((h38.getD 6 0) ^^^ ((h38.getD 4 0) &&& ((h38.getD 5 0) ^^^ (h38.getD 6 0))))) + e12) + e13)) rfl rfl rfl b32_add ?_)
                refine WR.k rfl rfl rfl (OS.idxArr rfl Tryz.runUnderlying149 Tryz.sizeOf132 h70 o78 rfl (by decide) (by decide) ?_); intro p_13 a34
                obtain ⟨h75, hh75, hl10⟩ := bind_some hl10
                replace hh75 := (Option.some.inj hh75).symm
                refine WR.k0 rfl rfl (OS.stArr (q := (h74.getD 4 0) + (((((h38.getD 7 0) + ((r_4 ^^^ r_5) ^^^ r_6)) + ((h38.getD 6 0) ^^^ ((h38.getD 4 0) &&& ((h38.getD 5 0) ^^^ (h38.getD 6 0))))) + e12) + e13)) (u := vU32 ((h74.getD 4 0) + (((((h38.getD 7 0) + ((r_4 ^^^ r_5) ^^^ r_6)) + ((h38.getD 6 0) ^^^ ((h38.getD 4 0) &&& ((h38.getD 5 0) ^^^ (h38.getD 6 0))))) + e12) + e13))) rfl Tryz.sizeOf132 rfl rfl o78 rfl a34 (by rw [hl11]; decide) rfl ?_); intro w_147 o79 s11
                replace o79 : Arr E132 18 w_147 c_142 p_6 h75 := by rw [hh75]; exact o79
                have hl12 : h75.length = 8 := (by rw [hh75, List.length_set]; exact hl11)
                refine WR.nil ?_
                refine WC.region ?_
                refine WR.k rfl rfl rfl (OS.move (v := vU32 (((((h38.getD 7 0) + ((r_4 ^^^ r_5) ^^^ r_6)) + ((h38.getD 6 0) ^^^ ((h38.getD 4 0) &&& ((h38.getD 5 0) ^^^ (h38.getD 6 0))))) + e12) + e13)) rfl h72 ?_)
                refine WR.k rfl rfl rfl (OS.move (v := vU32 (((r_7 ^^^ r_8) ^^^ r_9) + (((h38.getD 0 0) &&& (h38.getD 1 0)) ||| ((h38.getD 2 0) &&& ((h38.getD 0 0) ||| (h38.getD 1 0)))))) rfl h73 ?_)
                refine WR.k rfl rfl rfl (OS.bin (a := vU32 (((((h38.getD 7 0) + ((r_4 ^^^ r_5) ^^^ r_6)) + ((h38.getD 6 0) ^^^ ((h38.getD 4 0) &&& ((h38.getD 5 0) ^^^ (h38.getD 6 0))))) + e12) + e13)) (b := vU32 (((r_7 ^^^ r_8) ^^^ r_9) + (((h38.getD 0 0) &&& (h38.getD 1 0)) ||| ((h38.getD 2 0) &&& ((h38.getD 0 0) ||| (h38.getD 1 0)))))) rfl rfl rfl b32_add ?_)
                refine WR.k rfl rfl rfl (OS.idxArr rfl Tryz.runUnderlying149 Tryz.sizeOf132 h70 o79 rfl (by decide) (by decide) ?_); intro p_14 a35
                obtain ⟨h76, hh76, hl10⟩ := bind_some hl10
                replace hh76 := (Option.some.inj hh76).symm
                refine WR.k0 rfl rfl (OS.stArr (q := (((((h38.getD 7 0) + ((r_4 ^^^ r_5) ^^^ r_6)) + ((h38.getD 6 0) ^^^ ((h38.getD 4 0) &&& ((h38.getD 5 0) ^^^ (h38.getD 6 0))))) + e12) + e13) + (((r_7 ^^^ r_8) ^^^ r_9) + (((h38.getD 0 0) &&& (h38.getD 1 0)) ||| ((h38.getD 2 0) &&& ((h38.getD 0 0) ||| (h38.getD 1 0)))))) (u := vU32 ((((((h38.getD 7 0) + ((r_4 ^^^ r_5) ^^^ r_6)) + ((h38.getD 6 0) ^^^ ((h38.getD 4 0) &&& ((h38.getD 5 0) ^^^ (h38.getD 6 0))))) + e12) + e13) + (((r_7 ^^^ r_8) ^^^ r_9) + (((h38.getD 0 0) &&& (h38.getD 1 0)) ||| ((h38.getD 2 0) &&& ((h38.getD 0 0) ||| (h38.getD 1 0))))))) rfl Tryz.sizeOf132 rfl rfl o79 rfl a35 (by rw [hl12]; decide) rfl ?_); intro w_148 o80 s12
                replace o80 : Arr E132 18 w_148 c_142 p_6 h76 := by rw [hh76]; exact o80
                have hl13 : h76.length = 8 := (by rw [hh76, List.length_set]; exact hl12)
                refine WR.nil ?_
                refine WC.region ?_
                refine WR.k rfl rfl rfl (OS.bin (a := vI x109) (b := vI (1 : Int)) rfl h71 rfl bI_add ?_)
                refine WR.k rfl rfl rfl (OS.move (v := vI (W (x109 + (1 : Int)))) rfl rfl ?_)
                refine WR.nil ?_
                exact ⟨k, by omega, _, _, _, hl10, h66, h67, h68, h69, h70, o80, hl13, rfl, (((((((s9.t hs95).t hs121).t hs132).t hs135).t s10).t s11).t s12).mono (by decide)⟩
      · rw [if_neg (nt hb16)] at hl10
        refine WC.exit ?_
        cases hl10
        exact ⟨_, h41, h42, h44, o41, hl8, s9.mono (by decide)⟩
    · rintro f_86 w_93 ⟨c_90, h77, h78, h79, o42, hl9, s13⟩
      refine WC.seq ?_
      refine WC.seq (WC.region ?_)
      refine WR.k rfl rfl rfl (OS.move (v := vI (0 : Int)) rfl rfl ?_)
      refine WR.nil ?_
      obtain ⟨q2, hl16, hp⟩ := bind_some hp
      obtain ⟨h81, hx⟩ : ∃ z, z = q2 := ⟨_, rfl⟩; subst hx
      refine WC.blockJ2 (fun f_139 w_149 => ∃ (c_143 : Col), f_139 3 = p_1 ∧ Arr E132 12 w_149 c_143 p_1 h81 ∧ h81.length = 8 ∧ f_139 6 = p_2 ∧ St [12] w_93 c_90 w_149 c_143) ?_ ?_
      · have o83 := o38.keep ((s7.t s8).t s13) (by decide)
        refine WC.loop (fun n => fun f_140 w_150 => ∃ (h80 : List UInt32) (x189 : Int) (c_144 : Col), hash_words_mix.l3 n h39 h80 x189 = some h81 ∧ f_140 3 = p_1 ∧ Arr E132 12 w_150 c_144 p_1 h80 ∧ h80.length = 8 ∧ f_140 6 = p_2 ∧ f_140 11 = p_6 ∧ f_140 189 = vI x189 ∧ St [12] w_93 c_90 w_150 c_144) K ⟨_, _, _, hl16, h77, o83, hl, h78, h79, rfl, St.refl.mono (by decide)⟩ ?_
        rintro n f_140 w_150 ⟨h80, x189, c_144, hl16, h82, o81, hl14, h83, h84, h85, s14⟩
        cases n with
        | zero => exact absurd hl16 (by simp [hash_words_mix.l3])
        | succ k =>
        rw [hash_words_mix.l3] at hl16
        refine WC.seq (WC.region ?_)
        refine WR.k rfl rfl rfl (OS.bin (a := vI x189) (b := vI (8 : Int)) rfl h85 rfl bI_lss ?_)
        refine WR.nil ?_
        refine WC.seq ?_
        refine WC.cond (decide (x189 < (8 : Int))) rfl (fun hb19 => ?_) (fun hb19 => ?_)
        · rw [if_pos hb19] at hl16
          refine WC.skip ?_
          refine WC.seq ?_
          refine WC.block ?_
          refine WC.seq (WC.region ?_)
          refine WR.k rfl rfl rfl (OS.move (v := vI x189) rfl h85 ?_)
          refine WR.k rfl rfl rfl (OS.assign (v := vI x189) rfl rfl ?_)
          refine WR.nil ?_
          obtain ⟨e14, he14, hl16⟩ := bind_some hl16
          obtain ⟨ha16, hb20, hc14⟩ := gt_some he14
          have o84 := o42.keep s14 (by decide)
          obtain ⟨e15, he15, hl16⟩ := bind_some hl16
          obtain ⟨ha17, hb21, hc15⟩ := gt_some he15
          refine WC.draw (c := c_144) ⟨6, [[1], [1], [1], [1], [1], [1]], [[], [], [], [], [], []], [], [[], [0], [1], [], [3], [4]], [0, 2, 5]⟩ [fun v w c => v = vI x189, fun v w c => AdrP p_1 (x189).toNat 1 v, fun v w c => v = vU32 e14, fun v w c => v = vI x189, fun v w c => AdrP p_6 (x189).toNat 1 v, fun v w c => v = vU32 e15] hmix (by kernel_rfl) (by kernel_rfl) ⟨?_, ?_, ?_, ?_, ?_, ?_, trivial⟩ ⟨fun _ _ _ _ _ _ h _ _ => h, fun _ _ _ _ _ _ h _ _ => h, fun _ _ _ _ _ _ h _ _ => h, fun _ _ _ _ _ _ h _ _ => h, fun _ _ _ _ _ _ h _ _ => h, fun _ _ _ _ _ _ h _ _ => h, trivial⟩ ?_
          · rintro f_141 w_151 c_145 hB135 hs136 ⟨-⟩ o ho; obtain rfl : _ = o := Option.some.inj ho
            exact OS.move (v := vI x189) rfl ((hB135 17 (by kernel_rfl)).trans rfl) ⟨_, St.refl, rfl⟩
          · rintro f_142 w_152 c_146 hB136 hs137 ⟨g127, -⟩ o ho; obtain rfl : _ = o := Option.some.inj ho
            replace g127 : (f_142 192) = vI x189 := g127
            have o85 := o81.keep hs137 (by decide)
            exact OS.idxArr rfl Tryz.runUnderlying149 Tryz.sizeOf132 ((hB136 3 (by kernel_rfl)).trans h82) o85 g127 ha16 (by have := hb20; rw [hl14] at this; exact this) (fun _ h => ⟨_, St.refl, h⟩)
          · rintro f_143 w_153 c_147 hB137 hs138 ⟨g128, -⟩ o ho; obtain rfl : _ = o := Option.some.inj ho
            replace g128 : AdrP p_1 (x189).toNat 1 (f_143 193) := g128
            have o86 := o81.keep hs138 (by decide)
            exact OS.ld1 (u := vU32 e14) rfl Tryz.isAgg132 rfl (o86.ld g128 hc14) ⟨_, St.refl, rfl⟩
          · rintro f_144 w_154 c_148 hB138 hs139 ⟨-⟩ o ho; obtain rfl : _ = o := Option.some.inj ho
            exact OS.move (v := vI x189) rfl ((hB138 17 (by kernel_rfl)).trans rfl) ⟨_, St.refl, rfl⟩
          · rintro f_145 w_155 c_149 hB139 hs140 ⟨g129, -⟩ o ho; obtain rfl : _ = o := Option.some.inj ho
            replace g129 : (f_145 195) = vI x189 := g129
            have o87 := o42.keep (s14.t hs140) (by decide)
            exact OS.idxArr rfl Tryz.runUnderlying149 Tryz.sizeOf132 ((hB139 11 (by kernel_rfl)).trans h84) o87 g129 ha17 (by have := hb21; rw [hl9] at this; exact this) (fun _ h => ⟨_, St.refl, h⟩)
          · rintro f_146 w_156 c_150 hB140 hs141 ⟨g130, -⟩ o ho; obtain rfl : _ = o := Option.some.inj ho
            replace g130 : AdrP p_6 (x189).toNat 1 (f_146 196) := g130
            have o88 := o42.keep (s14.t hs141) (by decide)
            exact OS.ld1 (u := vU32 e15) rfl Tryz.isAgg132 rfl (o88.ld g130 hc15) ⟨_, St.refl, rfl⟩
          · rintro f_147 w_157 c_151 hB141 hs142 ⟨g131, g132, g133, -⟩
            have h86 := (hB141 3 (by kernel_rfl)).trans h82
            have h87 := (hB141 6 (by kernel_rfl)).trans h83
            have h88 := (hB141 11 (by kernel_rfl)).trans h84
            have h89 := (hB141 189 (by kernel_rfl)).trans h85
            replace g131 : (f_147 192) = vI x189 := g131
            replace g132 : (f_147 194) = vU32 e14 := g132
            replace g133 : (f_147 197) = vU32 e15 := g133
            refine WR.k rfl rfl rfl (OS.bin (a := vU32 e14) (b := vU32 e15) rfl g132 g133 b32_add ?_)
            have o89 := o81.keep hs142 (by decide)
            obtain ⟨u2, hu2, hl16⟩ := bind_some hl16
            obtain ⟨ha18, hb22⟩ := req_some hu2
            refine WR.k rfl rfl rfl (OS.idxArr rfl Tryz.runUnderlying149 Tryz.sizeOf132 h86 o89 g131 ha18 (by have := hb22; rw [hl14] at this; exact this) ?_); intro p_15 a38
            obtain ⟨h90, hh90, hl16⟩ := bind_some hl16
            replace hh90 := (Option.some.inj hh90).symm
            refine WR.k0 rfl rfl (OS.stArr (q := e14 + e15) (u := vU32 (e14 + e15)) rfl Tryz.sizeOf132 rfl rfl o89 rfl a38 (by have h1 := (by have := hb22; rw [hl14] at this; exact this); rw [hl14]; omega) rfl ?_); intro w_158 o90 s15
            replace o90 : Arr E132 12 w_158 c_151 p_1 h90 := by rw [hh90]; exact o90
            have hl17 : h90.length = 8 := (by rw [hh90, List.length_set]; exact hl14)
            refine WR.nil ?_
            refine WC.region ?_
            refine WR.k rfl rfl rfl (OS.bin (a := vI x189) (b := vI (1 : Int)) rfl h89 rfl bI_add ?_)
            refine WR.k rfl rfl rfl (OS.move (v := vI (W (x189 + (1 : Int)))) rfl rfl ?_)
            refine WR.nil ?_
            exact ⟨k, by omega, _, _, _, hl16, h86, o90, hl17, h87, h88, rfl, ((s14.t hs142).t s15).mono (by decide)⟩
        · rw [if_neg (nt hb19)] at hl16
          refine WC.exit ?_
          cases hl16
          exact ⟨_, h82, o81, hl14, h83, s14.mono (by decide)⟩
      · rintro f_139 w_149 ⟨c_143, h91, o82, hl15, h92, s16⟩
        refine WC.seq (WC.region ?_)
        refine WR.k rfl rfl rfl (OS.ldN rfl Tryz.isAgg149 Tryz.sizeOf149 h91 o82.ldAll (by rw [fl_length, hl15]; rfl) ?_)
        have o91 := o3.keep (((((s2.t s6).t s7).t s8).t s13).t s16) (by decide)
        refine WR.k0 rfl rfl (OS.stArrAll rfl Tryz.sizeOf149 h92 rfl o91 (by rw [fl_length, hl15]; rfl) (Eq.trans (List.length_replicate (n := 8) (a := (0 : UInt32))) (Eq.symm hl15)) ?_); intro w_159 o92 s17
        have hl18 : h81.length = 8 := hl15
        refine WR.nil ?_
        refine WC.ret ?_
        repeat first | refine thenQ_ret ?_ | refine blkQ_ret ?_
        cases hp
        exact fnQ.l1 (fn := Tryz.f114) rfl (.inr ⟨_, _, _, _, rfl, ⟨_, h92, Tryz.isAgg149, Tryz.sizeOf149, o92.ldAll, (by rw [fl_length, hl18]; rfl)⟩, rfl⟩) ⟨_, rfl, ((((((((s.t s1).t s2).t s6).t s7).t s8).t s13).t s16).t s17).entry (by decide), hl18⟩

-- bytes.Clone
theorem W38 (K : Nat) (w0 : World) {b : List UInt8} {r : List UInt8} (hp : bytes_Clone K b = some r) {v : Value} (o : Vw E5 0 w0 c0 v b) :
    Calls Tryz.prog 38 [v].toArray w0 fun e w1 => ∃ (v0 : Value) (d : Col), e = .returned (v0) ∧ St [] w0 c0 w1 d ∧ Ow E5 2 w1 d v0 r := by
  refine calls_intro Tryz.func38 rfl Tryz.ntmps38 rfl ?_
  unfold bytes_Clone at hp
  obtain ⟨ha, hr⟩ := app_some hp
  refine WC.seq (WC.region ?_)
  refine WR.k rfl rfl rfl (OS.assign (v := .slice none 0 0) rfl rfl ?_)
  refine WR.nil ?_
  refine WC.seq ?_
  refine WC.seq (WC.region ?_)
  refine WR.k rfl rfl rfl (OS.move (v := v) rfl rfl ?_)
  refine WR.k rfl rfl rfl (OS.eqNil rfl Tryz.underlying25 rfl o.isSl rfl ?_)
  refine WR.nil ?_
  refine WC.cond (isNil v) rfl (fun hb => ?_) (fun hb => ?_)
  · obtain ⟨hv, hx⟩ := o.nil_of hb
    refine WC.seq (WC.region ?_)
    refine WR.k rfl rfl rfl (OS.assign (v := .slice none 0 0) rfl rfl ?_)
    refine WR.nil ?_
    refine WC.ret ?_
    repeat first | refine thenQ_ret ?_ | refine blkQ_ret ?_
    exact fnQ.l1 (fn := Tryz.f38) rfl (.inl ⟨_, rfl, rfl⟩) ⟨_, _, rfl, St.refl, (by rw [hr, hx]; exact Ow.nil)⟩
  · refine WC.skip ?_
    refine WC.seq (WC.region ?_)
    refine WR.k rfl rfl rfl (OS.bslice (E := E5) (c := c0) 2 ([] : List UInt8) [] rfl trivial (fun _ => by kernel_rfl) rfl (by decide) ?_); intro v1 w c o1 s1
    refine WR.k rfl rfl rfl (OS.move (v := v) rfl rfl ?_)
    refine WR.k rfl rfl rfl (OS.append (E := E5) (c := c) (i := 2) (xs := []) (ys := b) rfl Tryz.underlying25 Tryz.underlying25 (.inl rfl) I5 rfl rfl rfl rfl rfl o1 (o.keep s1 (by decide)).src (lim_bytes (by decide) ha) (lim_max (b := 1) (by decide) ha) ?_); intro v2 w2 c2 o2 s2
    replace o2 : Ow E5 2 w2 c2 v2 r := by rw [hr]; exact o2
    refine WR.k rfl rfl rfl (OS.assign (v := v2) rfl rfl ?_)
    refine WR.nil ?_
    refine WC.ret ?_
    repeat first | refine thenQ_ret ?_ | refine blkQ_ret ?_
    exact fnQ.l1 (fn := Tryz.f38) rfl (.inl ⟨_, rfl, rfl⟩) ⟨_, _, rfl, (s1.t s2).entry (by decide), o2⟩

-- holdfast/hash.Sum
set_option maxHeartbeats 4000000 in
theorem W86 (K : Nat) (w0 : World) {b : List UInt8} {r : (List UInt8)} (hp : hash_Sum K b = some r) {v_ : Value} (o : Vw E5 0 w0 c0 v_ b) :
    Calls Tryz.prog 86 [v_].toArray w0 fun e w1 => ∃ (d : Col), e = .returned (.agg (fl E5 r).toArray) ∧ St [] w0 c0 w1 d ∧ r.length = 32 := by
  refine calls_intro Tryz.func86 rfl Tryz.ntmps86 rfl ?_
  unfold hash_Sum at hp
  refine WC.seq (WC.region ?_)
  refine WR.k rfl rfl rfl (OS.allocArr (E := E5) (xs := (List.replicate 32 (0 : UInt8))) (c := c0) 12 rfl Tryz.zeroValue23 (by kernel_rfl) ?_); intro p_ w_ c_ o1 s
  refine WR.nil ?_
  refine WC.seq (WC.region ?_)
  obtain ⟨l1, hl1, hp⟩ := bind_some hp
  replace hl1 := (Option.some.inj hl1).symm
  have hl : l1.length = 8 := by rw [hl1]; rfl
  refine WR.k rfl rfl rfl (OS.build (v := .agg (fl E132 l1).toArray) [(0, vU32 (1779033703 : UInt32)), (1, vU32 (3144134277 : UInt32)), (2, vU32 (1013904242 : UInt32)), (3, vU32 (2773480762 : UInt32)), (4, vU32 (1359893119 : UInt32)), (5, vU32 (2600822924 : UInt32)), (6, vU32 (528734635 : UInt32)), (7, vU32 (1541459225 : UInt32))] rfl ⟨rfl, (by kernel_rfl), rfl, (by kernel_rfl), rfl, (by kernel_rfl), rfl, (by kernel_rfl), rfl, (by kernel_rfl), rfl, (by kernel_rfl), rfl, (by kernel_rfl), rfl, (by kernel_rfl), trivial⟩ (fun _ => by rw [hl1]; kernel_rfl) ?_)
  refine WR.k rfl rfl rfl (OS.allocArr (E := E132) (xs := (List.replicate 8 (0 : UInt32))) (c := c_) 13 rfl Tryz.zeroValue149 (by kernel_rfl) ?_); intro p_1 w_1 c_1 o2 s1
  refine WR.k0 rfl rfl (OS.stArrAll rfl Tryz.sizeOf149 rfl rfl o2 (by rw [fl_length, hl]; rfl) (Eq.trans (List.length_replicate (n := 8) (a := (0 : UInt32))) (Eq.symm hl)) ?_); intro w_2 o3 s2
  have hl2 : l1.length = 8 := hl
  refine WR.nil ?_
  refine WC.seq (WC.region ?_)
  obtain ⟨r_, hr_, hp⟩ := bind_some hp
  refine WR.k rfl rfl rfl (OS.callF (vs := []) rfl trivial Tryz.call113 ((W113 K w_2 hr_).mono ?_))
  rintro _ w_3 ⟨p_2, d, rfl, s3, o4, hl3⟩
  refine ⟨_, rfl, ?_⟩
  obtain ⟨c_2, s4, o4⟩ : ∃ c_2, St [] w_2 c_1 w_3 c_2 ∧ Arr E132 15 w_3 c_2 p_2 r_ := ⟨_, s3.merge (fun x => x + 13), o4.merge (fun x => x + 13) s3 (by decide)⟩
  refine WR.k rfl rfl rfl (OS.assign (v := p_2) rfl rfl ?_)
  refine WR.nil ?_
  refine WC.seq (WC.region ?_)
  refine WR.k rfl rfl rfl (OS.move (v := v_) rfl rfl ?_)
  have o5 := o.keep (((s.t s1).t s2).t s4) (by decide)
  refine WR.k rfl rfl rfl (OS.lenSl rfl Tryz.runUnderlying25 rfl o5.isSl ?_)
  refine WR.k rfl rfl rfl (OS.conv rfl Tryz.runUnderlying3 Tryz.runUnderlying76 rfl (cv_i64 _) ?_)
  refine WR.k rfl rfl rfl (OS.bin (a := vU64 (iU64 (b.length : Int))) (b := vU64 (3 : UInt64)) rfl rfl (by kernel_rfl) (b64_shl (by decide)) ?_)
  refine WR.k rfl rfl rfl (OS.assign (v := vU64 (shl64 (iU64 (b.length : Int)) 3)) rfl rfl ?_)
  refine WR.nil ?_
  refine WC.seq ?_
  obtain ⟨q, hl6, hp⟩ := bind_some hp
  obtain ⟨b2, l3⟩ := q; dsimp only at hp
  refine WC.blockJ2 (fun f_ w_4 => ∃ (v_2 : Value) (c_3 : Col), f_ 0 = v_2 ∧ Vw E5 0 w_4 c_3 v_2 b2 ∧ f_ 2 = p_ ∧ f_ 3 = p_1 ∧ Arr E132 13 w_4 c_3 p_1 l3 ∧ l3.length = 8 ∧ f_ 4 = p_2 ∧ f_ 5 = vU64 (shl64 (iU64 (b.length : Int)) 3) ∧ St [13] w_3 c_2 w_4 c_3) ?_ ?_
  · have o10 := o3.keep s4 (by decide)
    refine WC.loop (fun n => fun f_1 w_5 => ∃ (b1 : List UInt8) (l2 : List UInt32) (v_1 : Value) (c_4 : Col), hash_Sum.l1 K n r_ b1 l2 = some (b2, l3) ∧ f_1 0 = v_1 ∧ Vw E5 0 w_5 c_4 v_1 b1 ∧ f_1 2 = p_ ∧ f_1 3 = p_1 ∧ Arr E132 13 w_5 c_4 p_1 l2 ∧ l2.length = 8 ∧ f_1 4 = p_2 ∧ f_1 5 = vU64 (shl64 (iU64 (b.length : Int)) 3) ∧ St [13] w_3 c_2 w_5 c_4) K ⟨_, _, _, _, hl6, rfl, o5, rfl, rfl, o10, hl2, rfl, rfl, St.refl.mono (by decide)⟩ ?_
    rintro n f_1 w_5 ⟨b1, l2, v_1, c_4, hl6, h, o6, h1, h2, o7, hl4, h3, h4, s5⟩
    cases n with
    | zero => exact absurd hl6 (by simp [hash_Sum.l1])
    | succ k =>
    rw [hash_Sum.l1] at hl6
    refine WC.seq ?_
    refine WC.seq (WC.region ?_)
    refine WR.k rfl rfl rfl (OS.move (v := v_1) rfl h ?_)
    refine WR.k rfl rfl rfl (OS.lenSl rfl Tryz.runUnderlying25 rfl o6.isSl ?_)
    refine WR.k rfl rfl rfl (OS.bin (a := vI (b1.length : Int)) (b := vI (64 : Int)) rfl rfl rfl bI_geq ?_)
    refine WR.nil ?_
    refine WC.cond (decide ((64 : Int) ≤ (b1.length : Int))) rfl (fun hb => ?_) (fun hb => ?_)
    · rw [if_pos hb] at hl6
      refine WC.skip ?_
      refine WC.seq ?_
      refine WC.block ?_
      refine WC.region ?_
      refine WR.k rfl rfl rfl (OS.ldN rfl Tryz.isAgg149 Tryz.sizeOf149 h2 o7.ldAll (by rw [fl_length, hl4]; rfl) ?_)
      refine WR.k rfl rfl rfl (OS.move (v := p_2) rfl h3 ?_)
      refine WR.k rfl rfl rfl (OS.move (v := v_1) rfl h ?_)
      have o11 := o4.keep s5 (by decide)
      obtain ⟨r_1, hr_1, hl6⟩ := bind_some hl6
      refine WR.k rfl rfl rfl (OS.callF (vs := [.agg (fl E132 l2).toArray, p_2, v_1]) rfl ⟨rfl, rfl, rfl, trivial⟩ Tryz.call114 ((W114 K w_5 hr_1 hl4 o11.forget hl3 o6.forget).mono ?_))
      rintro _ w_6 ⟨d1, rfl, s6, hl7⟩
      refine ⟨_, rfl, ?_⟩
      obtain ⟨c_5, s7⟩ : ∃ c_5, St [] w_5 c_4 w_6 c_5 := ⟨_, s6.merge (fun x => x + 23)⟩
      have o12 := o7.keep s7 (by decide)
      refine WR.k0 rfl rfl (OS.stArrAll rfl Tryz.sizeOf149 h2 rfl o12 (by rw [fl_length, hl7]; rfl) (Eq.trans hl4 (Eq.symm hl7)) ?_); intro w_7 o13 s8
      have hl8 : r_1.length = 8 := hl7
      refine WR.nil ?_
      refine WC.region ?_
      refine WR.k rfl rfl rfl (OS.move (v := v_1) rfl h ?_)
      have o14 := o6.keep (s7.t s8) (by decide)
      obtain ⟨ys, hys, hl6⟩ := bind_some hl6
      obtain ⟨ha, hb1, hc, hys⟩ := sub_some hys
      refine WR.k rfl rfl rfl (OS.sliceV (E := E5) rfl Tryz.underlying25 Tryz.sizeOf5 rfl o14 (Bd.some rfl ha) Bd.none rfl (by omega) (by omega) ?_); intro v_3 y
      replace y : Vw E5 0 w_7 c_5 v_3 ys := by rw [hys]; exact y
      refine WR.k rfl rfl rfl (OS.assign (v := v_3) rfl rfl ?_)
      refine WR.nil ?_
      exact ⟨k, by omega, _, _, _, _, hl6, rfl, y, h1, h2, o13, hl8, h3, h4, ((s5.t s7).t s8).mono (by decide)⟩
    · rw [if_neg (nt hb)] at hl6
      refine WC.exit ?_
      cases hl6
      exact ⟨_, _, h, o6, h1, h2, o7, hl4, h3, h4, s5.mono (by decide)⟩
  · rintro f_ w_4 ⟨v_2, c_3, h5, o8, h6, h7, o9, hl5, h8, h9, s9⟩
    refine WC.seq (WC.region ?_)
    refine WR.k rfl rfl rfl (OS.move (v := v_2) rfl h5 ?_)
    obtain ⟨r_2, hr_2, hp⟩ := bind_some hp
    refine WR.k rfl rfl rfl (OS.callF (vs := [v_2]) rfl ⟨rfl, trivial⟩ Tryz.call38 ((W38 K w_4 hr_2 o8.forget).mono ?_))
    rintro _ w_8 ⟨v_4, d2, rfl, s10, o15⟩
    refine ⟨_, rfl, ?_⟩
    obtain ⟨c_6, s11, o15⟩ : ∃ c_6, St [] w_4 c_3 w_8 c_6 ∧ Ow E5 27 w_8 c_6 v_4 r_2 := ⟨_, s10.merge (fun x => x + 25), o15.merge (fun x => x + 25) s10 (by decide)⟩
    obtain ⟨l9, hl9, hp⟩ := bind_some hp
    replace hl9 := (Option.some.inj hl9).symm
    refine WR.k rfl rfl rfl (OS.bslice (E := E5) (c := c_6) 29 ([(128 : UInt8)] : List UInt8) [(0, vU8 (128 : UInt8))] rfl ⟨rfl, (by kernel_rfl), trivial⟩ (fun _ => by kernel_rfl) rfl (by decide) ?_); intro v_5 w_9 c_7 o16 s12
    replace o16 : Ow E5 29 w_9 c_7 v_5 l9 := by rw [hl9]; exact o16
    have o17 := o15.keep s12 (by decide)
    obtain ⟨r_3, hr_3, hp⟩ := bind_some hp
    obtain ⟨ha1, hr_3⟩ := app_some hr_3
    refine WR.k rfl rfl rfl (OS.append (E := E5) (c := c_7) (i := 27) (xs := r_2) (ys := l9) rfl Tryz.underlying25 Tryz.underlying25 (.inl rfl) I5 rfl rfl rfl rfl rfl o17 o16.vw.src (lim_bytes (by decide) ha1) (lim_max (b := 1) (by decide) ha1) ?_); intro v_6 w_10 c_8 o18 s13
    replace o18 : Ow E5 27 w_10 c_8 v_6 r_3 := by rw [hr_3]; exact o18
    refine WR.k rfl rfl rfl (OS.assign (v := v_6) rfl rfl ?_)
    refine WR.nil ?_
    refine WC.seq (WC.region ?_)
    refine WR.k rfl rfl rfl (OS.move (v := v_6) rfl rfl ?_)
    refine WR.k rfl rfl rfl (OS.move (v := v_2) rfl h5 ?_)
    have o19 := o8.keep ((s11.t s12).t s13) (by decide)
    refine WR.k rfl rfl rfl (OS.lenSl rfl Tryz.runUnderlying25 rfl o19.isSl ?_)
    refine WR.k rfl rfl rfl (OS.bin (a := vI (119 : Int)) (b := vI (b2.length : Int)) rfl rfl rfl bI_sub ?_)
    refine WR.k rfl rfl rfl (OS.bin (a := vI (W ((119 : Int) - (b2.length : Int)))) (b := vI (64 : Int)) rfl rfl rfl (bI_rem (by decide)) ?_)
    obtain ⟨xs, hxs, hp⟩ := bind_some hp
    obtain ⟨zs, hq, hxs⟩ := bind_some hxs
    obtain ⟨ha2, hb2, hc1⟩ := mks_some hq
    obtain ⟨hd, hxs⟩ := app_some hxs
    refine WR.k rfl rfl rfl (OS.appendZ (E := E5) (c := c_8) (i := 27) (z0 := (0 : UInt8)) rfl Tryz.underlying25 Tryz.underlying3 I5 rfl rfl rfl rfl rfl o18 ha2 hc1 (lim_bytes (by decide) hd) (lim_max (b := 1) (by decide) hd) ?_); intro v_7 w_11 c_9 o20 s14
    replace o20 : Ow E5 27 w_11 c_9 v_7 xs := by rw [hxs]; exact o20
    refine WR.k rfl rfl rfl (OS.assign (v := v_7) rfl rfl ?_)
    refine WR.nil ?_
    refine WC.seq ?_
    refine WC.seq (WC.region ?_)
    refine WR.k rfl rfl rfl (OS.move (v := vI (0 : Int)) rfl rfl ?_)
    refine WR.nil ?_
    obtain ⟨q1, hl10, hp⟩ := bind_some hp
    obtain ⟨end_1, hx⟩ : ∃ z, z = q1 := ⟨_, rfl⟩; subst hx
    refine WC.blockJ2 (fun f_2 w_12 => ∃ (v_9 : Value) (c_10 : Col), f_2 2 = p_ ∧ f_2 3 = p_1 ∧ f_2 4 = p_2 ∧ f_2 6 = v_9 ∧ Ow E5 27 w_12 c_10 v_9 end_1 ∧ St [27] w_11 c_9 w_12 c_10) ?_ ?_
    · refine WC.loop (fun n => fun f_3 w_13 => ∃ (end_ : List UInt8) (x35 : Int) (v_8 : Value) (c_11 : Col), hash_Sum.l2 n b end_ x35 = some end_1 ∧ f_3 2 = p_ ∧ f_3 3 = p_1 ∧ f_3 4 = p_2 ∧ f_3 5 = vU64 (shl64 (iU64 (b.length : Int)) 3) ∧ f_3 6 = v_8 ∧ Ow E5 27 w_13 c_11 v_8 end_ ∧ f_3 35 = vI x35 ∧ St [27] w_11 c_9 w_13 c_11) K ⟨_, _, _, _, hl10, h6, h7, h8, h9, rfl, o20, rfl, St.refl.mono (by decide)⟩ ?_
      rintro n f_3 w_13 ⟨end_, x35, v_8, c_11, hl10, h10, h11, h12, h13, h14, o21, h15, s15⟩
      cases n with
      | zero => exact absurd hl10 (by simp [hash_Sum.l2])
      | succ k =>
      rw [hash_Sum.l2] at hl10
      refine WC.seq (WC.region ?_)
      refine WR.k rfl rfl rfl (OS.bin (a := vI x35) (b := vI (8 : Int)) rfl h15 rfl bI_lss ?_)
      refine WR.nil ?_
      refine WC.seq ?_
      refine WC.cond (decide (x35 < (8 : Int))) rfl (fun hb3 => ?_) (fun hb3 => ?_)
      · rw [if_pos hb3] at hl10
        refine WC.skip ?_
        refine WC.seq ?_
        refine WC.block ?_
        refine WC.seq (WC.region ?_)
        refine WR.k rfl rfl rfl (OS.move (v := vI x35) rfl h15 ?_)
        refine WR.k rfl rfl rfl (OS.assign (v := vI x35) rfl rfl ?_)
        refine WR.nil ?_
        refine WC.region ?_
        refine WR.k rfl rfl rfl (OS.move (v := v_8) rfl h14 ?_)
        refine WR.k rfl rfl rfl (OS.move (v := vU64 (shl64 (iU64 (b.length : Int)) 3)) rfl h13 ?_)
        refine WR.k rfl rfl rfl (OS.move (v := vI x35) rfl rfl ?_)
        refine WR.k rfl rfl rfl (OS.bin (a := vI (8 : Int)) (b := vI x35) rfl rfl rfl bI_mul ?_)
        refine WR.k rfl rfl rfl (OS.bin (a := vI (56 : Int)) (b := vI (W ((8 : Int) * x35))) rfl rfl rfl bI_sub ?_)
        obtain ⟨k1, hk1, hl10⟩ := bind_some hl10
        obtain ⟨ha3, hk1⟩ := shc_some hk1
        refine WR.k rfl rfl rfl (OS.bin (a := vU64 (shl64 (iU64 (b.length : Int)) 3)) (b := vI (W ((56 : Int) - (W ((8 : Int) * x35))))) rfl rfl rfl (b64_shr ha3) ?_)
        refine WR.k rfl rfl rfl (OS.conv rfl Tryz.runUnderlying76 Tryz.runUnderlying5 rfl (cv_64_8 _) ?_)
        obtain ⟨l11, hl11, hl10⟩ := bind_some hl10
        replace hl11 := (Option.some.inj hl11).symm
        refine WR.k rfl rfl rfl (OS.bslice (E := E5) (c := c_11) 35 ([(shr64 (shl64 (iU64 (b.length : Int)) 3) (W ((56 : Int) - (W ((8 : Int) * x35)))).toNat).toUInt8] : List UInt8) [(0, vU8 ((shr64 (shl64 (iU64 (b.length : Int)) 3) (W ((56 : Int) - (W ((8 : Int) * x35)))).toNat).toUInt8))] rfl ⟨rfl, rfl, trivial⟩ (fun _ => by kernel_rfl) rfl (by decide) ?_); intro v_10 w_14 c_12 o23 s16
        replace o23 : Ow E5 35 w_14 c_12 v_10 l11 := by rw [hl11]; exact o23
        have o24 := o21.keep s16 (by decide)
        obtain ⟨end_2, hend_2, hl10⟩ := bind_some hl10
        obtain ⟨ha4, hend_2⟩ := app_some hend_2
        refine WR.k rfl rfl rfl (OS.append (E := E5) (c := c_12) (i := 27) (xs := end_) (ys := l11) rfl Tryz.underlying25 Tryz.underlying25 (.inl rfl) I5 rfl rfl rfl rfl rfl o24 o23.vw.src (lim_bytes (by decide) ha4) (lim_max (b := 1) (by decide) ha4) ?_); intro v_11 w_15 c_13 o25 s17
        replace o25 : Ow E5 27 w_15 c_13 v_11 end_2 := by rw [hend_2]; exact o25
        refine WR.k rfl rfl rfl (OS.assign (v := v_11) rfl rfl ?_)
        refine WR.nil ?_
        refine WC.region ?_
        refine WR.k rfl rfl rfl (OS.bin (a := vI x35) (b := vI (1 : Int)) rfl h15 rfl bI_add ?_)
        refine WR.k rfl rfl rfl (OS.move (v := vI (W (x35 + (1 : Int)))) rfl rfl ?_)
        refine WR.nil ?_
        exact ⟨k, by omega, _, _, _, _, hl10, h10, h11, h12, h13, rfl, o25, rfl, ((s15.t s16).t s17).mono (by decide)⟩
      · rw [if_neg (nt hb3)] at hl10
        refine WC.exit ?_
        cases hl10
        exact ⟨_, _, h10, h11, h12, h14, o21, s15.mono (by decide)⟩
    · rintro f_2 w_12 ⟨v_9, c_10, h16, h17, h18, h19, o22, s18⟩
      refine WC.seq ?_
      obtain ⟨q2, hl14, hp⟩ := bind_some hp
      obtain ⟨l13, hx⟩ : ∃ z, z = q2 := ⟨_, rfl⟩; subst hx
      refine WC.blockJ2 (fun f_4 w_16 => ∃ (c_14 : Col), f_4 2 = p_ ∧ f_4 3 = p_1 ∧ Arr E132 13 w_16 c_14 p_1 l13 ∧ l13.length = 8 ∧ St [13] w_12 c_10 w_16 c_14) ?_ ?_
      · have o29 := o9.keep ((((s11.t s12).t s13).t s14).t s18) (by decide)
        refine WC.loop (fun n => fun f_5 w_17 => ∃ (l12 : List UInt32) (end_3 : List UInt8) (v_12 : Value) (c_15 : Col), hash_Sum.l3 K n r_ l12 end_3 = some l13 ∧ f_5 2 = p_ ∧ f_5 3 = p_1 ∧ Arr E132 13 w_17 c_15 p_1 l12 ∧ l12.length = 8 ∧ f_5 4 = p_2 ∧ f_5 6 = v_12 ∧ Vw E5 27 w_17 c_15 v_12 end_3 ∧ St [13] w_12 c_10 w_17 c_15) K ⟨_, _, _, _, hl14, h16, h17, o29, hl5, h18, h19, o22.vw, St.refl.mono (by decide)⟩ ?_
        rintro n f_5 w_17 ⟨l12, end_3, v_12, c_15, hl14, h20, h21, o26, hl12, h22, h23, o27, s19⟩
        cases n with
        | zero => exact absurd hl14 (by simp [hash_Sum.l3])
        | succ k =>
        rw [hash_Sum.l3] at hl14
        refine WC.seq ?_
        refine WC.seq (WC.region ?_)
        refine WR.k rfl rfl rfl (OS.move (v := v_12) rfl h23 ?_)
        refine WR.k rfl rfl rfl (OS.lenSl rfl Tryz.runUnderlying25 rfl o27.isSl ?_)
        refine WR.k rfl rfl rfl (OS.bin (a := vI (end_3.length : Int)) (b := vI (0 : Int)) rfl rfl rfl bI_gtr ?_)
        refine WR.nil ?_
        refine WC.cond (decide ((0 : Int) < (end_3.length : Int))) rfl (fun hb4 => ?_) (fun hb4 => ?_)
        · rw [if_pos hb4] at hl14
          refine WC.skip ?_
          refine WC.seq ?_
          refine WC.block ?_
          refine WC.region ?_
          refine WR.k rfl rfl rfl (OS.ldN rfl Tryz.isAgg149 Tryz.sizeOf149 h21 o26.ldAll (by rw [fl_length, hl12]; rfl) ?_)
          refine WR.k rfl rfl rfl (OS.move (v := p_2) rfl h22 ?_)
          refine WR.k rfl rfl rfl (OS.move (v := v_12) rfl h23 ?_)
          have o30 := o4.keep ((((((s9.t s11).t s12).t s13).t s14).t s18).t s19) (by decide)
          obtain ⟨r_4, hr_4, hl14⟩ := bind_some hl14
          refine WR.k rfl rfl rfl (OS.callF (vs := [.agg (fl E132 l12).toArray, p_2, v_12]) rfl ⟨rfl, rfl, rfl, trivial⟩ Tryz.call114 ((W114 K w_17 hr_4 hl12 o30.forget hl3 o27.forget).mono ?_))
          rintro _ w_18 ⟨d3, rfl, s20, hl15⟩
          refine ⟨_, rfl, ?_⟩
          obtain ⟨c_16, s21⟩ : ∃ c_16, St [] w_17 c_15 w_18 c_16 := ⟨_, s20.merge (fun x => x + 42)⟩
          have o31 := o26.keep s21 (by decide)
          refine WR.k0 rfl rfl (OS.stArrAll rfl Tryz.sizeOf149 h21 rfl o31 (by rw [fl_length, hl15]; rfl) (Eq.trans hl12 (Eq.symm hl15)) ?_); intro w_19 o32 s22
          have hl16 : r_4.length = 8 := hl15
          refine WR.nil ?_
          refine WC.region ?_
          refine WR.k rfl rfl rfl (OS.move (v := v_12) rfl h23 ?_)
          have o33 := o27.keep (s21.t s22) (by decide)
          obtain ⟨ys1, hys1, hl14⟩ := bind_some hl14
          obtain ⟨ha5, hb5, hc2, hys1⟩ := sub_some hys1
          refine WR.k rfl rfl rfl (OS.sliceV (E := E5) rfl Tryz.underlying25 Tryz.sizeOf5 rfl o33 (Bd.some rfl ha5) Bd.none rfl (by omega) (by omega) ?_); intro v_13 y1
          replace y1 : Vw E5 27 w_19 c_16 v_13 ys1 := by rw [hys1]; exact y1
          refine WR.k rfl rfl rfl (OS.assign (v := v_13) rfl rfl ?_)
          refine WR.nil ?_
          exact ⟨k, by omega, _, _, _, _, hl14, h20, h21, o32, hl16, h22, rfl, y1, ((s19.t s21).t s22).mono (by decide)⟩
        · rw [if_neg (nt hb4)] at hl14
          refine WC.exit ?_
          cases hl14
          exact ⟨_, h20, h21, o26, hl12, s19.mono (by decide)⟩
      · rintro f_4 w_16 ⟨c_14, h24, h25, o28, hl13, s23⟩
        refine WC.seq ?_
        refine WC.seq (WC.region ?_)
        refine WR.k rfl rfl rfl (OS.ldN rfl Tryz.isAgg149 Tryz.sizeOf149 h25 o28.ldAll (by rw [fl_length, hl13]; rfl) ?_)
        refine WR.k rfl rfl rfl (OS.move (v := vI (0 : Int)) rfl rfl ?_)
        refine WR.nil ?_
        obtain ⟨q3, hl19, hp⟩ := bind_some hp
        obtain ⟨xs2, hx⟩ : ∃ z, z = q3 := ⟨_, rfl⟩; subst hx
        refine WC.blockJ2 (fun f_6 w_20 => ∃ (c_17 : Col), f_6 2 = p_ ∧ Arr E5 12 w_20 c_17 p_ xs2 ∧ xs2.length = 32 ∧ St [12] w_16 c_14 w_20 c_17) ?_ ?_
        · have o36 := o1.keep (((((((((s1.t s2).t s4).t s9).t s11).t s12).t s13).t s14).t s18).t s23) (by decide)
          refine WC.loop (fun n => fun f_7 w_21 => ∃ (xs1 : List UInt8) (x58 : Int) (c_18 : Col), hash_Sum.l4 n l13 xs1 x58 = some xs2 ∧ f_7 2 = p_ ∧ Arr E5 12 w_21 c_18 p_ xs1 ∧ xs1.length = 32 ∧ f_7 57 = .agg (fl E132 l13).toArray ∧ f_7 58 = vI x58 ∧ St [12] w_16 c_14 w_21 c_18) K ⟨_, _, _, hl19, h24, o36, (List.length_replicate (n := 32) (a := (0 : UInt8))), rfl, rfl, St.refl.mono (by decide)⟩ ?_
          rintro n f_7 w_21 ⟨xs1, x58, c_18, hl19, h26, o34, hl17, h27, h28, s24⟩
          cases n with
          | zero => exact absurd hl19 (by simp [hash_Sum.l4])
          | succ k =>
          rw [hash_Sum.l4] at hl19
          refine WC.seq (WC.region ?_)
          refine WR.k rfl rfl rfl (OS.bin (a := vI x58) (b := vI (8 : Int)) rfl h28 rfl bI_lss ?_)
          refine WR.nil ?_
          refine WC.seq ?_
          refine WC.cond (decide (x58 < (8 : Int))) rfl (fun hb6 => ?_) (fun hb6 => ?_)
          · rw [if_pos hb6] at hl19
            refine WC.skip ?_
            refine WC.seq ?_
            refine WC.block ?_
            refine WC.seq (WC.region ?_)
            refine WR.k rfl rfl rfl (OS.move (v := vI x58) rfl h28 ?_)
            obtain ⟨e, he, hl19⟩ := bind_some hl19
            obtain ⟨ha6, hb7, hc3⟩ := gt_some he
            refine WR.k rfl rfl rfl (OS.indexArr (u := vU32 e) rfl Tryz.runUnderlying149 Tryz.sizeOf132 Tryz.isAgg132 rfl h27 hl13 h28 ha6 hc3 rfl ?_)
            refine WR.k rfl rfl rfl (OS.assign (v := vI x58) rfl rfl ?_)
            refine WR.k rfl rfl rfl (OS.assign (v := vU32 e) rfl rfl ?_)
            refine WR.nil ?_
            refine WC.region ?_
            refine WR.k rfl rfl rfl (OS.move (v := vI x58) rfl rfl ?_)
            refine WR.k rfl rfl rfl (OS.bin (a := vI (4 : Int)) (b := vI x58) rfl rfl rfl bI_mul ?_)
            refine WR.k rfl rfl rfl (OS.move (v := vI x58) rfl rfl ?_)
            refine WR.k rfl rfl rfl (OS.bin (a := vI (4 : Int)) (b := vI x58) rfl rfl rfl bI_mul ?_)
            refine WR.k rfl rfl rfl (OS.bin (a := vI (W ((4 : Int) * x58))) (b := vI (1 : Int)) rfl rfl rfl bI_add ?_)
            refine WR.k rfl rfl rfl (OS.move (v := vI x58) rfl rfl ?_)
            refine WR.k rfl rfl rfl (OS.bin (a := vI (4 : Int)) (b := vI x58) rfl rfl rfl bI_mul ?_)
            refine WR.k rfl rfl rfl (OS.bin (a := vI (W ((4 : Int) * x58))) (b := vI (2 : Int)) rfl rfl rfl bI_add ?_)
            refine WR.k rfl rfl rfl (OS.move (v := vI x58) rfl rfl ?_)
            refine WR.k rfl rfl rfl (OS.bin (a := vI (4 : Int)) (b := vI x58) rfl rfl rfl bI_mul ?_)
            refine WR.k rfl rfl rfl (OS.bin (a := vI (W ((4 : Int) * x58))) (b := vI (3 : Int)) rfl rfl rfl bI_add ?_)
            refine WR.k rfl rfl rfl (OS.move (v := vU32 e) rfl rfl ?_)
            refine WR.k rfl rfl rfl (OS.bin (a := vU32 e) (b := vU64 (24 : UInt64)) rfl rfl (by kernel_rfl) (b32_shr (by decide)) ?_)
            refine WR.k rfl rfl rfl (OS.conv rfl Tryz.runUnderlying132 Tryz.runUnderlying5 rfl (cv_32_8 _) ?_)
            refine WR.k rfl rfl rfl (OS.move (v := vU32 e) rfl rfl ?_)
            refine WR.k rfl rfl rfl (OS.bin (a := vU32 e) (b := vU64 (16 : UInt64)) rfl rfl (by kernel_rfl) (b32_shr (by decide)) ?_)
            refine WR.k rfl rfl rfl (OS.conv rfl Tryz.runUnderlying132 Tryz.runUnderlying5 rfl (cv_32_8 _) ?_)
            refine WR.k rfl rfl rfl (OS.move (v := vU32 e) rfl rfl ?_)
            refine WR.k rfl rfl rfl (OS.bin (a := vU32 e) (b := vU64 (8 : UInt64)) rfl rfl (by kernel_rfl) (b32_shr (by decide)) ?_)
            refine WR.k rfl rfl rfl (OS.conv rfl Tryz.runUnderlying132 Tryz.runUnderlying5 rfl (cv_32_8 _) ?_)
            refine WR.k rfl rfl rfl (OS.move (v := vU32 e) rfl rfl ?_)
            refine WR.k rfl rfl rfl (OS.conv rfl Tryz.runUnderlying132 Tryz.runUnderlying5 rfl (cv_32_8 _) ?_)
            obtain ⟨u, hu, hl19⟩ := bind_some hl19
            obtain ⟨ha7, hb8⟩ := req_some hu
            refine WR.k rfl rfl rfl (OS.idxArr rfl Tryz.runUnderlying23 Tryz.sizeOf5 h26 o34 rfl ha7 (by have := hb8; rw [hl17] at this; exact this) ?_); intro p_3 a1
            obtain ⟨xs3, hxs3, hl19⟩ := bind_some hl19
            replace hxs3 := (Option.some.inj hxs3).symm
            refine WR.k0 rfl rfl (OS.stArr (q := (shr32 e 24).toUInt8) (u := vU8 ((shr32 e 24).toUInt8)) rfl Tryz.sizeOf5 rfl rfl o34 rfl a1 (by have h1 := (by have := hb8; rw [hl17] at this; exact this); rw [hl17]; omega) rfl ?_); intro w_22 o37 s25
            replace o37 : Arr E5 12 w_22 c_18 p_ xs3 := by rw [hxs3]; exact o37
            have hl20 : xs3.length = 32 := (by rw [hxs3, List.length_set]; exact hl17)
            obtain ⟨u1, hu1, hl19⟩ := bind_some hl19
            obtain ⟨ha8, hb9⟩ := req_some hu1
            refine WR.k rfl rfl rfl (OS.idxArr rfl Tryz.runUnderlying23 Tryz.sizeOf5 h26 o37 rfl ha8 (by have := hb9; rw [hl20] at this; exact this) ?_); intro p_4 a2
            obtain ⟨xs4, hxs4, hl19⟩ := bind_some hl19
            replace hxs4 := (Option.some.inj hxs4).symm
            refine WR.k0 rfl rfl (OS.stArr (q := (shr32 e 16).toUInt8) (u := vU8 ((shr32 e 16).toUInt8)) rfl Tryz.sizeOf5 rfl rfl o37 rfl a2 (by have h1 := (by have := hb9; rw [hl20] at this; exact this); rw [hl20]; omega) rfl ?_); intro w_23 o38 s26
            replace o38 : Arr E5 12 w_23 c_18 p_ xs4 := by rw [hxs4]; exact o38
            have hl21 : xs4.length = 32 := (by rw [hxs4, List.length_set]; exact hl20)
            obtain ⟨u2, hu2, hl19⟩ := bind_some hl19
            obtain ⟨ha9, hb10⟩ := req_some hu2
            refine WR.k rfl rfl rfl (OS.idxArr rfl Tryz.runUnderlying23 Tryz.sizeOf5 h26 o38 rfl ha9 (by have := hb10; rw [hl21] at this; exact this) ?_); intro p_5 a3
            obtain ⟨xs5, hxs5, hl19⟩ := bind_some hl19
            replace hxs5 := (Option.some.inj hxs5).symm
            refine WR.k0 rfl rfl (OS.stArr (q := (shr32 e 8).toUInt8) (u := vU8 ((shr32 e 8).toUInt8)) rfl Tryz.sizeOf5 rfl rfl o38 rfl a3 (by have h1 := (by have := hb10; rw [hl21] at this; exact this); rw [hl21]; omega) rfl ?_); intro w_24 o39 s27
            replace o39 : Arr E5 12 w_24 c_18 p_ xs5 := by rw [hxs5]; exact o39
            have hl22 : xs5.length = 32 := (by rw [hxs5, List.length_set]; exact hl21)
            obtain ⟨u3, hu3, hl19⟩ := bind_some hl19
            obtain ⟨ha10, hb11⟩ := req_some hu3
            refine WR.k rfl rfl rfl (OS.idxArr rfl Tryz.runUnderlying23 Tryz.sizeOf5 h26 o39 rfl ha10 (by have := hb11; rw [hl22] at this; exact this) ?_); intro p_6 a4
            obtain ⟨xs6, hxs6, hl19⟩ := bind_some hl19
            replace hxs6 := (Option.some.inj hxs6).symm
            refine WR.k0 rfl rfl (OS.stArr (q := e.toUInt8) (u := vU8 e.toUInt8) rfl Tryz.sizeOf5 rfl rfl o39 rfl a4 (by have h1 := (by have := hb11; rw [hl22] at this; exact this); rw [hl22]; omega) rfl ?_); intro w_25 o40 s28
            replace o40 : Arr E5 12 w_25 c_18 p_ xs6 := by rw [hxs6]; exact o40
            have hl23 : xs6.length = 32 := (by rw [hxs6, List.length_set]; exact hl22)
            refine WR.nil ?_
            refine WC.region ?_
            refine WR.k rfl rfl rfl (OS.bin (a := vI x58) (b := vI (1 : Int)) rfl h28 rfl bI_add ?_)
            refine WR.k rfl rfl rfl (OS.move (v := vI (W (x58 + (1 : Int)))) rfl rfl ?_)
            refine WR.nil ?_
            exact ⟨k, by omega, _, _, _, hl19, h26, o40, hl23, h27, rfl, ((((s24.t s25).t s26).t s27).t s28).mono (by decide)⟩
          · rw [if_neg (nt hb6)] at hl19
            refine WC.exit ?_
            cases hl19
            exact ⟨_, h26, o34, hl17, s24.mono (by decide)⟩
        · rintro f_6 w_20 ⟨c_17, h29, o35, hl18, s29⟩
          refine WC.seq (WC.region ?_)
          refine WR.k rfl rfl rfl (OS.ldN rfl Tryz.isAgg23 Tryz.sizeOf23 h29 o35.ldAll (by rw [fl_length, hl18]; rfl) ?_)
          refine WR.k0 rfl rfl (OS.stArrAll rfl Tryz.sizeOf23 h29 rfl o35 (by rw [fl_length, hl18]; rfl) (Eq.trans hl18 (Eq.symm hl18)) ?_); intro w_26 o41 s30
          have hl24 : xs2.length = 32 := hl18
          refine WR.nil ?_
          refine WC.ret ?_
          repeat first | refine thenQ_ret ?_ | refine blkQ_ret ?_
          cases hp
          exact fnQ.l1 (fn := Tryz.f86) rfl (.inr ⟨_, _, _, _, rfl, ⟨_, h29, Tryz.isAgg23, Tryz.sizeOf23, o41.ldAll, (by rw [fl_length, hl24]; rfl)⟩, rfl⟩) ⟨_, rfl, ((((((((((((s.t s1).t s2).t s4).t s9).t s11).t s12).t s13).t s14).t s18).t s23).t s29).t s30).entry (by decide), hl24⟩

-- holdfast/hash.Tag
set_option maxHeartbeats 4000000 in
theorem W59 (K : Nat) (w0 : World) {key : List UInt8} {b : List UInt8} {r : (List UInt8)} (hp : hash_Tag K key b = some r) {v_ : Value} (o : Vw E5 0 w0 c0 v_ key) {v_1 : Value} (o1 : Vw E5 0 w0 c0 v_1 b) :
    Calls Tryz.prog 59 [v_, v_1].toArray w0 fun e w1 => ∃ (d : Col), e = .returned (.agg (fl E5 r).toArray) ∧ St [] w0 c0 w1 d ∧ r.length = 32 := by
  refine calls_intro Tryz.func59 rfl Tryz.ntmps59 rfl ?_
  unfold hash_Tag at hp
  refine WC.seq (WC.region ?_)
  refine WR.k rfl rfl rfl (OS.allocArr (E := E5) (xs := (List.replicate 32 (0 : UInt8))) (c := c0) 12 rfl Tryz.zeroValue23 (by kernel_rfl) ?_); intro p_ w_ c_ o2 s
  refine WR.nil ?_
  refine WC.seq ?_
  refine WC.seq (WC.region ?_)
  refine WR.k rfl rfl rfl (OS.move (v := v_) rfl rfl ?_)
  have o3 := o.keep s (by decide)
  refine WR.k rfl rfl rfl (OS.lenSl rfl Tryz.runUnderlying25 rfl o3.isSl ?_)
  refine WR.k rfl rfl rfl (OS.bin (a := vI (key.length : Int)) (b := vI (64 : Int)) rfl rfl rfl bI_gtr ?_)
  refine WR.nil ?_
  refine WC.endJ (fun f_ w_1 => ∃ (key1 : List UInt8) (v_2 : Value) (c_1 : Col), hash_Tag.j1 K b key1 = some r ∧ f_ 0 = v_2 ∧ Vw E5 0 w_1 c_1 v_2 key1 ∧ f_ 1 = v_1 ∧ f_ 4 = p_ ∧ St [15, 18] w_ c_ w_1 c_1) ?_ ?_
  · refine WC.cond (decide ((64 : Int) < (key.length : Int))) rfl (fun hb => ?_) (fun hb => ?_)
    · rw [if_pos hb] at hp
      refine WC.seq (WC.region ?_)
      refine WR.k rfl rfl rfl (OS.move (v := v_) rfl rfl ?_)
      obtain ⟨r_, hr_, hp⟩ := bind_some hp
      refine WR.k rfl rfl rfl (OS.callF (vs := [v_]) rfl ⟨rfl, trivial⟩ Tryz.call86 ((W86 K w_ hr_ o3.forget).mono ?_))
      rintro _ w_2 ⟨d, rfl, s1, hl⟩
      refine ⟨_, rfl, ?_⟩
      obtain ⟨c_2, s2⟩ : ∃ c_2, St [] w_ c_ w_2 c_2 := ⟨_, s1.merge (fun x => x + 15)⟩
      refine WR.k rfl rfl rfl (OS.allocArr (E := E5) (xs := (List.replicate 32 (0 : UInt8))) (c := c_2) 18 rfl Tryz.zeroValue23 (by kernel_rfl) ?_); intro p_1 w_3 c_3 o5 s3
      refine WR.k0 rfl rfl (OS.stArrAll rfl Tryz.sizeOf23 rfl rfl o5 (by rw [fl_length, hl]; rfl) (Eq.trans (List.length_replicate (n := 32) (a := (0 : UInt8))) (Eq.symm hl)) ?_); intro w_4 o6 s4
      have hl1 : r_.length = 32 := hl
      refine WR.nil ?_
      refine WC.region ?_
      refine WR.k rfl rfl rfl (OS.sliceAF (E := E5) (l := 0) (h := 32) rfl Tryz.underlying23 Tryz.sizeOf5 rfl o6 hl1 Bd.none Bd.none (by decide) (by decide) ?_); intro v_3 y z1 fu
      rw [List.drop_zero, List.take_of_length_le (by rw [hl1]; decide)] at y
      replace z1 := z1 (by decide)
      replace fu := fu rfl
      refine WR.k rfl rfl rfl (OS.assign (v := v_3) rfl rfl ?_)
      refine WR.nil ?_
      obtain ⟨c_4, s5, o7⟩ := y.recol 0
      exact ⟨_, _, _, hp, rfl, o7, rfl, rfl, (((s2.t s3).t s4).t s5).mono (by decide)⟩
    · rw [if_neg (nt hb)] at hp
      refine WC.skip ?_
      exact ⟨_, _, _, hp, rfl, o3, rfl, rfl, St.refl.mono (by decide)⟩
  · rintro f_ w_1 ⟨key1, v_2, c_1, hp, h, o4, h1, h2, s6⟩
    unfold hash_Tag.j1 at hp
    refine WC.seq (WC.region ?_)
    refine WR.k rfl rfl rfl (OS.allocArr (E := E5) (xs := (List.replicate 64 (0 : UInt8))) (c := c_1) 19 rfl Tryz.zeroValue122 (by kernel_rfl) ?_); intro p_2 w_5 c_5 o8 s7
    refine WR.k rfl rfl rfl (OS.allocArr (E := E5) (xs := (List.replicate 64 (0 : UInt8))) (c := c_5) 20 rfl Tryz.zeroValue122 (by kernel_rfl) ?_); intro p_3 w_6 c_6 o9 s8
    refine WR.nil ?_
    refine WC.seq (WC.region ?_)
    have o10 := o8.keep s8 (by decide)
    refine WR.k rfl rfl rfl (OS.sliceAF (E := E5) (l := 0) (h := 64) rfl Tryz.underlying122 Tryz.sizeOf5 rfl o10 (List.length_replicate (n := 64) (a := (0 : UInt8))) Bd.none Bd.none (by decide) (by decide) ?_); intro v_4 y1 z2 fu1
    rw [List.drop_zero, List.take_of_length_le (by rw [(List.length_replicate (n := 64) (a := (0 : UInt8)))]; decide)] at y1
    replace z2 := z2 (by decide)
    replace fu1 := fu1 rfl
    refine WR.k rfl rfl rfl (OS.move (v := v_2) rfl h ?_)
    have o11 := o4.keep (s7.t s8) (by decide)
    obtain ⟨xs, hxs, hp⟩ := bind_some hp
    replace hxs := (Option.some.inj hxs).symm
    refine WR.k rfl rfl rfl (OS.copyArr (E := E5) rfl Tryz.underlying25 Tryz.sizeOf5 rfl rfl rfl o10 z2 o11 (by rw [(List.length_replicate (n := 64) (a := (0 : UInt8)))]; decide) ?_); intro w_7 o12 s9
    replace o12 : Arr E5 19 w_7 c_6 p_2 xs := by rw [hxs]; exact o12
    have hl2 : xs.length = 64 := (by rw [hxs]; have h1 := (List.length_replicate (n := 64) (a := (0 : UInt8))); simp only [List.length_append, List.length_take, List.length_drop]; omega)
    refine WR.nil ?_
    refine WC.seq (WC.region ?_)
    refine WR.k rfl rfl rfl (OS.ldN rfl Tryz.isAgg122 Tryz.sizeOf122 rfl o12.ldAll (by rw [fl_length, hl2]; rfl) ?_)
    have o13 := o9.keep s9 (by decide)
    refine WR.k0 rfl rfl (OS.stArrAll rfl Tryz.sizeOf122 rfl rfl o13 (by rw [fl_length, hl2]; rfl) (Eq.trans (List.length_replicate (n := 64) (a := (0 : UInt8))) (Eq.symm hl2)) ?_); intro w_8 o14 s10
    have hl3 : xs.length = 64 := hl2
    refine WR.nil ?_
    refine WC.seq ?_
    refine WC.seq (WC.region ?_)
    refine WR.k rfl rfl rfl (OS.move (v := vI (0 : Int)) rfl rfl ?_)
    refine WR.nil ?_
    obtain ⟨q, hl8, hp⟩ := bind_some hp
    obtain ⟨xs3, xs4⟩ := q; dsimp only at hp
    refine WC.blockJ2 (fun f_1 w_9 => ∃ (c_7 : Col), f_1 1 = v_1 ∧ f_1 4 = p_ ∧ f_1 6 = p_2 ∧ Arr E5 19 w_9 c_7 p_2 xs3 ∧ xs3.length = 64 ∧ f_1 7 = p_3 ∧ Arr E5 20 w_9 c_7 p_3 xs4 ∧ xs4.length = 64 ∧ St [19, 20] w_8 c_6 w_9 c_7) ?_ ?_
    · have o19 := o12.keep s10 (by decide)
      refine WC.loop (fun n => fun f_2 w_10 => ∃ (xs1 : List UInt8) (xs2 : List UInt8) (x20 : Int) (c_8 : Col), hash_Tag.l1 n xs1 xs2 x20 = some (xs3, xs4) ∧ f_2 1 = v_1 ∧ f_2 4 = p_ ∧ f_2 6 = p_2 ∧ Arr E5 19 w_10 c_8 p_2 xs1 ∧ xs1.length = 64 ∧ f_2 7 = p_3 ∧ Arr E5 20 w_10 c_8 p_3 xs2 ∧ xs2.length = 64 ∧ f_2 20 = vI x20 ∧ St [19, 20] w_8 c_6 w_10 c_8) K ⟨_, _, _, _, hl8, h1, h2, rfl, o19, hl2, rfl, o14, hl3, rfl, St.refl.mono (by decide)⟩ ?_
      rintro n f_2 w_10 ⟨xs1, xs2, x20, c_8, hl8, h3, h4, h5, o15, hl4, h6, o16, hl5, h7, s11⟩
      cases n with
      | zero => exact absurd hl8 (by simp [hash_Tag.l1])
      | succ k =>
      rw [hash_Tag.l1] at hl8
      refine WC.seq (WC.region ?_)
      refine WR.k rfl rfl rfl (OS.bin (a := vI x20) (b := vI (64 : Int)) rfl h7 rfl bI_lss ?_)
      refine WR.nil ?_
      refine WC.seq ?_
      refine WC.cond (decide (x20 < (64 : Int))) rfl (fun hb1 => ?_) (fun hb1 => ?_)
      · rw [if_pos hb1] at hl8
        refine WC.skip ?_
        refine WC.seq ?_
        refine WC.block ?_
        refine WC.seq (WC.region ?_)
        refine WR.k rfl rfl rfl (OS.move (v := vI x20) rfl h7 ?_)
        refine WR.k rfl rfl rfl (OS.assign (v := vI x20) rfl rfl ?_)
        refine WR.nil ?_
        refine WC.seq (WC.region ?_)
        refine WR.k rfl rfl rfl (OS.move (v := vI x20) rfl rfl ?_)
        obtain ⟨e, he, hl8⟩ := bind_some hl8
        obtain ⟨ha, hb2, hc⟩ := gt_some he
        refine WR.k rfl rfl rfl (OS.idxArr rfl Tryz.runUnderlying122 Tryz.sizeOf5 h5 o15 rfl ha (by have := hb2; rw [hl4] at this; exact this) ?_); intro p_4 a1
        refine WR.k rfl rfl rfl (OS.ld1 (u := vU8 e) rfl Tryz.isAgg5 rfl (o15.ld a1 hc) ?_)
        refine WR.k rfl rfl rfl (OS.bin (a := vU8 e) (b := vU8 (54 : UInt8)) rfl rfl (by kernel_rfl) b8_xor ?_)
        obtain ⟨u, hu, hl8⟩ := bind_some hl8
        obtain ⟨ha1, hb3⟩ := req_some hu
        refine WR.k rfl rfl rfl (OS.idxArr rfl Tryz.runUnderlying122 Tryz.sizeOf5 h5 o15 rfl ha1 (by have := hb3; rw [hl4] at this; exact this) ?_); intro p_5 a2
        obtain ⟨xs5, hxs5, hl8⟩ := bind_some hl8
        replace hxs5 := (Option.some.inj hxs5).symm
        refine WR.k0 rfl rfl (OS.stArr (q := e ^^^ (54 : UInt8)) (u := vU8 (e ^^^ (54 : UInt8))) rfl Tryz.sizeOf5 rfl rfl o15 rfl a2 (by have h1 := (by have := hb3; rw [hl4] at this; exact this); rw [hl4]; omega) rfl ?_); intro w_11 o20 s12
        replace o20 : Arr E5 19 w_11 c_8 p_2 xs5 := by rw [hxs5]; exact o20
        have hl9 : xs5.length = 64 := (by rw [hxs5, List.length_set]; exact hl4)
        refine WR.nil ?_
        refine WC.region ?_
        refine WR.k rfl rfl rfl (OS.move (v := vI x20) rfl rfl ?_)
        have o21 := o16.keep s12 (by decide)
        obtain ⟨e1, he1, hl8⟩ := bind_some hl8
        obtain ⟨ha2, hb4, hc1⟩ := gt_some he1
        refine WR.k rfl rfl rfl (OS.idxArr rfl Tryz.runUnderlying122 Tryz.sizeOf5 h6 o21 rfl ha2 (by have := hb4; rw [hl5] at this; exact this) ?_); intro p_6 a3
        refine WR.k rfl rfl rfl (OS.ld1 (u := vU8 e1) rfl Tryz.isAgg5 rfl (o21.ld a3 hc1) ?_)
        refine WR.k rfl rfl rfl (OS.bin (a := vU8 e1) (b := vU8 (92 : UInt8)) rfl rfl (by kernel_rfl) b8_xor ?_)
        obtain ⟨u1, hu1, hl8⟩ := bind_some hl8
        obtain ⟨ha3, hb5⟩ := req_some hu1
        refine WR.k rfl rfl rfl (OS.idxArr rfl Tryz.runUnderlying122 Tryz.sizeOf5 h6 o21 rfl ha3 (by have := hb5; rw [hl5] at this; exact this) ?_); intro p_7 a4
        obtain ⟨xs6, hxs6, hl8⟩ := bind_some hl8
        replace hxs6 := (Option.some.inj hxs6).symm
        refine WR.k0 rfl rfl (OS.stArr (q := e1 ^^^ (92 : UInt8)) (u := vU8 (e1 ^^^ (92 : UInt8))) rfl Tryz.sizeOf5 rfl rfl o21 rfl a4 (by have h1 := (by have := hb5; rw [hl5] at this; exact this); rw [hl5]; omega) rfl ?_); intro w_12 o22 s13
        replace o22 : Arr E5 20 w_12 c_8 p_3 xs6 := by rw [hxs6]; exact o22
        have hl10 : xs6.length = 64 := (by rw [hxs6, List.length_set]; exact hl5)
        refine WR.nil ?_
        refine WC.region ?_
        refine WR.k rfl rfl rfl (OS.bin (a := vI x20) (b := vI (1 : Int)) rfl h7 rfl bI_add ?_)
        refine WR.k rfl rfl rfl (OS.move (v := vI (W (x20 + (1 : Int)))) rfl rfl ?_)
        refine WR.nil ?_
        have o23 := o20.keep s13 (by decide)
        exact ⟨k, by omega, _, _, _, _, hl8, h3, h4, h5, o23, hl9, h6, o22, hl10, rfl, ((s11.t s12).t s13).mono (by decide)⟩
      · rw [if_neg (nt hb1)] at hl8
        refine WC.exit ?_
        cases hl8
        exact ⟨_, h3, h4, h5, o15, hl4, h6, o16, hl5, s11.mono (by decide)⟩
    · rintro f_1 w_9 ⟨c_7, h8, h9, h10, o17, hl6, h11, o18, hl7, s14⟩
      refine WC.seq (WC.region ?_)
      refine WR.k rfl rfl rfl (OS.sliceAF (E := E5) (l := 0) (h := 64) rfl Tryz.underlying122 Tryz.sizeOf5 h10 o17 hl6 Bd.none Bd.none (by decide) (by decide) ?_); intro v_5 y2 z3 fu2
      rw [List.drop_zero, List.take_of_length_le (by rw [hl6]; decide)] at y2
      replace z3 := z3 (by decide)
      replace fu2 := fu2 rfl
      refine WR.k rfl rfl rfl (OS.move (v := v_1) rfl h8 ?_)
      have o24 := o1.keep ((((((s.t s6).t s7).t s8).t s9).t s10).t s14) (by decide)
      obtain ⟨xs7, hxs7, hp⟩ := bind_some hp
      obtain ⟨ha4, hxs7⟩ := app_some hxs7
      refine WR.k rfl rfl rfl (OS.appendFull (E := E5) (c := c_7) (xs := xs3) (ys := b) rfl Tryz.underlying25 Tryz.underlying25 (.inl rfl) I5 rfl rfl rfl rfl rfl y2 fu2 o24.src (lim_bytes (by decide) ha4) (lim_max (b := 1) (by decide) ha4) ?_); intro v_6 w_13 c_9 o25 s15
      replace o25 : Vw E5 19 w_13 c_9 v_6 xs7 := by rw [hxs7]; exact o25
      obtain ⟨r_1, hr_1, hp⟩ := bind_some hp
      refine WR.k rfl rfl rfl (OS.callF (vs := [v_6]) rfl ⟨rfl, trivial⟩ Tryz.call86 ((W86 K w_13 hr_1 o25.forget).mono ?_))
      rintro _ w_14 ⟨d1, rfl, s16, hl11⟩
      refine ⟨_, rfl, ?_⟩
      obtain ⟨c_10, s17⟩ : ∃ c_10, St [] w_13 c_9 w_14 c_10 := ⟨_, s16.merge (fun x => x + 23)⟩
      refine WR.k rfl rfl rfl (OS.allocArr (E := E5) (xs := (List.replicate 32 (0 : UInt8))) (c := c_10) 26 rfl Tryz.zeroValue23 (by kernel_rfl) ?_); intro p_8 w_15 c_11 o26 s18
      refine WR.k0 rfl rfl (OS.stArrAll rfl Tryz.sizeOf23 rfl rfl o26 (by rw [fl_length, hl11]; rfl) (Eq.trans (List.length_replicate (n := 32) (a := (0 : UInt8))) (Eq.symm hl11)) ?_); intro w_16 o27 s19
      have hl12 : r_1.length = 32 := hl11
      refine WR.nil ?_
      have o28 := o18.keep (((s15.t s17).t s18).t s19) (by decide)
      refine WC.seq (WC.draw (c := c_11) ⟨2, [[20], [26]], [[], []], [], [[], []], [0, 1]⟩ [fun v w c => Vw E5 20 w c v xs4 ∧ SlP p_3 0 64 1 v ∧ Full v, fun v w c => Vw E5 26 w c v r_1 ∧ SlP p_8 0 32 1 v ∧ Full v] hmix (by kernel_rfl) (by kernel_rfl) ⟨?_, ?_, trivial⟩ ⟨fun _ _ _ _ _ _ ⟨y, z0, z1⟩ s hk => ⟨y.keep s (hk _ (by simp)), z0, z1⟩, fun _ _ _ _ _ _ ⟨y, z0, z1⟩ s hk => ⟨y.keep s (hk _ (by simp)), z0, z1⟩, trivial⟩ ?_)
      · rintro f_3 w_17 c_12 hB hs1 ⟨-⟩ o ho; obtain rfl : _ = o := Option.some.inj ho
        have o29 := o18.keep ((((s15.t s17).t s18).t s19).t hs1) (by decide)
        refine OS.sliceAF (E := E5) (l := 0) (h := 64) rfl Tryz.underlying122 Tryz.sizeOf5 ((hB 7 (by kernel_rfl)).trans h11) o29 hl7 Bd.none Bd.none (by decide) (by decide) ?_
        intro v y z fu
        rw [List.drop_zero, List.take_of_length_le (by rw [hl7]; decide)] at y
        exact ⟨_, St.refl, y, z (by decide), fu rfl⟩
      · rintro f_4 w_18 c_13 hB1 hs2 ⟨-⟩ o ho; obtain rfl : _ = o := Option.some.inj ho
        have o30 := o27.keep hs2 (by decide)
        refine OS.sliceAF (E := E5) (l := 0) (h := 32) rfl Tryz.underlying23 Tryz.sizeOf5 ((hB1 9 (by kernel_rfl)).trans rfl) o30 hl12 Bd.none Bd.none (by decide) (by decide) ?_
        intro v y z fu
        rw [List.drop_zero, List.take_of_length_le (by rw [hl12]; decide)] at y
        exact ⟨_, St.refl, y, z (by decide), fu rfl⟩
      · rintro f_5 w_19 c_14 hB2 hs3 ⟨g, g1, -⟩
        have h12 := (hB2 4 (by kernel_rfl)).trans h9
        replace g : Vw E5 20 w_19 c_14 (f_5 38) xs4 ∧ SlP p_3 0 64 1 (f_5 38) ∧ Full (f_5 38) := g
        replace g1 : Vw E5 26 w_19 c_14 (f_5 39) r_1 ∧ SlP p_8 0 32 1 (f_5 39) ∧ Full (f_5 39) := g1
        obtain ⟨xs8, hxs8, hp⟩ := bind_some hp
        obtain ⟨ha5, hxs8⟩ := app_some hxs8
        refine WR.k rfl rfl rfl (OS.appendFull (E := E5) (c := c_14) (xs := xs4) (ys := r_1) rfl Tryz.underlying25 Tryz.underlying25 (.inl rfl) I5 rfl rfl rfl rfl rfl g.1 g.2.2 g1.1.src (lim_bytes (by decide) ha5) (lim_max (b := 1) (by decide) ha5) ?_); intro v_7 w_20 c_15 o31 s20
        replace o31 : Vw E5 20 w_20 c_15 v_7 xs8 := by rw [hxs8]; exact o31
        obtain ⟨r_2, hr_2, hp⟩ := bind_some hp
        refine WR.k rfl rfl rfl (OS.callF (vs := [v_7]) rfl ⟨rfl, trivial⟩ Tryz.call86 ((W86 K w_20 hr_2 o31.forget).mono ?_))
        rintro _ w_21 ⟨d2, rfl, s21, hl13⟩
        refine ⟨_, rfl, ?_⟩
        obtain ⟨c_16, s22⟩ : ∃ c_16, St [] w_20 c_15 w_21 c_16 := ⟨_, s21.merge (fun x => x + 26)⟩
        have o32 := o2.keep ((((((((((((s6.t s7).t s8).t s9).t s10).t s14).t s15).t s17).t s18).t s19).t hs3).t s20).t s22) (by decide)
        refine WR.k0 rfl rfl (OS.stArrAll rfl Tryz.sizeOf23 h12 rfl o32 (by rw [fl_length, hl13]; rfl) (Eq.trans (List.length_replicate (n := 32) (a := (0 : UInt8))) (Eq.symm hl13)) ?_); intro w_22 o33 s23
        have hl14 : r_2.length = 32 := hl13
        refine WR.nil ?_
        refine WC.ret ?_
        repeat first | refine thenQ_ret ?_ | refine blkQ_ret ?_
        cases hp
        exact fnQ.l1 (fn := Tryz.f59) rfl (.inr ⟨_, _, _, _, rfl, ⟨_, h12, Tryz.isAgg23, Tryz.sizeOf23, o33.ldAll, (by rw [fl_length, hl14]; rfl)⟩, rfl⟩) ⟨_, rfl, ((((((((((((((s.t s6).t s7).t s8).t s9).t s10).t s14).t s15).t s17).t s18).t s19).t hs3).t s20).t s22).t s23).entry (by decide), hl14⟩

-- holdfast/seal.tagOf
set_option maxHeartbeats 4000000 in
theorem W62 (K : Nat) (w0 : World) {key : List UInt8} {body : List UInt8} {r : (List UInt8)} (hp : seal_tagOf K key body = some r) (hl : key.length = 32) {v_ : Value} (o : Vw E5 0 w0 c0 v_ body) :
    Calls Tryz.prog 62 [.agg (fl E5 key).toArray, v_].toArray w0 fun e w1 => ∃ (d : Col), e = .returned (.agg (fl E5 r).toArray) ∧ St [] w0 c0 w1 d ∧ r.length = 16 := by
  refine calls_intro Tryz.func62 rfl Tryz.ntmps62 rfl ?_
  unfold seal_tagOf at hp
  refine WC.seq (WC.region ?_)
  refine WR.k rfl rfl rfl (OS.boxArr (E := E5) (c := c0) 12 rfl rfl ?_); intro p_ w_ c_ o1 s
  refine WR.k rfl rfl rfl (OS.allocArr (E := E5) (xs := (List.replicate 16 (0 : UInt8))) (c := c_) 13 rfl Tryz.zeroValue101 (by kernel_rfl) ?_); intro p_1 w_1 c_1 o2 s1
  refine WR.nil ?_
  have o3 := o1.keep s1 (by decide)
  obtain ⟨l1, hl1, hp⟩ := bind_some hp
  replace hl1 := (Option.some.inj hl1).symm
  have o4 := o.keep (s.t s1) (by decide)
  obtain ⟨l2, hl2, hp⟩ := bind_some hp
  obtain ⟨ha, hl2⟩ := app_some hl2
  obtain ⟨r_, hr_, hp⟩ := bind_some hp
  refine WC.seq (WC.draw (c := c_1) ⟨6, [[12], [14], [1], [14], [1], [15]], [[], [], [], [14], [], []], [14], [[], [], [], [1, 2], [0, 3], []], [4, 5]⟩ [fun v w c => Vw E5 12 w c v key ∧ SlP p_ 0 32 1 v ∧ Full v, fun v w c => Ow E5 14 w c v l1, fun v w c => v = v_, fun v w c => Ow E5 14 w c v l2, fun v w c => v = .agg (fl E5 r_).toArray ∧ r_.length = 32, fun v w c => Arr E5 15 w c v (List.replicate 32 (0 : UInt8))] hmix (by kernel_rfl) (by kernel_rfl) ⟨?_, ?_, ?_, ?_, ?_, ?_, trivial⟩ ⟨fun _ _ _ _ _ _ ⟨y, z0, z1⟩ s hk => ⟨y.keep s (hk _ (by simp)), z0, z1⟩, fun _ _ _ _ _ _ h s hk => Ow.keep h s (hk _ (by simp)), fun _ _ _ _ _ _ h _ _ => h, fun _ _ _ _ _ _ h s hk => Ow.keep h s (hk _ (by simp)), fun _ _ _ _ _ _ h _ _ => h, fun _ _ _ _ _ _ h s hk => Arr.keep h s (hk _ (by simp)), trivial⟩ ?_)
  · rintro f_ w_2 c_2 hB hs1 ⟨-⟩ o ho; obtain rfl : _ = o := Option.some.inj ho
    have o5 := o1.keep (s1.t hs1) (by decide)
    refine OS.sliceAF (E := E5) (l := 0) (h := 32) rfl Tryz.underlying23 Tryz.sizeOf5 ((hB 2 (by kernel_rfl)).trans rfl) o5 hl Bd.none Bd.none (by decide) (by decide) ?_
    intro v y z fu
    rw [List.drop_zero, List.take_of_length_le (by rw [hl]; decide)] at y
    exact ⟨_, St.refl, y, z (by decide), fu rfl⟩
  · rintro f_1 w_3 c_3 hB1 hs2 ⟨-⟩ o ho; obtain rfl : _ = o := Option.some.inj ho
    refine OS.bslice (E := E5) (c := c_3) 14 ([(116 : UInt8)] : List UInt8) [(0, vU8 (116 : UInt8))] rfl ⟨rfl, (by kernel_rfl), trivial⟩ (fun _ => by kernel_rfl) rfl (by decide) ?_
    intro v w c h s
    exact ⟨c, s, (show Ow E5 14 w c v l1 by rw [hl1]; exact h)⟩
  · rintro f_2 w_4 c_4 hB2 hs3 ⟨-⟩ o ho; obtain rfl : _ = o := Option.some.inj ho
    exact OS.move (v := v_) rfl ((hB2 1 (by kernel_rfl)).trans rfl) ⟨_, St.refl, rfl⟩
  · rintro f_3 w_5 c_5 hB3 hs4 ⟨g, g1, -⟩ o ho; obtain rfl : _ = o := Option.some.inj ho
    replace g : Ow E5 14 w_5 c_5 (f_3 7) l1 := g
    replace g1 : (f_3 8) = v_ := g1
    have o6 := o.keep ((s.t s1).t hs4) (by decide)
    refine OS.append (E := E5) (c := c_5) (i := 14) (xs := l1) (ys := body) rfl Tryz.underlying25 Tryz.underlying25 (.inl rfl) I5 rfl rfl rfl rfl g1 g o6.src (lim_bytes (by decide) ha) (lim_max (b := 1) (by decide) ha) ?_
    intro v w c h s
    exact ⟨c, s, (show Ow E5 14 w c v l2 by rw [hl2]; exact h)⟩
  · rintro f_4 w_6 c_6 hB4 hs5 ⟨g2, g3, -⟩ o ho; obtain rfl : _ = o := Option.some.inj ho
    replace g2 : Vw E5 12 w_6 c_6 (f_4 6) key ∧ SlP p_ 0 32 1 (f_4 6) ∧ Full (f_4 6) := g2
    replace g3 : Ow E5 14 w_6 c_6 (f_4 9) l2 := g3
    refine OS.callF (vs := [(f_4 6), (f_4 9)]) rfl ⟨rfl, rfl, trivial⟩ Tryz.call59 ((W59 K w_6 hr_ g2.1.forget g3.vw.forget).mono ?_)
    rintro _ w ⟨d, rfl, s, hl⟩
    exact ⟨_, rfl, _, s.merge id, rfl, hl⟩
  · rintro f_5 w_7 c_7 hB5 hs6 ⟨-⟩ o ho; obtain rfl : _ = o := Option.some.inj ho
    refine OS.allocArr (E := E5) (xs := (List.replicate 32 (0 : UInt8))) (c := c_7) 15 rfl Tryz.zeroValue23 (by kernel_rfl) ?_
    intro v w c h s
    exact ⟨c, s, (show Arr E5 15 w c v (List.replicate 32 (0 : UInt8)) by exact h)⟩
  · rintro f_6 w_8 c_8 hB6 hs7 ⟨g4, g5, -⟩
    have h := (hB6 4 (by kernel_rfl)).trans (show _ = p_1 from rfl)
    replace g4 : (f_6 10) = .agg (fl E5 r_).toArray ∧ r_.length = 32 := g4
    replace g5 : Arr E5 15 w_8 c_8 (f_6 5) (List.replicate 32 (0 : UInt8)) := g5
    refine WR.k0 rfl rfl (OS.stArrAll rfl Tryz.sizeOf23 rfl g4.1 g5 (by rw [fl_length, g4.2]; rfl) (Eq.trans (List.length_replicate (n := 32) (a := (0 : UInt8))) (Eq.symm g4.2)) ?_); intro w_9 o7 s2
    have hl3 : r_.length = 32 := g4.2
    refine WR.nil ?_
    refine WC.seq (WC.region ?_)
    refine WR.k rfl rfl rfl (OS.sliceAF (E := E5) (l := 0) (h := 16) rfl Tryz.underlying23 Tryz.sizeOf5 rfl o7 hl3 Bd.none (Bd.some (j := 16) rfl (by decide)) (by decide) (by decide) ?_); intro v_1 y1 z2 fu1
    replace z2 := z2 (by decide)
    obtain ⟨u, hu, hp⟩ := bind_some hp
    have hb := req_some hu
    refine WR.k rfl rfl rfl (OS.s2aC (E := E5) rfl Tryz.underlying101 rfl y1 hb (by decide) ?_); intro p_2 a1
    refine WR.k rfl rfl rfl (OS.ldN rfl Tryz.isAgg101 Tryz.sizeOf101 rfl a1.ld (by rw [fl_length, List.length_take]; have := hb; show min _ _ * 1 = _; omega) ?_)
    have o8 := o2.keep (hs7.t s2) (by decide)
    refine WR.k0 rfl rfl (OS.stArrAll rfl Tryz.sizeOf101 h rfl o8 (by rw [fl_length, (show (((r_.take 16).drop 0).take 16).length = 16 from by rw [List.length_take]; have := hb; omega)]; rfl) (Eq.trans (List.length_replicate (n := 16) (a := (0 : UInt8))) (Eq.symm (show (((r_.take 16).drop 0).take 16).length = 16 from by rw [List.length_take]; have := hb; omega))) ?_); intro w_10 o9 s3
    have hl4 : (((r_.take 16).drop 0).take 16).length = 16 := (show (((r_.take 16).drop 0).take 16).length = 16 from by rw [List.length_take]; have := hb; omega)
    refine WR.nil ?_
    refine WC.ret ?_
    repeat first | refine thenQ_ret ?_ | refine blkQ_ret ?_
    cases hp
    exact fnQ.l1 (fn := Tryz.f62) rfl (.inr ⟨_, _, _, _, rfl, ⟨_, h, Tryz.isAgg101, Tryz.sizeOf101, o9.ldAll, (by rw [fl_length, hl4]; rfl)⟩, rfl⟩) ⟨_, rfl, ((((s.t s1).t hs7).t s2).t s3).entry (by decide), hl4⟩

-- holdfast/seal.blocks
set_option maxHeartbeats 4000000 in
theorem W115 (K : Nat) (w0 : World) {key : List UInt8} {once : UInt64} {r : ((List UInt8) × UInt64)} (hp : seal_blocks K key once = some r) (hl : key.length = 32) :
    Calls Tryz.prog 115 [.agg (fl E5 key).toArray, vU64 once].toArray w0 fun e w1 => ∃ (v0 : Value) (v1 : Value) (d : Col), e = .returned (.func (.func 139) #[] [v0, v1].toArray) ∧ St [] w0 c0 w1 d ∧ Arr E5 2 w1 d v0 r.1 ∧ Bx 3 w1 d v1 [vU64 r.2] ∧ r.1.length = 32 := by
  refine calls_intro Tryz.func115 rfl Tryz.ntmps115 rfl ?_
  unfold seal_blocks at hp
  refine WC.seq (WC.region ?_)
  refine WR.k rfl rfl rfl (OS.boxArr (E := E5) (c := c0) 12 rfl rfl ?_); intro p_ w_ c_ o s
  refine WR.k rfl rfl rfl (OS.boxBx (us := [vU64 once]) (c := c_) 13 rfl rfl rfl ?_); intro p_1 w_1 c_1 o1 s1
  refine WR.k rfl rfl rfl (OS.assign (v := .nilFunc) rfl rfl ?_)
  refine WR.nil ?_
  refine WC.seq (WC.region ?_)
  refine WR.k rfl rfl rfl (OS.makeFunc (vs := [p_, p_1]) rfl ⟨rfl, rfl, trivial⟩ ?_)
  refine WR.k rfl rfl rfl (OS.assign (v := .func (.func 139) #[] [p_, p_1].toArray) rfl rfl ?_)
  refine WR.nil ?_
  refine WC.ret ?_
  repeat first | refine thenQ_ret ?_ | refine blkQ_ret ?_
  cases hp
  have o3 := o.keep s1 (by decide)
  obtain ⟨c_2, s2, o2⟩ := o3.recol 2
  have o5 := o1.keep s2 (by decide)
  obtain ⟨c_3, s3, o4⟩ := o5.recol 3
  have o6 := o2.keep s3 (by decide)
  exact fnQ.l1 (fn := Tryz.f115) rfl (.inl ⟨_, rfl, rfl⟩) ⟨_, _, _, rfl, (((s.t s1).t s2).t s3).entry (by decide), o6, o4, hl⟩
end Go.Proofs.YtjgbakieogadfabGreatDoor
