import Derived.Test.YtjgbakieogadfaaGreatDoorTypes
import Derived.Test.YtjgbakieogadfaaGreatDoorPure
namespace Go.Proofs.YtjgbakieogadfaaGreatDoor
open Go Go.Proofs L
set_option linter.unusedVariables false

-- (*holdfast/grant.Store).look
set_option maxHeartbeats 4000000 in
theorem W39n0 (K : Nat) (w0 : World) (cw : Col) (hcw : ∀ b, cw b < 40) {tenant : List UInt8} {client : List UInt8} {r : S_api_Client × Int} (hp : grant_Store_look_nil0 K tenant client = some r) :
    Calls Tryz.prog 39 [.pointer none, vS tenant, vS client].toArray w0 fun e w1 => ∃ (d : Col), e = .returned (.tuple #[.agg (E43.e r.1).toArray, vI r.2]) ∧ St [] w0 cw w1 d := by
  refine calls_intro Tryz.func39 rfl Tryz.ntmps39 rfl ?_
  unfold grant_Store_look_nil0 at hp
  refine WC.seq (WC.region ?_)
  refine WR.k rfl rfl rfl (OS.allocBx (us := [vS ([] : List UInt8), vS ([] : List UInt8), vS ([] : List UInt8), vU8 (0 : UInt8)]) (c := cw) 40 rfl Tryz.zeroValue43 rfl ?_); intro p_ w_ c_ o s1
  refine WR.k rfl rfl rfl (OS.assign (v := vI (0 : Int)) rfl rfl ?_)
  refine WR.nil ?_
  refine WC.seq ?_
  refine WC.seq (WC.region ?_)
  refine WR.k rfl rfl rfl (OS.move (v := .pointer none) rfl rfl ?_)
  refine WR.k rfl rfl rfl (OS.eqPtr (a := none) rfl (.inl ⟨rfl, rfl⟩) Tryz.underlying28 rfl rfl ?_)
  refine WR.nil ?_
  refine WC.condT rfl ?_
  refine WC.seq (WC.region ?_)
  refine WR.k rfl rfl rfl (OS.build (v := .agg (E43.e (⟨([] : List UInt8), ([] : List UInt8), ([] : List UInt8), (0 : UInt8)⟩ : S_api_Client)).toArray) [] rfl trivial (fun _ => by kernel_rfl) ?_)
  refine WR.k0 rfl rfl (OS.stBxAll (v := .agg (E43.e (⟨([] : List UInt8), ([] : List UInt8), ([] : List UInt8), (0 : UInt8)⟩ : S_api_Client)).toArray) (ws := [vS ([] : List UInt8), vS ([] : List UInt8), vS ([] : List UInt8), vU8 (0 : UInt8)]) rfl Tryz.sizeOf43 rfl rfl rfl o rfl rfl (one_of rfl) ?_); intro w_1 o1 s2
  refine WR.k rfl rfl rfl (OS.assign (v := vI (1 : Int)) rfl rfl ?_)
  refine WR.nil ?_
  refine WC.ret ?_
  repeat first | refine thenQ_ret ?_ | refine blkQ_ret ?_
  cases hp
  exact fnQ.ls (fn := Tryz.f39) (rs := [.cell 6 43, .tmp 7]) (vs := [.agg (E43.e (⟨([] : List UInt8), ([] : List UInt8), ([] : List UInt8), (0 : UInt8)⟩ : S_api_Client)).toArray, vI (1 : Int)]) rfl ⟨(.inr ⟨_, _, _, _, rfl, ⟨_, rfl, Tryz.isAgg43, Tryz.sizeOf43, o1.ldAll, rfl⟩, rfl⟩), (.inl ⟨_, rfl, rfl⟩), trivial⟩ ⟨_, rfl, (s1.t s2).leave hcw (by decide)⟩ (by simp)

-- (*holdfast/grant.Store).Narrow
set_option maxHeartbeats 4000000 in
theorem W12n0 (K : Nat) (w0 : World) (cw : Col) (hcw : ∀ b, cw b < 40) {tenant : List UInt8} {client : List UInt8} {scopes : UInt8} {r : UInt8 × Int} (hp : grant_Store_Narrow_nil0 K tenant client scopes = some r) :
    Calls Tryz.prog 12 [.pointer none, vS tenant, vS client, vU8 scopes].toArray w0 fun e w1 => ∃ (d : Col), e = .returned (.tuple #[vU8 r.1, vI r.2]) ∧ St [] w0 cw w1 d := by
  refine calls_intro Tryz.func12 rfl Tryz.ntmps12 rfl ?_
  unfold grant_Store_Narrow_nil0 at hp
  refine WC.seq (WC.region ?_)
  refine WR.k rfl rfl rfl (OS.assign (v := vU8 (0 : UInt8)) rfl (by kernel_rfl) ?_)
  refine WR.k rfl rfl rfl (OS.assign (v := vI (0 : Int)) rfl rfl ?_)
  refine WR.nil ?_
  refine WC.seq (WC.region ?_)
  refine WR.k rfl rfl rfl (OS.move (v := .pointer none) rfl rfl ?_)
  refine WR.k rfl rfl rfl (OS.move (v := vS tenant) rfl rfl ?_)
  refine WR.k rfl rfl rfl (OS.move (v := vS client) rfl rfl ?_)
  obtain ⟨r_, hr_, hp⟩ := bind_some hp
  refine WR.k rfl rfl rfl (OS.callF (vs := [.pointer none, vS tenant, vS client]) rfl ⟨rfl, rfl, rfl, trivial⟩ Tryz.call39 ((W39n0 K w0 (rcc [] cw) (rcc_lt cw rfl) hr_).mono ?_))
  rintro _ w_ ⟨d1, rfl, s1⟩
  refine ⟨_, rfl, ?_⟩
  obtain ⟨c_, s2⟩ : ∃ c_, St [] w0 cw w_ c_ := ⟨_, s1.mg2 (sh := 10000) rfl⟩
  refine WR.k rfl rfl rfl (OS.move (v := .tuple #[.agg (E43.e r_.1).toArray, vI r_.2]) rfl rfl ?_)
  refine WR.k rfl rfl rfl (OS.extract (v := .agg (E43.e r_.1).toArray) rfl rfl rfl ?_)
  refine WR.k rfl rfl rfl (OS.extract (v := vI r_.2) rfl rfl rfl ?_)
  refine WR.k rfl rfl rfl (OS.allocBx (us := [vS ([] : List UInt8), vS ([] : List UInt8), vS ([] : List UInt8), vU8 (0 : UInt8)]) (c := c_) 40 rfl Tryz.zeroValue43 rfl ?_); intro p_ w_1 c_1 o s3
  refine WR.k0 rfl rfl (OS.stBxAll (v := .agg (E43.e r_.1).toArray) (ws := [vS r_.1.Tenant, vS r_.1.Name, vS r_.1.Redirect, vU8 r_.1.Scopes]) rfl Tryz.sizeOf43 rfl rfl rfl o rfl rfl (one_of rfl) ?_); intro w_2 o1 s4
  refine WR.k rfl rfl rfl (OS.assign (v := vI r_.2) rfl rfl ?_)
  refine WR.nil ?_
  refine WC.seq ?_
  refine WC.seq (WC.region ?_)
  refine WR.k rfl rfl rfl (OS.move (v := vI r_.2) rfl rfl ?_)
  refine WR.k rfl rfl rfl (OS.bin (a := vI r_.2) (b := vI (0 : Int)) rfl rfl rfl bI_neq ?_)
  refine WR.nil ?_
  refine WC.cond (!decide (r_.2 = (0 : Int))) rfl (fun hb => ?_) (fun hb => ?_)
  · rw [if_pos hb] at hp
    refine WC.seq (WC.region ?_)
    refine WR.k rfl rfl rfl (OS.move (v := vI r_.2) rfl rfl ?_)
    refine WR.k rfl rfl rfl (OS.assign (v := vU8 (0 : UInt8)) rfl (by kernel_rfl) ?_)
    refine WR.k rfl rfl rfl (OS.assign (v := vI r_.2) rfl rfl ?_)
    refine WR.nil ?_
    refine WC.ret ?_
    repeat first | refine thenQ_ret ?_ | refine blkQ_ret ?_
    cases hp
    exact fnQ.ls (fn := Tryz.f12) (rs := [.tmp 8, .tmp 9]) (vs := [vU8 (0 : UInt8), vI r_.2]) rfl ⟨(.inl ⟨_, rfl, rfl⟩), (.inl ⟨_, rfl, rfl⟩), trivial⟩ ⟨_, rfl, ((s2.t s3).t s4).leave hcw (by decide)⟩ (by simp)
  · rw [if_neg (nt hb)] at hp
    cases hp

-- (*holdfast/grant.Store).Client
set_option maxHeartbeats 4000000 in
theorem W18n0 (K : Nat) (w0 : World) (cw : Col) (hcw : ∀ b, cw b < 40) {tenant : List UInt8} {client : List UInt8} {r : S_api_Client × Int} (hp : grant_Store_Client_nil0 K tenant client = some r) :
    Calls Tryz.prog 18 [.pointer none, vS tenant, vS client].toArray w0 fun e w1 => ∃ (d : Col), e = .returned (.tuple #[.agg (E43.e r.1).toArray, vI r.2]) ∧ St [] w0 cw w1 d := by
  refine calls_intro Tryz.func18 rfl Tryz.ntmps18 rfl ?_
  unfold grant_Store_Client_nil0 at hp
  refine WC.seq (WC.region ?_)
  refine WR.k rfl rfl rfl (OS.allocBx (us := [vS ([] : List UInt8), vS ([] : List UInt8), vS ([] : List UInt8), vU8 (0 : UInt8)]) (c := cw) 40 rfl Tryz.zeroValue43 rfl ?_); intro p_ w_ c_ o s1
  refine WR.k rfl rfl rfl (OS.assign (v := vI (0 : Int)) rfl rfl ?_)
  refine WR.nil ?_
  refine WC.seq (WC.region ?_)
  refine WR.k rfl rfl rfl (OS.move (v := .pointer none) rfl rfl ?_)
  refine WR.k rfl rfl rfl (OS.move (v := vS tenant) rfl rfl ?_)
  refine WR.k rfl rfl rfl (OS.move (v := vS client) rfl rfl ?_)
  obtain ⟨r_, hr_, hp⟩ := bind_some hp
  refine WR.k rfl rfl rfl (OS.callF (vs := [.pointer none, vS tenant, vS client]) rfl ⟨rfl, rfl, rfl, trivial⟩ Tryz.call39 ((W39n0 K w_ (rcc [] c_) (rcc_lt c_ rfl) hr_).mono ?_))
  rintro _ w_1 ⟨d1, rfl, s2⟩
  refine ⟨_, rfl, ?_⟩
  obtain ⟨c_1, s3⟩ : ∃ c_1, St [] w_ c_ w_1 c_1 := ⟨_, s2.mg2 (sh := 10000) rfl⟩
  refine WR.k rfl rfl rfl (OS.extract (v := .agg (E43.e r_.1).toArray) rfl rfl rfl ?_)
  refine WR.k rfl rfl rfl (OS.extract (v := vI r_.2) rfl rfl rfl ?_)
  have o1 := o.keep s3 (by decide)
  refine WR.k0 rfl rfl (OS.stBxAll (v := .agg (E43.e r_.1).toArray) (ws := [vS r_.1.Tenant, vS r_.1.Name, vS r_.1.Redirect, vU8 r_.1.Scopes]) rfl Tryz.sizeOf43 rfl rfl rfl o1 rfl rfl (one_of rfl) ?_); intro w_2 o2 s4
  refine WR.k rfl rfl rfl (OS.assign (v := vI r_.2) rfl rfl ?_)
  refine WR.nil ?_
  refine WC.ret ?_
  repeat first | refine thenQ_ret ?_ | refine blkQ_ret ?_
  cases hp
  exact fnQ.ls (fn := Tryz.f18) (rs := [.cell 6 43, .tmp 7]) (vs := [.agg (E43.e r_.1).toArray, vI r_.2]) rfl ⟨(.inr ⟨_, _, _, _, rfl, ⟨_, rfl, Tryz.isAgg43, Tryz.sizeOf43, o2.ldAll, rfl⟩, rfl⟩), (.inl ⟨_, rfl, rfl⟩), trivial⟩ ⟨_, rfl, ((s1.t s3).t s4).leave hcw (by decide)⟩ (by simp)

-- (*holdfast/grant.Store).Consent
set_option maxHeartbeats 4000000 in
theorem W19n0 (K : Nat) (w0 : World) (cw : Col) (hcw : ∀ b, cw b < 40) {o : S_api_Owner} {client : List UInt8} {r : S_api_Consent × Int} (hp : grant_Store_Consent_nil0 K o client = some r) :
    Calls Tryz.prog 19 [.pointer none, .agg (E24.e o).toArray, vS client].toArray w0 fun e w1 => ∃ (d : Col), e = .returned (.tuple #[.agg (E47.e r.1).toArray, vI r.2]) ∧ St [] w0 cw w1 d := by
  refine calls_intro Tryz.func19 rfl Tryz.ntmps19 rfl ?_
  unfold grant_Store_Consent_nil0 at hp
  refine WC.seq (WC.region ?_)
  refine WR.k rfl rfl rfl (OS.boxBx (us := [vS o.Tenant, vS o.User]) (c := cw) 40 rfl rfl rfl ?_); intro p_ w_ c_ o1 s1
  refine WR.k rfl rfl rfl (OS.allocBx (us := [vS ([] : List UInt8), vS ([] : List UInt8), vS ([] : List UInt8), vU8 (0 : UInt8)]) (c := c_) 41 rfl Tryz.zeroValue47 rfl ?_); intro p_1 w_1 c_1 o2 s2
  refine WR.k rfl rfl rfl (OS.assign (v := vI (0 : Int)) rfl rfl ?_)
  refine WR.nil ?_
  refine WC.seq ?_
  refine WC.seq (WC.region ?_)
  refine WR.k rfl rfl rfl (OS.move (v := .pointer none) rfl rfl ?_)
  refine WR.k rfl rfl rfl (OS.eqPtr (a := none) rfl (.inl ⟨rfl, rfl⟩) Tryz.underlying28 rfl rfl ?_)
  refine WR.nil ?_
  refine WC.condT rfl ?_
  refine WC.seq (WC.region ?_)
  refine WR.k rfl rfl rfl (OS.build (v := .agg (E47.e (⟨(⟨([] : List UInt8), ([] : List UInt8)⟩ : S_api_Owner), ([] : List UInt8), (0 : UInt8)⟩ : S_api_Consent)).toArray) [] rfl trivial (fun _ => by kernel_rfl) ?_)
  refine WR.k0 rfl rfl (OS.stBxAll (v := .agg (E47.e (⟨(⟨([] : List UInt8), ([] : List UInt8)⟩ : S_api_Owner), ([] : List UInt8), (0 : UInt8)⟩ : S_api_Consent)).toArray) (ws := [vS ([] : List UInt8), vS ([] : List UInt8), vS ([] : List UInt8), vU8 (0 : UInt8)]) rfl Tryz.sizeOf47 rfl rfl rfl o2 rfl rfl (one_of rfl) ?_); intro w_2 o3 s3
  refine WR.k rfl rfl rfl (OS.assign (v := vI (1 : Int)) rfl rfl ?_)
  refine WR.nil ?_
  refine WC.ret ?_
  repeat first | refine thenQ_ret ?_ | refine blkQ_ret ?_
  cases hp
  exact fnQ.ls (fn := Tryz.f19) (rs := [.cell 6 47, .tmp 7]) (vs := [.agg (E47.e (⟨(⟨([] : List UInt8), ([] : List UInt8)⟩ : S_api_Owner), ([] : List UInt8), (0 : UInt8)⟩ : S_api_Consent)).toArray, vI (1 : Int)]) rfl ⟨(.inr ⟨_, _, _, _, rfl, ⟨_, rfl, Tryz.isAgg47, Tryz.sizeOf47, o3.ldAll, rfl⟩, rfl⟩), (.inl ⟨_, rfl, rfl⟩), trivial⟩ ⟨_, rfl, ((s1.t s2).t s3).leave hcw (by decide)⟩ (by simp)

-- holdfast/grant.New
set_option maxHeartbeats 4000000 in
theorem W7 (K : Nat) (w0 : World) (cw : Col) (hcw : ∀ b, cw b < 40) {r : S_grant_Store} (hp : grant_New K = some r) :
    Calls Tryz.prog 7 [].toArray w0 fun e w1 => ∃ (p_1 : Value) (b2 : Nat) (b3 : Nat) (d : Col), e = .returned (p_1) ∧ St [] w0 cw w1 d ∧ Bx 2000 w1 d p_1 [(.map (some b2)), (.map (some b3))] ∧ Mp kv74 (VR.flat vv43) 2001 w1 d (.map (some b2)) r.clients ∧ Mp kv77 (VR.flat vv25) 2002 w1 d (.map (some b3)) r.consents := by
  refine calls_intro Tryz.func7 rfl Tryz.ntmps7 rfl ?_
  unfold grant_New at hp
  refine WC.seq (WC.region ?_)
  refine WR.k rfl rfl rfl (OS.assign (v := .pointer none) rfl rfl ?_)
  refine WR.nil ?_
  refine WC.seq (WC.region ?_)
  refine WR.k rfl rfl rfl (OS.makeMap (kv := kv74) (V := (VR.flat vv43)) (c := cw) 40 rfl ?_); intro v_ w_ c_ o s
  obtain ⟨b, rfl⟩ := o.isMap
  refine WR.k rfl rfl rfl (OS.makeMap (kv := kv77) (V := (VR.flat vv25)) (c := c_) 41 rfl ?_); intro v_1 w_1 c_1 o1 s1
  obtain ⟨b1, rfl⟩ := o1.isMap
  refine WR.k rfl rfl rfl (OS.build (v := .agg ([(.map (some b)), (.map (some b1))]).toArray) [(0, (.map (some b))), (1, (.map (some b1)))] rfl ⟨rfl, rfl, rfl, rfl, trivial⟩ (fun _ => by kernel_rfl) ?_)
  refine WR.k rfl rfl rfl (OS.boxBx (us := [(.map (some b)), (.map (some b1))]) (c := c_1) 42 rfl rfl rfl ?_); intro p_ w_2 c_2 o2 s2
  refine WR.k rfl rfl rfl (OS.assign (v := p_) rfl rfl ?_)
  refine WR.nil ?_
  refine WC.ret ?_
  repeat first | refine thenQ_ret ?_ | refine blkQ_ret ?_
  cases hp
  obtain ⟨c_3, s3, o3⟩ := o2.recol 2000
  have o5 := o.keep ((s1.t s2).t s3) (by decide) (by decide)
  obtain ⟨c_4, s4, o4⟩ := o5.recol 2001
  have o7 := o1.keep ((s2.t s3).t s4) (by decide) (by decide)
  obtain ⟨c_5, s5, o6⟩ := o7.recol 2002
  have o8 := o3.keep (s4.t s5) (by decide)
  have o9 := o4.keep s5 (by decide) (by decide)
  exact fnQ.l1 (fn := Tryz.f7) rfl (.inl ⟨_, rfl, rfl⟩) ⟨_, _, _, _, rfl, (((((s.t s1).t s2).t s3).t s4).t s5).leave hcw (by decide), o8, o9, o6⟩

-- strings.Trim
theorem W74 (K : Nat) (w0 : World) (cw : Col) (hcw : ∀ b, cw b < 40) {s cut : List UInt8} {r : List UInt8} (hp : strings_Trim K s cut = some r) :
    Calls Tryz.prog 74 [vS s, vS cut].toArray w0 fun e w1 => ∃ (d : Col), e = .returned (vS r) ∧ St [] w0 cw w1 d := by
  unfold strings_Trim at hp
  split at hp
  · rename_i h; obtain ⟨h1, h2, h3⟩ := h
    cases hp
    refine (Any.strings_Trim_laid Tryz.lays74 (by kernel_rfl) ⟨s.toArray⟩ ⟨cut.toArray⟩ w0 h2 h3 (ascii_of_all h1)).mono ?_
    rintro e w1 ⟨he, hb⟩
    exact ⟨cw, he, St.of_below hb⟩
  · cases hp

-- holdfast/codec.IsName
set_option maxHeartbeats 4000000 in
theorem W51 (K : Nat) (w0 : World) (cw : Col) (hcw : ∀ b, cw b < 40) {s : List UInt8} {r : Bool} (hp : codec_IsName K s = some r) :
    Calls Tryz.prog 51 [vS s].toArray w0 fun e w1 => ∃ (d : Col), e = .returned (vB r) ∧ St [] w0 cw w1 d := by
  refine calls_intro Tryz.func51 rfl Tryz.ntmps51 rfl ?_
  unfold codec_IsName at hp
  refine WC.seq (WC.region ?_)
  refine WR.k rfl rfl rfl (OS.assign (v := vB false) rfl rfl ?_)
  refine WR.nil ?_
  refine WC.seq (WC.region ?_)
  refine WR.k rfl rfl rfl (OS.move (v := vS s) rfl rfl ?_)
  refine WR.k rfl rfl rfl (OS.bin (a := vS s) (b := vS ([] : List UInt8)) rfl rfl rfl bS_neq ?_)
  refine WR.k rfl rfl rfl (OS.move (v := vB (!decide (s = ([] : List UInt8)))) rfl rfl ?_)
  refine WR.cut2 4 (fun f_ w_ => f_ 0 = vS s ∧ f_ 9 = vB ((!decide (s = ([] : List UInt8))) && (decide ((s.length : Int) ≤ (9 : Int)))) ∧ w0 = w_) ?_ ?_
  · rcases Bool.eq_false_or_eq_true (!decide (s = ([] : List UInt8))) with hg | hg
    · refine WR.kT rfl rfl (vb_t rfl hg) rfl rfl (OS.move (v := vS s) rfl rfl ?_)
      refine WR.kT rfl rfl (vb_t rfl hg) rfl rfl (OS.lenS rfl Tryz.runUnderlying9 rfl ?_)
      refine WR.kT rfl rfl (vb_t rfl hg) rfl rfl (OS.bin (a := vI (s.length : Int)) (b := vI (9 : Int)) rfl rfl rfl bI_leq ?_)
      refine WR.k rfl rfl rfl (OS.pickT rfl (vb_t rfl hg) rfl ?_)
      refine WR.nil ?_
      exact ⟨rfl, (and_t hg), rfl⟩
    · refine WR.gF rfl rfl (vb_f rfl hg) rfl rfl ?_
      refine WR.gF rfl rfl (vb_f rfl hg) rfl rfl ?_
      refine WR.gF rfl rfl (vb_f rfl hg) rfl rfl ?_
      refine WR.k rfl rfl rfl (OS.pickF rfl (vb_f rfl hg) rfl ?_)
      refine WR.nil ?_
      exact ⟨rfl, (and_f hg), rfl⟩
  · rintro f_ _ ⟨h, h1, rfl⟩
    refine WR.k rfl rfl rfl (OS.move (v := vB ((!decide (s = ([] : List UInt8))) && (decide ((s.length : Int) ≤ (9 : Int))))) rfl h1 ?_)
    obtain ⟨b, ht, hp⟩ := bind_some hp
    refine WR.cut2 4 (fun f_1 w_1 => ∃ (c_1 : Col), f_1 14 = vB b ∧ St [] w0 cw w_1 c_1) ?_ ?_
    · rcases Bool.eq_false_or_eq_true ((!decide (s = ([] : List UInt8))) && (decide ((s.length : Int) ≤ (9 : Int)))) with hg1 | hg1
      · rw [if_pos hg1] at ht
        refine WR.kT rfl rfl (vb_t rfl hg1) rfl rfl (OS.move (v := vS s) rfl h ?_)
        obtain ⟨r_, hr_, ht⟩ := bind_some ht
        refine WR.kT rfl rfl (vb_t rfl hg1) rfl rfl (OS.callF (vs := [vS s, vS ([97, 98, 99, 100, 101, 102, 103, 104, 105, 106, 107, 108, 109, 110, 111, 112, 113, 114, 115, 116, 117, 118, 119, 120, 121, 122, 48, 49, 50, 51, 52, 53, 54, 55, 56, 57, 45] : List UInt8)]) rfl ⟨rfl, rfl, trivial⟩ Tryz.call74 ((W74 K w0 (rcc [] cw) (rcc_lt cw rfl) hr_).mono ?_))
        rintro _ w_2 ⟨d1, rfl, s1⟩
        refine ⟨_, rfl, ?_⟩
        obtain ⟨c_2, s2⟩ : ∃ c_2, St [] w0 cw w_2 c_2 := ⟨_, s1.mg2 (sh := 20000) rfl⟩
        refine WR.kT rfl rfl (vb_t rfl hg1) rfl rfl (OS.bin (a := vS r_) (b := vS ([] : List UInt8)) rfl rfl rfl bS_eql ?_)
        refine WR.k rfl rfl rfl (OS.pickT rfl (vb_t rfl hg1) rfl ?_)
        cases ht
        refine WR.nil ?_
        exact ⟨_, rfl, s2.mono (by decide)⟩
      · rw [if_neg (nt hg1)] at ht
        refine WR.gF rfl rfl (vb_f rfl hg1) rfl rfl ?_
        refine WR.gF rfl rfl (vb_f rfl hg1) rfl rfl ?_
        refine WR.gF rfl rfl (vb_f rfl hg1) rfl rfl ?_
        refine WR.k rfl rfl rfl (OS.pickF rfl (vb_f rfl hg1) rfl ?_)
        cases ht
        refine WR.nil ?_
        exact ⟨_, rfl, St.refl.mono (by decide)⟩
    · rintro f_1 w_1 ⟨c_1, h2, s3⟩
      refine WR.k rfl rfl rfl (OS.assign (v := vB b) rfl h2 ?_)
      refine WR.nil ?_
      refine WC.ret ?_
      repeat first | refine thenQ_ret ?_ | refine blkQ_ret ?_
      cases hp
      exact fnQ.l1 (fn := Tryz.f51) rfl (.inl ⟨_, rfl, rfl⟩) ⟨_, rfl, s3.leave hcw (by decide)⟩

-- (*holdfast/grant.Store).full
set_option maxHeartbeats 4000000 in
theorem W52 (K : Nat) (w0 : World) (cw : Col) (hcw : ∀ b, cw b < 40) {s : S_grant_Store} {tenant : List UInt8} {r : Bool} (hp : grant_Store_full K s tenant = some r) {b : Nat} {b1 : Nat} {p_ : Value} (o : Bx 3 w0 cw p_ [(.map (some b)), (.map (some b1))]) (o1 : Mp kv74 (VR.flat vv43) 4 w0 cw (.map (some b)) s.clients) (o2 : Mp kv77 (VR.flat vv25) 5 w0 cw (.map (some b1)) s.consents) :
    Calls Tryz.prog 52 [p_, vS tenant].toArray w0 fun e w1 => ∃ (d : Col), e = .returned (vB r) ∧ St [] w0 cw w1 d := by
  refine calls_intro Tryz.func52 rfl Tryz.ntmps52 rfl ?_
  unfold grant_Store_full at hp
  refine WC.seq (WC.region ?_)
  refine WR.k rfl rfl rfl (OS.assign (v := vB false) rfl rfl ?_)
  refine WR.nil ?_
  refine WC.seq (WC.region ?_)
  refine WR.k rfl rfl rfl (OS.makeMap (kv := kv9) (V := (VR.flat vv3)) (c := cw) 40 rfl ?_); intro v_ w_ c_ o3 s1
  obtain ⟨b2, rfl⟩ := o3.isMap
  refine WR.k rfl rfl rfl (OS.assign (v := (.map (some b2))) rfl rfl ?_)
  refine WR.nil ?_
  refine WC.seq ?_
  refine WC.seq (WC.region ?_)
  refine WR.k rfl rfl rfl (OS.move (v := p_) rfl rfl ?_)
  have o4 := o.keep s1 (by decide)
  refine WR.k rfl rfl rfl (OS.nilCheckBx rfl rfl o4 ?_)
  refine WR.k rfl rfl rfl (OS.fieldAddrBx rfl Tryz.runUnderlying69 rfl Tryz.sizeOf66 rfl rfl o4 ?_); intro p_1 a1
  refine WR.k rfl rfl rfl (OS.ld1 (u := (.map (some b))) rfl Tryz.isAgg66 rfl (o4.ldn a1 (sub_of rfl)) ?_)
  have o5 := o1.keep s1 (by decide) (by decide)
  refine WR.k rfl rfl rfl (OS.range (c := c_) 41 rfl Tryz.runUnderlying66 rfl o5 ?_); intro p_2 w_1 c_1 o6 s2
  refine WR.nil ?_
  obtain ⟨kf, hkf, hM⟩ := mrngK_name hp
  replace hM : Mqk (grant_Store_full.m1 K : S_grant_name × S_api_Client → (List ((List UInt8) × Int)) → Option (Lr Unit (List ((List UInt8) × Int)))) s.clients ([] : List ((List UInt8) × Int)) kf := hM
  refine WC.blockJ2 (fun f_ w_2 => ∃ (of_ : List ((List UInt8) × Int)) (c_2 : Col), kf (.go of_) ∧ f_ 0 = p_ ∧ f_ 1 = vS tenant ∧ f_ 5 = (.map (some b2)) ∧ Mp kv74 (VR.flat vv43) 4 w_2 c_2 (.map (some b)) s.clients ∧ Bx 3 w_2 c_2 p_ [(.map (some b)), (.map (some b1))] ∧ Mp kv9 (VR.flat vv3) 40 w_2 c_2 (.map (some b2)) of_ ∧ St [40, 41, 42, 43, 44, 45] w_1 c_1 w_2 c_2) ?_ ?_
  · have o10 := o4.keep s2 (by decide)
    have o11 := o3.keep s2 (by decide) (by decide)
    refine WC.loop (fun n => fun f_1 w_3 => ∃ (of_ : List ((List UInt8) × Int)) (left : List (S_grant_name × S_api_Client)) (c_3 : Col), Mqk (grant_Store_full.m1 K : S_grant_name × S_api_Client → (List ((List UInt8) × Int)) → Option (Lr Unit (List ((List UInt8) × Int)))) left of_ kf ∧ n = left.length ∧ f_1 0 = p_ ∧ f_1 1 = vS tenant ∧ f_1 5 = (.map (some b2)) ∧ f_1 12 = p_2 ∧ MpI kv74 (VR.flat vv43) 4 41 w_3 c_3 (.map (some b)) p_2 s.clients left ∧ Bx 3 w_3 c_3 p_ [(.map (some b)), (.map (some b1))] ∧ Mp kv9 (VR.flat vv3) 40 w_3 c_3 (.map (some b2)) of_ ∧ St [40, 41, 42, 43, 44, 45] w_1 c_1 w_3 c_3) s.clients.length ⟨_, _, _, hM, rfl, rfl, rfl, rfl, rfl, o6, o10, o11, St.refl.mono (by decide)⟩ ?_
    rintro n f_1 w_3 ⟨of_, left, c_3, hM1, hn, h, h1, h2, h3, o8, o7, o9, s3⟩
    refine WC.seq (WC.region ?_)
    refine WR.k rfl rfl rfl (OS.next rfl K74 h3 o8 (by decide) (by decide) (fun hl => ?_) (fun l k1 u l1 v_1 w_4 hsp hnk hu o12 o13 s4 => ?_))
    · refine WR.k rfl rfl rfl (OS.extract (v := vB false) rfl rfl rfl ?_)
      refine WR.nil ?_
      refine WC.seq ?_
      refine WC.condF rfl ?_
      refine WC.exit ?_
      have o14 := o8.mp
      exact ⟨_, _, hM1.done hl, h, h1, h2, o14, o7, o9, s3.mono (by decide)⟩
    · obtain rfl := hu
      obtain ⟨b3, hb, hgo, hret⟩ := hM1.step hsp
      unfold grant_Store_full.m1 at hb
      dsimp only at hb
      refine WR.k rfl rfl rfl (OS.extract (v := vB true) rfl rfl rfl ?_)
      refine WR.nil ?_
      refine WC.seq ?_
      refine WC.condT rfl ?_
      refine WC.skip ?_
      refine WC.block ?_
      refine WC.seq (WC.region ?_)
      refine WR.k rfl rfl rfl (OS.entry rfl h3 o13 ?_)
      refine WR.k rfl rfl rfl (OS.extract (v := .agg (E74.e k1).toArray) rfl rfl rfl ?_)
      refine WR.k rfl rfl rfl (OS.allocBx (us := [vS ([] : List UInt8), vS ([] : List UInt8)]) (c := c_3) 45 rfl Tryz.zeroValue74 rfl ?_); intro p_3 w_5 c_4 o15 s5
      refine WR.k0 rfl rfl (OS.stBxAll (v := .agg (E74.e k1).toArray) (ws := [vS k1.tenant, vS k1.name]) rfl Tryz.sizeOf74 rfl rfl rfl o15 rfl rfl (one_of rfl) ?_); intro w_6 o16 s6
      refine WR.nil ?_
      refine WC.region ?_
      refine WR.k rfl rfl rfl (OS.move (v := (.map (some b2))) rfl h2 ?_)
      refine WR.k rfl rfl rfl (OS.fieldAddrBx rfl Tryz.runUnderlying74 rfl Tryz.sizeOf9 rfl rfl o16 ?_); intro p_4 a2
      refine WR.k rfl rfl rfl (OS.ld1 (u := vS k1.tenant) rfl Tryz.isAgg9 rfl (o16.ldn a2 (sub_of rfl)) ?_)
      have o17 := o9.keep ((s4.t s5).t s6) (by decide) (by decide)
      refine WR.k rfl rfl rfl (OS.look1 (zv := vI (0 : Int)) (zx := (0 : Int)) (a := k1.tenant) rfl K9 Tryz.underlying110 Tryz.zeroValue3 rfl rfl o17 rfl ?_); rintro _ rfl
      refine WR.k rfl rfl rfl (OS.bin (a := vI ((mget of_ k1.tenant).getD (0 : Int))) (b := vI (1 : Int)) rfl rfl rfl bI_add ?_)
      obtain ⟨m, hm, hb⟩ := bind_some hb
      replace hm := (Option.some.inj hm).symm
      refine WR.k0 rfl rfl (OS.mapUpd (q := W (((mget of_ k1.tenant).getD (0 : Int)) + (1 : Int))) (a := k1.tenant) (.inl rfl) K9 Tryz.underlying110 rfl rfl rfl o17 rfl (by decide) ?_); intro w_7 o18 s7
      replace o18 : Mp kv9 (VR.flat vv3) 40 w_7 c_4 (.map (some b2)) m := by rw [hm]; exact o18
      refine WR.nil ?_
      cases hb
      have o19 := o12.keep ((s5.t s6).t s7) (by decide) (by decide) (by decide)
      have o20 := o7.keep (((s4.t s5).t s6).t s7) (by decide)
      exact ⟨(l ++ l1).length, (by rw [hn, hsp]; simp only [List.length_append, List.length_cons]; omega), ⟨_, _, _, hgo _ rfl, rfl, h, h1, h2, h3, o19, o20, o18, ((((s3.t s4).t s5).t s6).t s7).mono (by decide)⟩⟩
  · rintro f_ w_2 ⟨of_, c_2, hq, h4, h5, h6, o8, o7, o9, s8⟩
    replace hp := hkf _ hq; simp only [lrc] at hp
    refine WC.seq (WC.region ?_)
    refine WR.k rfl rfl rfl (OS.move (v := (.map (some b2))) rfl h6 ?_)
    refine WR.k rfl rfl rfl (OS.move (v := vS tenant) rfl h5 ?_)
    refine WR.k rfl rfl rfl (OS.look1 (zv := vI (0 : Int)) (zx := (0 : Int)) (a := tenant) rfl K9 Tryz.underlying110 Tryz.zeroValue3 rfl rfl o9 rfl ?_); rintro _ rfl
    refine WR.k rfl rfl rfl (OS.bin (a := vI ((mget of_ tenant).getD (0 : Int))) (b := vI (4 : Int)) rfl rfl rfl bI_geq ?_)
    refine WR.k rfl rfl rfl (OS.move (v := vB (decide ((4 : Int) ≤ ((mget of_ tenant).getD (0 : Int))))) rfl rfl ?_)
    refine WR.cut2 10 (fun f_2 w_8 => f_2 0 = p_ ∧ f_2 36 = vB ((decide ((4 : Int) ≤ ((mget of_ tenant).getD (0 : Int)))) || ((decide (((mget of_ tenant).getD (0 : Int)) = (0 : Int))) && (decide ((4 : Int) ≤ (of_.length : Int))))) ∧ w_2 = w_8) ?_ ?_
    · rcases Bool.eq_false_or_eq_true (decide ((4 : Int) ≤ ((mget of_ tenant).getD (0 : Int)))) with hg | hg
      · refine WR.gF rfl rfl (vb_t rfl hg) rfl rfl ?_
        refine WR.gF rfl rfl (vb_t rfl hg) rfl rfl ?_
        refine WR.gF rfl rfl (vb_t rfl hg) rfl rfl ?_
        refine WR.gF rfl rfl (vb_t rfl hg) rfl rfl ?_
        refine WR.gF rfl rfl (vb_t rfl hg) rfl rfl ?_
        refine WR.gN rfl rfl rfl rfl rfl ?_
        refine WR.gN rfl rfl rfl rfl rfl ?_
        refine WR.gN rfl rfl rfl rfl rfl ?_
        refine WR.gF rfl rfl (vb_t rfl hg) rfl rfl ?_
        refine WR.k rfl rfl rfl (OS.pickT rfl (vb_t rfl hg) rfl ?_)
        refine WR.nil ?_
        exact ⟨h4, (or_t hg), rfl⟩
      · refine WR.kT rfl rfl (vb_f rfl hg) rfl rfl (OS.move (v := (.map (some b2))) rfl h6 ?_)
        refine WR.kT rfl rfl (vb_f rfl hg) rfl rfl (OS.move (v := vS tenant) rfl h5 ?_)
        refine WR.kT rfl rfl (vb_f rfl hg) rfl rfl (OS.look1 (zv := vI (0 : Int)) (zx := (0 : Int)) (a := tenant) rfl K9 Tryz.underlying110 Tryz.zeroValue3 rfl rfl o9 rfl ?_); rintro _ rfl
        refine WR.kT rfl rfl (vb_f rfl hg) rfl rfl (OS.bin (a := vI ((mget of_ tenant).getD (0 : Int))) (b := vI (0 : Int)) rfl rfl rfl bI_eql ?_)
        refine WR.kT rfl rfl (vb_f rfl hg) rfl rfl (OS.move (v := vB (decide (((mget of_ tenant).getD (0 : Int)) = (0 : Int)))) rfl rfl ?_)
        refine WR.cut2 4 (fun f_3 w_9 => f_3 0 = p_ ∧ f_3 26 = vB (decide ((4 : Int) ≤ ((mget of_ tenant).getD (0 : Int)))) ∧ f_3 35 = vB ((decide (((mget of_ tenant).getD (0 : Int)) = (0 : Int))) && (decide ((4 : Int) ≤ (of_.length : Int)))) ∧ w_2 = w_9) ?_ ?_
        · rcases Bool.eq_false_or_eq_true (decide (((mget of_ tenant).getD (0 : Int)) = (0 : Int))) with hg1 | hg1
          · refine WR.kT rfl rfl (vb_t rfl hg1) rfl rfl (OS.move (v := (.map (some b2))) rfl h6 ?_)
            refine WR.kT rfl rfl (vb_t rfl hg1) rfl rfl (OS.lenMap rfl Tryz.runUnderlying110 rfl o9 ?_)
            refine WR.kT rfl rfl (vb_t rfl hg1) rfl rfl (OS.bin (a := vI (of_.length : Int)) (b := vI (4 : Int)) rfl rfl rfl bI_geq ?_)
            refine WR.kT rfl rfl (vb_f rfl hg) rfl rfl (OS.pickT rfl (vb_t rfl hg1) rfl ?_)
            refine WR.nil ?_
            exact ⟨h4, rfl, (and_t hg1), rfl⟩
          · refine WR.gF rfl rfl (vb_f rfl hg1) rfl rfl ?_
            refine WR.gF rfl rfl (vb_f rfl hg1) rfl rfl ?_
            refine WR.gF rfl rfl (vb_f rfl hg1) rfl rfl ?_
            refine WR.kT rfl rfl (vb_f rfl hg) rfl rfl (OS.pickF rfl (vb_f rfl hg1) rfl ?_)
            refine WR.nil ?_
            exact ⟨h4, rfl, (and_f hg1), rfl⟩
        · rintro f_3 _ ⟨h7, h8, h9, rfl⟩
          refine WR.k rfl rfl rfl (OS.pickF rfl (vb_f h8 hg) h9 ?_)
          refine WR.nil ?_
          exact ⟨h7, (or_f hg), rfl⟩
    · rintro f_2 _ ⟨h10, h11, rfl⟩
      refine WR.k rfl rfl rfl (OS.assign (v := vB ((decide ((4 : Int) ≤ ((mget of_ tenant).getD (0 : Int)))) || ((decide (((mget of_ tenant).getD (0 : Int)) = (0 : Int))) && (decide ((4 : Int) ≤ (of_.length : Int)))))) rfl h11 ?_)
      refine WR.nil ?_
      refine WC.ret ?_
      repeat first | refine thenQ_ret ?_ | refine blkQ_ret ?_
      cases hp
      exact fnQ.l1 (fn := Tryz.f52) rfl (.inl ⟨_, rfl, rfl⟩) ⟨_, rfl, ((s1.t s2).t s8).leave hcw (by decide)⟩

-- (*holdfast/grant.Store).Register
set_option maxHeartbeats 4000000 in
theorem W20 (K : Nat) (w0 : World) (cw : Col) (hcw : ∀ b, cw b < 40) {s : S_grant_Store} {c_ : S_api_Client} {r : Int × S_grant_Store} (hp : grant_Store_Register K s c_ = some r) {b : Nat} {b1 : Nat} {p_ : Value} (o : Bx 3 w0 cw p_ [(.map (some b)), (.map (some b1))]) (o1 : Mp kv74 (VR.flat vv43) 4 w0 cw (.map (some b)) s.clients) (o2 : Mp kv77 (VR.flat vv25) 5 w0 cw (.map (some b1)) s.consents) :
    Calls Tryz.prog 20 [p_, .agg (E43.e c_).toArray].toArray w0 fun e w1 => ∃ (b3 : Nat) (b4 : Nat) (d : Col), e = .returned (vI r.1) ∧ St [3, 4, 5] w0 cw w1 d ∧ Bx 3 w1 d p_ [(.map (some b3)), (.map (some b4))] ∧ Mp kv74 (VR.flat vv43) 4 w1 d (.map (some b3)) r.2.clients ∧ Mp kv77 (VR.flat vv25) 5 w1 d (.map (some b4)) r.2.consents := by
  refine calls_intro Tryz.func20 rfl Tryz.ntmps20 rfl ?_
  unfold grant_Store_Register at hp
  refine WC.seq (WC.region ?_)
  refine WR.k rfl rfl rfl (OS.boxBx (us := [vS c_.Tenant, vS c_.Name, vS c_.Redirect, vU8 c_.Scopes]) (c := cw) 40 rfl rfl rfl ?_); intro p_1 w_ c_1 o3 s1
  refine WR.k rfl rfl rfl (OS.assign (v := vI (0 : Int)) rfl rfl ?_)
  refine WR.nil ?_
  refine WC.seq ?_
  refine WC.block ?_
  refine WC.seq (WC.region ?_)
  refine WR.k rfl rfl rfl (OS.move (v := p_) rfl rfl ?_)
  have o4 := o.keep s1 (by decide)
  refine WR.k rfl rfl rfl (OS.eqPtrS rfl (.inl ⟨rfl, rfl⟩) Tryz.underlying28 rfl o4 rfl ?_)
  refine WR.k rfl rfl rfl (OS.assign (v := vB false) rfl rfl ?_)
  refine WR.nil ?_
  refine WC.condF rfl ?_
  refine WC.seq (WC.region ?_)
  refine WR.k rfl rfl rfl (OS.fieldAddrBx rfl Tryz.runUnderlying43 rfl Tryz.sizeOf9 rfl rfl o3 ?_); intro p_2 a1
  refine WR.k rfl rfl rfl (OS.ld1 (u := vS c_.Tenant) rfl Tryz.isAgg9 rfl (o3.ldn a1 (sub_of rfl)) ?_)
  obtain ⟨r_, hr_, hp⟩ := bind_some hp
  refine WR.k rfl rfl rfl (OS.callF (vs := [vS c_.Tenant]) rfl ⟨rfl, trivial⟩ Tryz.call51 ((W51 K w_ (rcc [] c_1) (rcc_lt c_1 rfl) hr_).mono ?_))
  rintro _ w_1 ⟨d1, rfl, s2⟩
  refine ⟨_, rfl, ?_⟩
  obtain ⟨c_2, s3⟩ : ∃ c_2, St [] w_ c_1 w_1 c_2 := ⟨_, s2.mg2 (sh := 10000) rfl⟩
  refine WR.k rfl rfl rfl (OS.not rfl rfl ?_)
  refine WR.k rfl rfl rfl (OS.move (v := vB (!r_)) rfl rfl ?_)
  obtain ⟨b2, ht, hp⟩ := bind_some hp
  refine WR.cut2 5 (fun f_ w_2 => ∃ (c_3 : Col), f_ 0 = p_ ∧ f_ 3 = p_1 ∧ f_ 21 = vB b2 ∧ St [] w_1 c_2 w_2 c_3) ?_ ?_
  · rcases Bool.eq_false_or_eq_true (!r_) with hg | hg
    · rw [if_pos hg] at ht
      refine WR.gF rfl rfl (vb_t rfl hg) rfl rfl ?_
      refine WR.gF rfl rfl (vb_t rfl hg) rfl rfl ?_
      refine WR.gF rfl rfl (vb_t rfl hg) rfl rfl ?_
      refine WR.gF rfl rfl (vb_t rfl hg) rfl rfl ?_
      refine WR.k rfl rfl rfl (OS.pickT rfl (vb_t rfl hg) rfl ?_)
      cases ht
      refine WR.nil ?_
      exact ⟨_, rfl, rfl, rfl, St.refl.mono (by decide)⟩
    · rw [if_neg (nt hg)] at ht
      have o5 := o3.keep s3 (by decide)
      refine WR.kT rfl rfl (vb_f rfl hg) rfl rfl (OS.fieldAddrBx rfl Tryz.runUnderlying43 rfl Tryz.sizeOf9 rfl rfl o5 ?_); intro p_3 a2
      refine WR.kT rfl rfl (vb_f rfl hg) rfl rfl (OS.ld1 (u := vS c_.Name) rfl Tryz.isAgg9 rfl (o5.ldn a2 (sub_of rfl)) ?_)
      obtain ⟨r_1, hr_1, ht⟩ := bind_some ht
      refine WR.kT rfl rfl (vb_f rfl hg) rfl rfl (OS.callF (vs := [vS c_.Name]) rfl ⟨rfl, trivial⟩ Tryz.call51 ((W51 K w_1 (rcc [] c_2) (rcc_lt c_2 rfl) hr_1).mono ?_))
      rintro _ w_3 ⟨d2, rfl, s4⟩
      refine ⟨_, rfl, ?_⟩
      obtain ⟨c_4, s5⟩ : ∃ c_4, St [] w_1 c_2 w_3 c_4 := ⟨_, s4.mg2 (sh := 30000) rfl⟩
      refine WR.kT rfl rfl (vb_f rfl hg) rfl rfl (OS.not rfl rfl ?_)
      refine WR.k rfl rfl rfl (OS.pickF rfl (vb_f rfl hg) rfl ?_)
      cases ht
      refine WR.nil ?_
      exact ⟨_, rfl, rfl, rfl, s5.mono (by decide)⟩
  · rintro f_ w_2 ⟨c_3, h, h1, h2, s6⟩
    refine WR.k rfl rfl rfl (OS.assign (v := vB b2) rfl h2 ?_)
    refine WR.nil ?_
    refine WC.cond (b2) rfl (fun hb => ?_) (fun hb => ?_)
    · rw [if_pos hb] at hp
      refine WC.seq (WC.region ?_)
      refine WR.k rfl rfl rfl (OS.assign (v := vI (8 : Int)) rfl rfl ?_)
      refine WR.nil ?_
      refine WC.ret ?_
      repeat first | refine thenQ_ret ?_ | refine blkQ_ret ?_
      cases hp
      have o6 := o4.keep (s3.t s6) (by decide)
      have o7 := o1.keep ((s1.t s3).t s6) (by decide) (by decide)
      have o8 := o2.keep ((s1.t s3).t s6) (by decide) (by decide)
      exact fnQ.l1 (fn := Tryz.f20) rfl (.inl ⟨_, rfl, rfl⟩) ⟨_, _, _, rfl, ((s1.t s3).t s6).leave hcw (by decide), o6, o7, o8⟩
    · rw [if_neg (nt hb)] at hp
      refine WC.seq (WC.region ?_)
      have o9 := o3.keep (s3.t s6) (by decide)
      refine WR.k rfl rfl rfl (OS.fieldAddrBx rfl Tryz.runUnderlying43 rfl Tryz.sizeOf9 rfl h1 o9 ?_); intro p_4 a3
      refine WR.k rfl rfl rfl (OS.ld1 (u := vS c_.Redirect) rfl Tryz.isAgg9 rfl (o9.ldn a3 (sub_of rfl)) ?_)
      refine WR.k rfl rfl rfl (OS.lenS rfl Tryz.runUnderlying9 rfl ?_)
      refine WR.k rfl rfl rfl (OS.bin (a := vI (c_.Redirect.length : Int)) (b := vI (24 : Int)) rfl rfl rfl bI_gtr ?_)
      refine WR.k rfl rfl rfl (OS.assign (v := vB (decide ((24 : Int) < (c_.Redirect.length : Int)))) rfl rfl ?_)
      refine WR.nil ?_
      refine WC.cond (decide ((24 : Int) < (c_.Redirect.length : Int))) rfl (fun hb1 => ?_) (fun hb1 => ?_)
      · rw [if_pos hb1] at hp
        refine WC.seq (WC.region ?_)
        refine WR.k rfl rfl rfl (OS.assign (v := vI (6 : Int)) rfl rfl ?_)
        refine WR.nil ?_
        refine WC.ret ?_
        repeat first | refine thenQ_ret ?_ | refine blkQ_ret ?_
        cases hp
        have o10 := o4.keep (s3.t s6) (by decide)
        have o11 := o1.keep ((s1.t s3).t s6) (by decide) (by decide)
        have o12 := o2.keep ((s1.t s3).t s6) (by decide) (by decide)
        exact fnQ.l1 (fn := Tryz.f20) rfl (.inl ⟨_, rfl, rfl⟩) ⟨_, _, _, rfl, ((s1.t s3).t s6).leave hcw (by decide), o10, o11, o12⟩
      · rw [if_neg (nt hb1)] at hp
        refine WC.skip ?_
        refine WC.seq (WC.region ?_)
        refine WR.k rfl rfl rfl (OS.fieldAddrBx rfl Tryz.runUnderlying43 rfl Tryz.sizeOf9 rfl h1 o9 ?_); intro p_5 a4
        refine WR.k rfl rfl rfl (OS.ld1 (u := vS c_.Tenant) rfl Tryz.isAgg9 rfl (o9.ldn a4 (sub_of rfl)) ?_)
        refine WR.k rfl rfl rfl (OS.fieldAddrBx rfl Tryz.runUnderlying43 rfl Tryz.sizeOf9 rfl h1 o9 ?_); intro p_6 a5
        refine WR.k rfl rfl rfl (OS.ld1 (u := vS c_.Name) rfl Tryz.isAgg9 rfl (o9.ldn a5 (sub_of rfl)) ?_)
        refine WR.k rfl rfl rfl (OS.build (v := .agg (E74.e (⟨c_.Tenant, c_.Name⟩ : S_grant_name)).toArray) [(0, vS c_.Tenant), (1, vS c_.Name)] rfl ⟨rfl, rfl, rfl, rfl, trivial⟩ (fun _ => by kernel_rfl) ?_)
        refine WR.k rfl rfl rfl (OS.allocBx (us := [vS ([] : List UInt8), vS ([] : List UInt8)]) (c := c_3) 41 rfl Tryz.zeroValue74 rfl ?_); intro p_7 w_4 c_5 o13 s7
        refine WR.k0 rfl rfl (OS.stBxAll (v := .agg (E74.e (⟨c_.Tenant, c_.Name⟩ : S_grant_name)).toArray) (ws := [vS c_.Tenant, vS c_.Name]) rfl Tryz.sizeOf74 rfl rfl rfl o13 rfl rfl (one_of rfl) ?_); intro w_5 o14 s8
        refine WR.nil ?_
        refine WC.seq ?_
        have o15 := o4.keep (((s3.t s6).t s7).t s8) (by decide)
        have o16 := o1.keep ((((s1.t s3).t s6).t s7).t s8) (by decide) (by decide)
        refine WC.seq (WC.draw3 (c := c_5) ⟨11, [[], [], [], [], [], [], [], [], [], [42], [42]], [[], [], [], [], [], [], [], [], [], [], [42]], [42], [[], [0], [1], [2], [], [3, 4], [5], [6], [6], [], [7, 9]], [8]⟩ [[], [], [], [], [], [], [], [], [42], [], []] [[33], [34], [35], [36], [37], [38], [32], [39], [40], [6], [6]] [fun yf yw yc => (yf 33) = p_, fun yf yw yc => (yf 34) = p_, fun yf yw yc => AdrP p_ 0 1 (yf 35), fun yf yw yc => (yf 36) = (.map (some b)), fun yf yw yc => (yf 37) = .agg (E74.e (⟨c_.Tenant, c_.Name⟩ : S_grant_name)).toArray, fun yf yw yc => (yf 38) = .tuple #[.agg (E43.e ((mget s.clients (⟨c_.Tenant, c_.Name⟩ : S_grant_name)).getD (⟨([] : List UInt8), ([] : List UInt8), ([] : List UInt8), (0 : UInt8)⟩ : S_api_Client))).toArray, vB ((mget s.clients (⟨c_.Tenant, c_.Name⟩ : S_grant_name)).isSome)], fun yf yw yc => (yf 32) = .tuple #[.agg (E43.e ((mget s.clients (⟨c_.Tenant, c_.Name⟩ : S_grant_name)).getD (⟨([] : List UInt8), ([] : List UInt8), ([] : List UInt8), (0 : UInt8)⟩ : S_api_Client))).toArray, vB ((mget s.clients (⟨c_.Tenant, c_.Name⟩ : S_grant_name)).isSome)], fun yf yw yc => (yf 39) = .agg (E43.e ((mget s.clients (⟨c_.Tenant, c_.Name⟩ : S_grant_name)).getD (⟨([] : List UInt8), ([] : List UInt8), ([] : List UInt8), (0 : UInt8)⟩ : S_api_Client))).toArray, fun yf yw yc => (yf 40) = vB ((mget s.clients (⟨c_.Tenant, c_.Name⟩ : S_grant_name)).isSome), fun yf yw yc => Bx 42 yw yc ((yf 6)) [vS ([] : List UInt8), vS ([] : List UInt8), vS ([] : List UInt8), vU8 (0 : UInt8)], fun yf yw yc => Bx 42 yw yc ((yf 6)) [vS (((mget s.clients (⟨c_.Tenant, c_.Name⟩ : S_grant_name)).getD (⟨([] : List UInt8), ([] : List UInt8), ([] : List UInt8), (0 : UInt8)⟩ : S_api_Client)).Tenant), vS (((mget s.clients (⟨c_.Tenant, c_.Name⟩ : S_grant_name)).getD (⟨([] : List UInt8), ([] : List UInt8), ([] : List UInt8), (0 : UInt8)⟩ : S_api_Client)).Name), vS (((mget s.clients (⟨c_.Tenant, c_.Name⟩ : S_grant_name)).getD (⟨([] : List UInt8), ([] : List UInt8), ([] : List UInt8), (0 : UInt8)⟩ : S_api_Client)).Redirect), vU8 (((mget s.clients (⟨c_.Tenant, c_.Name⟩ : S_grant_name)).getD (⟨([] : List UInt8), ([] : List UInt8), ([] : List UInt8), (0 : UInt8)⟩ : S_api_Client)).Scopes)]] hmix (by kernel_rfl) (by kernel_rfl) ⟨?_, ?_, ?_, ?_, ?_, ?_, ?_, ?_, ?_, ?_, ?_, trivial⟩ ⟨fun y1 y2 yw yc yI yw1 yc1 yh ye ys yk => by obtain ⟨ye0, -⟩ := ye; show (y2 33) = p_; rw [ye0]; exact yh, fun y1 y2 yw yc yI yw1 yc1 yh ye ys yk => by obtain ⟨ye0, -⟩ := ye; show (y2 34) = p_; rw [ye0]; exact yh, fun y1 y2 yw yc yI yw1 yc1 yh ye ys yk => by obtain ⟨ye0, -⟩ := ye; show AdrP p_ 0 1 (y2 35); rw [ye0]; exact yh, fun y1 y2 yw yc yI yw1 yc1 yh ye ys yk => by obtain ⟨ye0, -⟩ := ye; show (y2 36) = (.map (some b)); rw [ye0]; exact yh, fun y1 y2 yw yc yI yw1 yc1 yh ye ys yk => by obtain ⟨ye0, -⟩ := ye; show (y2 37) = .agg (E74.e (⟨c_.Tenant, c_.Name⟩ : S_grant_name)).toArray; rw [ye0]; exact yh, fun y1 y2 yw yc yI yw1 yc1 yh ye ys yk => by obtain ⟨ye0, -⟩ := ye; show (y2 38) = .tuple #[.agg (E43.e ((mget s.clients (⟨c_.Tenant, c_.Name⟩ : S_grant_name)).getD (⟨([] : List UInt8), ([] : List UInt8), ([] : List UInt8), (0 : UInt8)⟩ : S_api_Client))).toArray, vB ((mget s.clients (⟨c_.Tenant, c_.Name⟩ : S_grant_name)).isSome)]; rw [ye0]; exact yh, fun y1 y2 yw yc yI yw1 yc1 yh ye ys yk => by obtain ⟨ye0, -⟩ := ye; show (y2 32) = .tuple #[.agg (E43.e ((mget s.clients (⟨c_.Tenant, c_.Name⟩ : S_grant_name)).getD (⟨([] : List UInt8), ([] : List UInt8), ([] : List UInt8), (0 : UInt8)⟩ : S_api_Client))).toArray, vB ((mget s.clients (⟨c_.Tenant, c_.Name⟩ : S_grant_name)).isSome)]; rw [ye0]; exact yh, fun y1 y2 yw yc yI yw1 yc1 yh ye ys yk => by obtain ⟨ye0, -⟩ := ye; show (y2 39) = .agg (E43.e ((mget s.clients (⟨c_.Tenant, c_.Name⟩ : S_grant_name)).getD (⟨([] : List UInt8), ([] : List UInt8), ([] : List UInt8), (0 : UInt8)⟩ : S_api_Client))).toArray; rw [ye0]; exact yh, fun y1 y2 yw yc yI yw1 yc1 yh ye ys yk => by obtain ⟨ye0, -⟩ := ye; show (y2 40) = vB ((mget s.clients (⟨c_.Tenant, c_.Name⟩ : S_grant_name)).isSome); rw [ye0]; exact yh, fun y1 y2 yw yc yI yw1 yc1 yh ye ys yk => by obtain ⟨ye0, -⟩ := ye; replace yh : Bx 42 yw yc ((y1 6)) [vS ([] : List UInt8), vS ([] : List UInt8), vS ([] : List UInt8), vU8 (0 : UInt8)] := yh; have h2 := yh.keep ys (yk _ (by simp)); show Bx 42 yw1 yc1 ((y2 6)) [vS ([] : List UInt8), vS ([] : List UInt8), vS ([] : List UInt8), vU8 (0 : UInt8)]; rw [ye0]; exact h2, fun y1 y2 yw yc yI yw1 yc1 yh ye ys yk => by obtain ⟨ye0, -⟩ := ye; replace yh : Bx 42 yw yc ((y1 6)) [vS (((mget s.clients (⟨c_.Tenant, c_.Name⟩ : S_grant_name)).getD (⟨([] : List UInt8), ([] : List UInt8), ([] : List UInt8), (0 : UInt8)⟩ : S_api_Client)).Tenant), vS (((mget s.clients (⟨c_.Tenant, c_.Name⟩ : S_grant_name)).getD (⟨([] : List UInt8), ([] : List UInt8), ([] : List UInt8), (0 : UInt8)⟩ : S_api_Client)).Name), vS (((mget s.clients (⟨c_.Tenant, c_.Name⟩ : S_grant_name)).getD (⟨([] : List UInt8), ([] : List UInt8), ([] : List UInt8), (0 : UInt8)⟩ : S_api_Client)).Redirect), vU8 (((mget s.clients (⟨c_.Tenant, c_.Name⟩ : S_grant_name)).getD (⟨([] : List UInt8), ([] : List UInt8), ([] : List UInt8), (0 : UInt8)⟩ : S_api_Client)).Scopes)] := yh; have h2 := yh.keep ys (yk _ (by simp)); show Bx 42 yw1 yc1 ((y2 6)) [vS (((mget s.clients (⟨c_.Tenant, c_.Name⟩ : S_grant_name)).getD (⟨([] : List UInt8), ([] : List UInt8), ([] : List UInt8), (0 : UInt8)⟩ : S_api_Client)).Tenant), vS (((mget s.clients (⟨c_.Tenant, c_.Name⟩ : S_grant_name)).getD (⟨([] : List UInt8), ([] : List UInt8), ([] : List UInt8), (0 : UInt8)⟩ : S_api_Client)).Name), vS (((mget s.clients (⟨c_.Tenant, c_.Name⟩ : S_grant_name)).getD (⟨([] : List UInt8), ([] : List UInt8), ([] : List UInt8), (0 : UInt8)⟩ : S_api_Client)).Redirect), vU8 (((mget s.clients (⟨c_.Tenant, c_.Name⟩ : S_grant_name)).getD (⟨([] : List UInt8), ([] : List UInt8), ([] : List UInt8), (0 : UInt8)⟩ : S_api_Client)).Scopes)]; rw [ye0]; exact h2, trivial⟩ ?_)
        · rintro f_1 w_6 c_6 hB hs ⟨-⟩ o ho; obtain rfl : _ = o := Option.some.inj ho
          exact OS.move (v := p_) rfl ((hB 0 (by kernel_rfl)).trans h) ⟨_, St.refl, rfl⟩
        · rintro f_2 w_7 c_7 hB1 hs1 ⟨g, -⟩ o ho; obtain rfl : _ = o := Option.some.inj ho
          replace g : (f_2 33) = p_ := g
          have o17 := o4.keep ((((s3.t s6).t s7).t s8).t hs1) (by decide)
          exact OS.nilCheckBx rfl g o17 ⟨_, St.refl, rfl⟩
        · rintro f_3 w_8 c_8 hB2 hs2 ⟨g1, -⟩ o ho; obtain rfl : _ = o := Option.some.inj ho
          replace g1 : (f_3 34) = p_ := g1
          have o18 := o15.keep hs2 (by decide)
          exact OS.fieldAddrBx rfl Tryz.runUnderlying69 rfl Tryz.sizeOf66 rfl g1 o18 (fun _ h => ⟨_, St.refl, h⟩)
        · rintro f_4 w_9 c_9 hB3 hs3 ⟨g2, -⟩ o ho; obtain rfl : _ = o := Option.some.inj ho
          replace g2 : AdrP p_ 0 1 (f_4 35) := g2
          have o19 := o15.keep hs3 (by decide)
          exact OS.ld1 (u := (.map (some b))) rfl Tryz.isAgg66 rfl (o19.ldn g2 (sub_of rfl)) ⟨_, St.refl, rfl⟩
        · rintro f_5 w_10 c_10 hB4 hs4 ⟨-⟩ o ho; obtain rfl : _ = o := Option.some.inj ho
          have o20 := o14.keep hs4 (by decide)
          exact OS.ldN (us := [vS c_.Tenant, vS c_.Name]) rfl Tryz.isAgg74 Tryz.sizeOf74 ((hB4 5 (by kernel_rfl)).trans (show _ = p_7 from rfl)) o20.ldAll rfl ⟨_, St.refl, rfl⟩
        · rintro f_6 w_11 c_11 hB5 hs5 ⟨g3, g4, -⟩ o ho; obtain rfl : _ = o := Option.some.inj ho
          replace g3 : (f_6 36) = (.map (some b)) := g3
          replace g4 : (f_6 37) = .agg (E74.e (⟨c_.Tenant, c_.Name⟩ : S_grant_name)).toArray := g4
          have o21 := o1.keep (((((s1.t s3).t s6).t s7).t s8).t hs5) (by decide) (by decide)
          exact OS.look2 (zv := .agg (E43.e (⟨([] : List UInt8), ([] : List UInt8), ([] : List UInt8), (0 : UInt8)⟩ : S_api_Client)).toArray) (zx := (⟨([] : List UInt8), ([] : List UInt8), ([] : List UInt8), (0 : UInt8)⟩ : S_api_Client)) (a := (⟨c_.Tenant, c_.Name⟩ : S_grant_name)) rfl K74 Tryz.underlying66 Tryz.zeroValue43 g3 g4 o21 rfl (by rintro _ rfl; exact ⟨_, St.refl, rfl⟩)
        · rintro f_7 w_12 c_12 hB6 hs6 ⟨g5, -⟩ o ho; obtain rfl : _ = o := Option.some.inj ho
          replace g5 : (f_7 38) = .tuple #[.agg (E43.e ((mget s.clients (⟨c_.Tenant, c_.Name⟩ : S_grant_name)).getD (⟨([] : List UInt8), ([] : List UInt8), ([] : List UInt8), (0 : UInt8)⟩ : S_api_Client))).toArray, vB ((mget s.clients (⟨c_.Tenant, c_.Name⟩ : S_grant_name)).isSome)] := g5
          exact OS.move (v := .tuple #[.agg (E43.e ((mget s.clients (⟨c_.Tenant, c_.Name⟩ : S_grant_name)).getD (⟨([] : List UInt8), ([] : List UInt8), ([] : List UInt8), (0 : UInt8)⟩ : S_api_Client))).toArray, vB ((mget s.clients (⟨c_.Tenant, c_.Name⟩ : S_grant_name)).isSome)]) rfl g5 ⟨_, St.refl, rfl⟩
        · rintro f_8 w_13 c_13 hB7 hs7 ⟨g6, -⟩ o ho; obtain rfl : _ = o := Option.some.inj ho
          replace g6 : (f_8 32) = .tuple #[.agg (E43.e ((mget s.clients (⟨c_.Tenant, c_.Name⟩ : S_grant_name)).getD (⟨([] : List UInt8), ([] : List UInt8), ([] : List UInt8), (0 : UInt8)⟩ : S_api_Client))).toArray, vB ((mget s.clients (⟨c_.Tenant, c_.Name⟩ : S_grant_name)).isSome)] := g6
          exact OS.extract (v := .agg (E43.e ((mget s.clients (⟨c_.Tenant, c_.Name⟩ : S_grant_name)).getD (⟨([] : List UInt8), ([] : List UInt8), ([] : List UInt8), (0 : UInt8)⟩ : S_api_Client))).toArray) rfl g6 rfl ⟨_, St.refl, rfl⟩
        · rintro f_9 w_14 c_14 hB8 hs8 ⟨g7, -⟩ o ho; obtain rfl : _ = o := Option.some.inj ho
          replace g7 : (f_9 32) = .tuple #[.agg (E43.e ((mget s.clients (⟨c_.Tenant, c_.Name⟩ : S_grant_name)).getD (⟨([] : List UInt8), ([] : List UInt8), ([] : List UInt8), (0 : UInt8)⟩ : S_api_Client))).toArray, vB ((mget s.clients (⟨c_.Tenant, c_.Name⟩ : S_grant_name)).isSome)] := g7
          exact OS.extract (v := vB ((mget s.clients (⟨c_.Tenant, c_.Name⟩ : S_grant_name)).isSome)) rfl g7 rfl ⟨_, St.refl, rfl⟩
        · rintro f_10 w_15 c_15 hB9 hs9 ⟨-⟩ o ho; obtain rfl : _ = o := Option.some.inj ho
          refine OS.allocBx (us := [vS ([] : List UInt8), vS ([] : List UInt8), vS ([] : List UInt8), vU8 (0 : UInt8)]) (c := c_15) 42 rfl Tryz.zeroValue43 rfl ?_
          intro v w c h s
          exact ⟨c, s, (by exact h)⟩
        · rintro f_11 w_16 c_16 hB10 hs10 ⟨g8, g9, -⟩ o ho; obtain rfl : _ = o := Option.some.inj ho
          replace g8 : (f_11 39) = .agg (E43.e ((mget s.clients (⟨c_.Tenant, c_.Name⟩ : S_grant_name)).getD (⟨([] : List UInt8), ([] : List UInt8), ([] : List UInt8), (0 : UInt8)⟩ : S_api_Client))).toArray := g8
          replace g9 : Bx 42 w_16 c_16 ((f_11 6)) [vS ([] : List UInt8), vS ([] : List UInt8), vS ([] : List UInt8), vU8 (0 : UInt8)] := g9
          refine OS.stBxAll (v := .agg (E43.e ((mget s.clients (⟨c_.Tenant, c_.Name⟩ : S_grant_name)).getD (⟨([] : List UInt8), ([] : List UInt8), ([] : List UInt8), (0 : UInt8)⟩ : S_api_Client))).toArray) (ws := [vS (((mget s.clients (⟨c_.Tenant, c_.Name⟩ : S_grant_name)).getD (⟨([] : List UInt8), ([] : List UInt8), ([] : List UInt8), (0 : UInt8)⟩ : S_api_Client)).Tenant), vS (((mget s.clients (⟨c_.Tenant, c_.Name⟩ : S_grant_name)).getD (⟨([] : List UInt8), ([] : List UInt8), ([] : List UInt8), (0 : UInt8)⟩ : S_api_Client)).Name), vS (((mget s.clients (⟨c_.Tenant, c_.Name⟩ : S_grant_name)).getD (⟨([] : List UInt8), ([] : List UInt8), ([] : List UInt8), (0 : UInt8)⟩ : S_api_Client)).Redirect), vU8 (((mget s.clients (⟨c_.Tenant, c_.Name⟩ : S_grant_name)).getD (⟨([] : List UInt8), ([] : List UInt8), ([] : List UInt8), (0 : UInt8)⟩ : S_api_Client)).Scopes)]) rfl Tryz.sizeOf43 rfl g8 rfl g9 rfl rfl (one_of rfl) ?_
          intro w h s
          exact ⟨_, s, (by exact h)⟩
        · rintro f_12 w_17 c_17 hB11 hs11 ⟨g10, -⟩
          replace g10 : (f_12 40) = vB ((mget s.clients (⟨c_.Tenant, c_.Name⟩ : S_grant_name)).isSome) := g10
          have h3 := (hB11 0 (by kernel_rfl)).trans h
          have h4 := (hB11 3 (by kernel_rfl)).trans h1
          have h5 := (hB11 5 (by kernel_rfl)).trans (show _ = p_7 from rfl)
          refine WR.k rfl rfl rfl (OS.assign (v := vB ((mget s.clients (⟨c_.Tenant, c_.Name⟩ : S_grant_name)).isSome)) rfl g10 ?_)
          refine WR.nil ?_
          refine WC.seq (WC.region ?_)
          refine WR.k rfl rfl rfl (OS.move (v := vB ((mget s.clients (⟨c_.Tenant, c_.Name⟩ : S_grant_name)).isSome)) rfl rfl ?_)
          refine WR.nil ?_
          refine WC.cond ((mget s.clients (⟨c_.Tenant, c_.Name⟩ : S_grant_name)).isSome) rfl (fun hb2 => ?_) (fun hb2 => ?_)
          · rw [if_pos hb2] at hp
            refine WC.seq (WC.region ?_)
            refine WR.k rfl rfl rfl (OS.assign (v := vI (5 : Int)) rfl rfl ?_)
            refine WR.nil ?_
            refine WC.ret ?_
            repeat first | refine thenQ_ret ?_ | refine blkQ_ret ?_
            cases hp
            have o22 := o15.keep hs11 (by decide)
            have o23 := o16.keep hs11 (by decide) (by decide)
            have o24 := o2.keep (((((s1.t s3).t s6).t s7).t s8).t hs11) (by decide) (by decide)
            exact fnQ.l1 (fn := Tryz.f20) rfl (.inl ⟨_, rfl, rfl⟩) ⟨_, _, _, rfl, (((((s1.t s3).t s6).t s7).t s8).t hs11).leave hcw (by decide), o22, o23, o24⟩
          · rw [if_neg (nt hb2)] at hp
            refine WC.skip ?_
            refine WC.seq ?_
            refine WC.seq (WC.region ?_)
            refine WR.k rfl rfl rfl (OS.move (v := p_) rfl h3 ?_)
            have o25 := o9.keep ((s7.t s8).t hs11) (by decide)
            refine WR.k rfl rfl rfl (OS.fieldAddrBx rfl Tryz.runUnderlying43 rfl Tryz.sizeOf9 rfl h4 o25 ?_); intro p_8 a7
            refine WR.k rfl rfl rfl (OS.ld1 (u := vS c_.Tenant) rfl Tryz.isAgg9 rfl (o25.ldn a7 (sub_of rfl)) ?_)
            have o26 := o15.keep hs11 (by decide)
            have o27 := o16.keep hs11 (by decide) (by decide)
            have o28 := o2.keep (((((s1.t s3).t s6).t s7).t s8).t hs11) (by decide) (by decide)
            obtain ⟨r_2, hr_2, hp⟩ := bind_some hp
            refine WR.k rfl rfl rfl (OS.callF (vs := [p_, vS c_.Tenant]) rfl ⟨rfl, rfl, trivial⟩ Tryz.call52 ((W52 K w_17 (rcc [3, 4, 5] c_17) (rcc_lt c_17 rfl) hr_2 (o26.tr (rc_tr (by decide))) (o27.tr (rc_tr (by decide))) (o28.tr (rc_tr (by decide)))).mono ?_))
            rintro _ w_18 ⟨d3, rfl, s9⟩
            refine ⟨_, rfl, ?_⟩
            obtain ⟨c_18, s10⟩ : ∃ c_18, St [] w_17 c_17 w_18 c_18 := ⟨_, s9.mg2 (sh := 40000) rfl⟩
            refine WR.nil ?_
            refine WC.cond (r_2) rfl (fun hb3 => ?_) (fun hb3 => ?_)
            · rw [if_pos hb3] at hp
              refine WC.seq (WC.region ?_)
              refine WR.k rfl rfl rfl (OS.assign (v := vI (24 : Int)) rfl rfl ?_)
              refine WR.nil ?_
              refine WC.ret ?_
              repeat first | refine thenQ_ret ?_ | refine blkQ_ret ?_
              cases hp
              have o29 := o26.keep s10 (by decide)
              have o30 := o27.keep s10 (by decide) (by decide)
              have o31 := o28.keep s10 (by decide) (by decide)
              exact fnQ.l1 (fn := Tryz.f20) rfl (.inl ⟨_, rfl, rfl⟩) ⟨_, _, _, rfl, ((((((s1.t s3).t s6).t s7).t s8).t hs11).t s10).leave hcw (by decide), o29, o30, o31⟩
            · rw [if_neg (nt hb3)] at hp
              refine WC.skip ?_
              have o32 := o26.keep s10 (by decide)
              have o33 := o14.keep (hs11.t s10) (by decide)
              have o34 := o25.keep s10 (by decide)
              refine WC.seq (WC.draw3 (c := c_18) ⟨6, [[], [], [], [], [], []], [[], [], [], [], [], []], [], [[], [0], [1], [2], [], []], [3, 4, 5]⟩ [[], [], [], [], [], []] [[46], [47], [48], [49], [50], [51]] [fun yf yw yc => (yf 46) = p_, fun yf yw yc => (yf 47) = p_, fun yf yw yc => AdrP p_ 0 1 (yf 48), fun yf yw yc => (yf 49) = (.map (some b)), fun yf yw yc => (yf 50) = .agg (E74.e (⟨c_.Tenant, c_.Name⟩ : S_grant_name)).toArray, fun yf yw yc => (yf 51) = .agg (E43.e c_).toArray] hmix (by kernel_rfl) (by kernel_rfl) ⟨?_, ?_, ?_, ?_, ?_, ?_, trivial⟩ ⟨fun y1 y2 yw yc yI yw1 yc1 yh ye ys yk => by obtain ⟨ye0, -⟩ := ye; show (y2 46) = p_; rw [ye0]; exact yh, fun y1 y2 yw yc yI yw1 yc1 yh ye ys yk => by obtain ⟨ye0, -⟩ := ye; show (y2 47) = p_; rw [ye0]; exact yh, fun y1 y2 yw yc yI yw1 yc1 yh ye ys yk => by obtain ⟨ye0, -⟩ := ye; show AdrP p_ 0 1 (y2 48); rw [ye0]; exact yh, fun y1 y2 yw yc yI yw1 yc1 yh ye ys yk => by obtain ⟨ye0, -⟩ := ye; show (y2 49) = (.map (some b)); rw [ye0]; exact yh, fun y1 y2 yw yc yI yw1 yc1 yh ye ys yk => by obtain ⟨ye0, -⟩ := ye; show (y2 50) = .agg (E74.e (⟨c_.Tenant, c_.Name⟩ : S_grant_name)).toArray; rw [ye0]; exact yh, fun y1 y2 yw yc yI yw1 yc1 yh ye ys yk => by obtain ⟨ye0, -⟩ := ye; show (y2 51) = .agg (E43.e c_).toArray; rw [ye0]; exact yh, trivial⟩ ?_)
              · rintro f_13 w_19 c_19 hB12 hs12 ⟨-⟩ o ho; obtain rfl : _ = o := Option.some.inj ho
                exact OS.move (v := p_) rfl ((hB12 0 (by kernel_rfl)).trans h3) ⟨_, St.refl, rfl⟩
              · rintro f_14 w_20 c_20 hB13 hs13 ⟨g11, -⟩ o ho; obtain rfl : _ = o := Option.some.inj ho
                replace g11 : (f_14 46) = p_ := g11
                have o35 := o26.keep (s10.t hs13) (by decide)
                exact OS.nilCheckBx rfl g11 o35 ⟨_, St.refl, rfl⟩
              · rintro f_15 w_21 c_21 hB14 hs14 ⟨g12, -⟩ o ho; obtain rfl : _ = o := Option.some.inj ho
                replace g12 : (f_15 47) = p_ := g12
                have o36 := o32.keep hs14 (by decide)
                exact OS.fieldAddrBx rfl Tryz.runUnderlying69 rfl Tryz.sizeOf66 rfl g12 o36 (fun _ h => ⟨_, St.refl, h⟩)
              · rintro f_16 w_22 c_22 hB15 hs15 ⟨g13, -⟩ o ho; obtain rfl : _ = o := Option.some.inj ho
                replace g13 : AdrP p_ 0 1 (f_16 48) := g13
                have o37 := o32.keep hs15 (by decide)
                exact OS.ld1 (u := (.map (some b))) rfl Tryz.isAgg66 rfl (o37.ldn g13 (sub_of rfl)) ⟨_, St.refl, rfl⟩
              · rintro f_17 w_23 c_23 hB16 hs16 ⟨-⟩ o ho; obtain rfl : _ = o := Option.some.inj ho
                have o38 := o14.keep ((hs11.t s10).t hs16) (by decide)
                exact OS.ldN (us := [vS c_.Tenant, vS c_.Name]) rfl Tryz.isAgg74 Tryz.sizeOf74 ((hB16 5 (by kernel_rfl)).trans h5) o38.ldAll rfl ⟨_, St.refl, rfl⟩
              · rintro f_18 w_24 c_24 hB17 hs17 ⟨-⟩ o ho; obtain rfl : _ = o := Option.some.inj ho
                have o39 := o25.keep (s10.t hs17) (by decide)
                exact OS.ldN (us := [vS c_.Tenant, vS c_.Name, vS c_.Redirect, vU8 c_.Scopes]) rfl Tryz.isAgg43 Tryz.sizeOf43 ((hB17 3 (by kernel_rfl)).trans h4) o39.ldAll rfl ⟨_, St.refl, rfl⟩
              · rintro f_19 w_25 c_25 hB18 hs18 ⟨g14, g15, g16, -⟩
                replace g14 : (f_19 49) = (.map (some b)) := g14
                replace g15 : (f_19 50) = .agg (E74.e (⟨c_.Tenant, c_.Name⟩ : S_grant_name)).toArray := g15
                replace g16 : (f_19 51) = .agg (E43.e c_).toArray := g16
                have h6 := (hB18 0 (by kernel_rfl)).trans h3
                have o40 := o27.keep (s10.t hs18) (by decide) (by decide)
                obtain ⟨m, hm, hp⟩ := bind_some hp
                replace hm := (Option.some.inj hm).symm
                refine WR.k0 rfl rfl (OS.mapUpd (q := c_) (a := (⟨c_.Tenant, c_.Name⟩ : S_grant_name)) (.inl rfl) K74 Tryz.underlying66 g14 g15 g16 o40 rfl (by decide) ?_); intro w_26 o41 s11
                replace o41 : Mp kv74 (VR.flat vv43) 4 w_26 c_25 (.map (some b)) m := by rw [hm]; exact o41
                refine WR.nil ?_
                refine WC.seq (WC.region ?_)
                refine WR.k rfl rfl rfl (OS.assign (v := vI (0 : Int)) rfl rfl ?_)
                refine WR.nil ?_
                refine WC.ret ?_
                repeat first | refine thenQ_ret ?_ | refine blkQ_ret ?_
                cases hp
                have o42 := o32.keep (hs18.t s11) (by decide)
                have o43 := o28.keep ((s10.t hs18).t s11) (by decide) (by decide)
                exact fnQ.l1 (fn := Tryz.f20) rfl (.inl ⟨_, rfl, rfl⟩) ⟨_, _, _, rfl, ((((((((s1.t s3).t s6).t s7).t s8).t hs11).t s10).t hs18).t s11).leave hcw (by decide), o42, o41, o43⟩

-- (*holdfast/grant.Store).look
set_option maxHeartbeats 4000000 in
theorem W39 (K : Nat) (w0 : World) (cw : Col) (hcw : ∀ b, cw b < 40) {s : S_grant_Store} {tenant : List UInt8} {client : List UInt8} {r : S_api_Client × Int} (hp : grant_Store_look K s tenant client = some r) {b : Nat} {b1 : Nat} {p_ : Value} (o : Bx 3 w0 cw p_ [(.map (some b)), (.map (some b1))]) (o1 : Mp kv74 (VR.flat vv43) 4 w0 cw (.map (some b)) s.clients) (o2 : Mp kv77 (VR.flat vv25) 5 w0 cw (.map (some b1)) s.consents) :
    Calls Tryz.prog 39 [p_, vS tenant, vS client].toArray w0 fun e w1 => ∃ (d : Col), e = .returned (.tuple #[.agg (E43.e r.1).toArray, vI r.2]) ∧ St [] w0 cw w1 d := by
  refine calls_intro Tryz.func39 rfl Tryz.ntmps39 rfl ?_
  unfold grant_Store_look at hp
  refine WC.seq (WC.region ?_)
  refine WR.k rfl rfl rfl (OS.allocBx (us := [vS ([] : List UInt8), vS ([] : List UInt8), vS ([] : List UInt8), vU8 (0 : UInt8)]) (c := cw) 40 rfl Tryz.zeroValue43 rfl ?_); intro p_1 w_ c_ o3 s1
  refine WR.k rfl rfl rfl (OS.assign (v := vI (0 : Int)) rfl rfl ?_)
  refine WR.nil ?_
  refine WC.seq ?_
  refine WC.seq (WC.region ?_)
  refine WR.k rfl rfl rfl (OS.move (v := p_) rfl rfl ?_)
  have o4 := o.keep s1 (by decide)
  refine WR.k rfl rfl rfl (OS.eqPtrS rfl (.inl ⟨rfl, rfl⟩) Tryz.underlying28 rfl o4 rfl ?_)
  refine WR.nil ?_
  refine WC.condF rfl ?_
  refine WC.skip ?_
  refine WC.seq (WC.region ?_)
  refine WR.k rfl rfl rfl (OS.move (v := p_) rfl rfl ?_)
  refine WR.k rfl rfl rfl (OS.nilCheckBx rfl rfl o4 ?_)
  refine WR.k rfl rfl rfl (OS.fieldAddrBx rfl Tryz.runUnderlying69 rfl Tryz.sizeOf66 rfl rfl o4 ?_); intro p_2 a1
  refine WR.k rfl rfl rfl (OS.ld1 (u := (.map (some b))) rfl Tryz.isAgg66 rfl (o4.ldn a1 (sub_of rfl)) ?_)
  refine WR.k rfl rfl rfl (OS.move (v := vS tenant) rfl rfl ?_)
  refine WR.k rfl rfl rfl (OS.move (v := vS client) rfl rfl ?_)
  refine WR.k rfl rfl rfl (OS.build (v := .agg (E74.e (⟨tenant, client⟩ : S_grant_name)).toArray) [(0, vS tenant), (1, vS client)] rfl ⟨rfl, rfl, rfl, rfl, trivial⟩ (fun _ => by kernel_rfl) ?_)
  have o5 := o1.keep s1 (by decide) (by decide)
  refine WR.k rfl rfl rfl (OS.look2 (zv := .agg (E43.e (⟨([] : List UInt8), ([] : List UInt8), ([] : List UInt8), (0 : UInt8)⟩ : S_api_Client)).toArray) (zx := (⟨([] : List UInt8), ([] : List UInt8), ([] : List UInt8), (0 : UInt8)⟩ : S_api_Client)) (a := (⟨tenant, client⟩ : S_grant_name)) rfl K74 Tryz.underlying66 Tryz.zeroValue43 rfl rfl o5 rfl ?_); rintro _ rfl
  refine WR.k rfl rfl rfl (OS.move (v := .tuple #[.agg (E43.e ((mget s.clients (⟨tenant, client⟩ : S_grant_name)).getD (⟨([] : List UInt8), ([] : List UInt8), ([] : List UInt8), (0 : UInt8)⟩ : S_api_Client))).toArray, vB ((mget s.clients (⟨tenant, client⟩ : S_grant_name)).isSome)]) rfl rfl ?_)
  refine WR.k rfl rfl rfl (OS.extract (v := .agg (E43.e ((mget s.clients (⟨tenant, client⟩ : S_grant_name)).getD (⟨([] : List UInt8), ([] : List UInt8), ([] : List UInt8), (0 : UInt8)⟩ : S_api_Client))).toArray) rfl rfl rfl ?_)
  refine WR.k rfl rfl rfl (OS.extract (v := vB ((mget s.clients (⟨tenant, client⟩ : S_grant_name)).isSome)) rfl rfl rfl ?_)
  refine WR.k rfl rfl rfl (OS.allocBx (us := [vS ([] : List UInt8), vS ([] : List UInt8), vS ([] : List UInt8), vU8 (0 : UInt8)]) (c := c_) 41 rfl Tryz.zeroValue43 rfl ?_); intro p_3 w_1 c_1 o6 s2
  refine WR.k0 rfl rfl (OS.stBxAll (v := .agg (E43.e ((mget s.clients (⟨tenant, client⟩ : S_grant_name)).getD (⟨([] : List UInt8), ([] : List UInt8), ([] : List UInt8), (0 : UInt8)⟩ : S_api_Client))).toArray) (ws := [vS (((mget s.clients (⟨tenant, client⟩ : S_grant_name)).getD (⟨([] : List UInt8), ([] : List UInt8), ([] : List UInt8), (0 : UInt8)⟩ : S_api_Client)).Tenant), vS (((mget s.clients (⟨tenant, client⟩ : S_grant_name)).getD (⟨([] : List UInt8), ([] : List UInt8), ([] : List UInt8), (0 : UInt8)⟩ : S_api_Client)).Name), vS (((mget s.clients (⟨tenant, client⟩ : S_grant_name)).getD (⟨([] : List UInt8), ([] : List UInt8), ([] : List UInt8), (0 : UInt8)⟩ : S_api_Client)).Redirect), vU8 (((mget s.clients (⟨tenant, client⟩ : S_grant_name)).getD (⟨([] : List UInt8), ([] : List UInt8), ([] : List UInt8), (0 : UInt8)⟩ : S_api_Client)).Scopes)]) rfl Tryz.sizeOf43 rfl rfl rfl o6 rfl rfl (one_of rfl) ?_); intro w_2 o7 s3
  refine WR.k rfl rfl rfl (OS.assign (v := vB ((mget s.clients (⟨tenant, client⟩ : S_grant_name)).isSome)) rfl rfl ?_)
  refine WR.nil ?_
  refine WC.seq ?_
  refine WC.seq (WC.region ?_)
  refine WR.k rfl rfl rfl (OS.move (v := vB ((mget s.clients (⟨tenant, client⟩ : S_grant_name)).isSome)) rfl rfl ?_)
  refine WR.k rfl rfl rfl (OS.not rfl rfl ?_)
  refine WR.nil ?_
  refine WC.cond (!((mget s.clients (⟨tenant, client⟩ : S_grant_name)).isSome)) rfl (fun hb => ?_) (fun hb => ?_)
  · rw [if_pos hb] at hp
    refine WC.seq (WC.region ?_)
    refine WR.k rfl rfl rfl (OS.build (v := .agg (E43.e (⟨([] : List UInt8), ([] : List UInt8), ([] : List UInt8), (0 : UInt8)⟩ : S_api_Client)).toArray) [] rfl trivial (fun _ => by kernel_rfl) ?_)
    have o8 := o3.keep (s2.t s3) (by decide)
    refine WR.k0 rfl rfl (OS.stBxAll (v := .agg (E43.e (⟨([] : List UInt8), ([] : List UInt8), ([] : List UInt8), (0 : UInt8)⟩ : S_api_Client)).toArray) (ws := [vS ([] : List UInt8), vS ([] : List UInt8), vS ([] : List UInt8), vU8 (0 : UInt8)]) rfl Tryz.sizeOf43 rfl rfl rfl o8 rfl rfl (one_of rfl) ?_); intro w_3 o9 s4
    refine WR.k rfl rfl rfl (OS.assign (v := vI (4 : Int)) rfl rfl ?_)
    refine WR.nil ?_
    refine WC.ret ?_
    repeat first | refine thenQ_ret ?_ | refine blkQ_ret ?_
    cases hp
    exact fnQ.ls (fn := Tryz.f39) (rs := [.cell 6 43, .tmp 7]) (vs := [.agg (E43.e (⟨([] : List UInt8), ([] : List UInt8), ([] : List UInt8), (0 : UInt8)⟩ : S_api_Client)).toArray, vI (4 : Int)]) rfl ⟨(.inr ⟨_, _, _, _, rfl, ⟨_, rfl, Tryz.isAgg43, Tryz.sizeOf43, o9.ldAll, rfl⟩, rfl⟩), (.inl ⟨_, rfl, rfl⟩), trivial⟩ ⟨_, rfl, (((s1.t s2).t s3).t s4).leave hcw (by decide)⟩ (by simp)
  · rw [if_neg (nt hb)] at hp
    refine WC.skip ?_
    refine WC.seq (WC.region ?_)
    refine WR.k rfl rfl rfl (OS.ldN (us := [vS (((mget s.clients (⟨tenant, client⟩ : S_grant_name)).getD (⟨([] : List UInt8), ([] : List UInt8), ([] : List UInt8), (0 : UInt8)⟩ : S_api_Client)).Tenant), vS (((mget s.clients (⟨tenant, client⟩ : S_grant_name)).getD (⟨([] : List UInt8), ([] : List UInt8), ([] : List UInt8), (0 : UInt8)⟩ : S_api_Client)).Name), vS (((mget s.clients (⟨tenant, client⟩ : S_grant_name)).getD (⟨([] : List UInt8), ([] : List UInt8), ([] : List UInt8), (0 : UInt8)⟩ : S_api_Client)).Redirect), vU8 (((mget s.clients (⟨tenant, client⟩ : S_grant_name)).getD (⟨([] : List UInt8), ([] : List UInt8), ([] : List UInt8), (0 : UInt8)⟩ : S_api_Client)).Scopes)]) rfl Tryz.isAgg43 Tryz.sizeOf43 rfl o7.ldAll rfl ?_)
    have o10 := o3.keep (s2.t s3) (by decide)
    refine WR.k0 rfl rfl (OS.stBxAll (v := .agg (E43.e ((mget s.clients (⟨tenant, client⟩ : S_grant_name)).getD (⟨([] : List UInt8), ([] : List UInt8), ([] : List UInt8), (0 : UInt8)⟩ : S_api_Client))).toArray) (ws := [vS (((mget s.clients (⟨tenant, client⟩ : S_grant_name)).getD (⟨([] : List UInt8), ([] : List UInt8), ([] : List UInt8), (0 : UInt8)⟩ : S_api_Client)).Tenant), vS (((mget s.clients (⟨tenant, client⟩ : S_grant_name)).getD (⟨([] : List UInt8), ([] : List UInt8), ([] : List UInt8), (0 : UInt8)⟩ : S_api_Client)).Name), vS (((mget s.clients (⟨tenant, client⟩ : S_grant_name)).getD (⟨([] : List UInt8), ([] : List UInt8), ([] : List UInt8), (0 : UInt8)⟩ : S_api_Client)).Redirect), vU8 (((mget s.clients (⟨tenant, client⟩ : S_grant_name)).getD (⟨([] : List UInt8), ([] : List UInt8), ([] : List UInt8), (0 : UInt8)⟩ : S_api_Client)).Scopes)]) rfl Tryz.sizeOf43 rfl rfl rfl o10 rfl rfl (one_of rfl) ?_); intro w_4 o11 s5
    refine WR.k rfl rfl rfl (OS.assign (v := vI (0 : Int)) rfl rfl ?_)
    refine WR.nil ?_
    refine WC.ret ?_
    repeat first | refine thenQ_ret ?_ | refine blkQ_ret ?_
    cases hp
    exact fnQ.ls (fn := Tryz.f39) (rs := [.cell 6 43, .tmp 7]) (vs := [.agg (E43.e ((mget s.clients (⟨tenant, client⟩ : S_grant_name)).getD (⟨([] : List UInt8), ([] : List UInt8), ([] : List UInt8), (0 : UInt8)⟩ : S_api_Client))).toArray, vI (0 : Int)]) rfl ⟨(.inr ⟨_, _, _, _, rfl, ⟨_, rfl, Tryz.isAgg43, Tryz.sizeOf43, o11.ldAll, rfl⟩, rfl⟩), (.inl ⟨_, rfl, rfl⟩), trivial⟩ ⟨_, rfl, (((s1.t s2).t s3).t s5).leave hcw (by decide)⟩ (by simp)

-- slices.SortFunc[[]holdfast/api.Consent,holdfast/api.Consent]
theorem X72a (w0 : World) (x : List UInt8) : Calls Tryz.prog 72 [vS x].toArray w0 fun e w1 => e = .returned (vB (!decide (x = x))) ∧ w1 = w0 := by
  refine calls_intro Tryz.func72 rfl Tryz.ntmps72 rfl ?_
  refine WC.seq (WC.region ?_)
  refine WR.k rfl rfl rfl (OS.assign (v := vB false) rfl rfl ?_)
  refine WR.nil ?_
  refine WC.seq (WC.region ?_)
  refine WR.k rfl rfl rfl (OS.move (v := vS x) rfl rfl ?_)
  refine WR.k rfl rfl rfl (OS.move (v := vS x) rfl rfl ?_)
  refine WR.k rfl rfl rfl (OS.bin (a := vS x) (b := vS x) rfl rfl rfl bS_neq ?_)
  refine WR.k rfl rfl rfl (OS.assign (v := vB (!decide (x = x))) rfl rfl ?_)
  refine WR.nil ?_
  refine WC.ret ?_
  repeat first | refine thenQ_ret ?_ | refine blkQ_ret ?_
  exact fnQ.l1 (fn := Tryz.f72) rfl (.inl ⟨_, rfl, rfl⟩) ⟨rfl, rfl⟩
theorem X72 (w0 : World) (x : List UInt8) : Calls Tryz.prog 72 [vS x].toArray w0 fun e w1 => e = .returned (vB false) ∧ w1 = w0 :=
  (X72a w0 x).mono fun _ _ h => ⟨by rw [h.1]; simp, h.2⟩
theorem X44 (w0 : World) (x y : List UInt8) : Calls Tryz.prog 44 [vS x, vS y].toArray w0 fun e w1 => e = .returned (vI (cmpS x y)) ∧ w1 = w0 := by
  refine calls_intro Tryz.func44 rfl Tryz.ntmps44 rfl ?_
  refine WC.seq (WC.region ?_)
  refine WR.k rfl rfl rfl (OS.assign (v := vI (0 : Int)) rfl rfl ?_)
  refine WR.nil ?_
  refine WC.seq (WC.region ?_)
  refine WR.k rfl rfl rfl (OS.move (v := vS x) rfl rfl ?_)
  refine WR.k rfl rfl rfl (OS.callF (vs := [vS x]) rfl ⟨rfl, trivial⟩ Tryz.call72 ((X72 w0 x).mono ?_))
  rintro _ w_ ⟨rfl, rfl⟩
  refine ⟨_, rfl, ?_⟩
  refine WR.k rfl rfl rfl (OS.assign (v := vB false) rfl rfl ?_)
  refine WR.nil ?_
  refine WC.seq (WC.region ?_)
  refine WR.k rfl rfl rfl (OS.move (v := vS y) rfl rfl ?_)
  refine WR.k rfl rfl rfl (OS.callF (vs := [vS y]) rfl ⟨rfl, trivial⟩ Tryz.call72 ((X72 w_ y).mono ?_))
  rintro _ w_1 ⟨rfl, rfl⟩
  refine ⟨_, rfl, ?_⟩
  refine WR.k rfl rfl rfl (OS.assign (v := vB false) rfl rfl ?_)
  refine WR.nil ?_
  refine WC.seq ?_
  refine WC.seq (WC.region ?_)
  refine WR.k rfl rfl rfl (OS.move (v := vB false) rfl rfl ?_)
  refine WR.nil ?_
  refine WC.condF rfl ?_
  refine WC.skip ?_
  refine WC.seq ?_
  refine WC.seq (WC.region ?_)
  refine WR.k rfl rfl rfl (OS.move (v := vB false) rfl rfl ?_)
  refine WR.nil ?_
  refine WC.condF rfl ?_
  refine WC.skip ?_
  refine WC.seq ?_
  refine WC.seq (WC.region ?_)
  refine WR.k rfl rfl rfl (OS.move (v := vS x) rfl rfl ?_)
  refine WR.k rfl rfl rfl (OS.move (v := vS y) rfl rfl ?_)
  refine WR.k rfl rfl rfl (OS.bin (a := vS x) (b := vS y) rfl rfl rfl bS_lss ?_)
  refine WR.nil ?_
  refine WC.cond (ltS x y) rfl (fun hb3 => ?_) (fun hb3 => ?_)
  · refine WC.seq (WC.region ?_)
    refine WR.k rfl rfl rfl (OS.assign (v := vI (-1 : Int)) rfl rfl ?_)
    refine WR.nil ?_
    refine WC.ret ?_
    repeat first | refine thenQ_ret ?_ | refine blkQ_ret ?_
    exact fnQ.l1 (fn := Tryz.f44) rfl (.inl ⟨_, rfl, rfl⟩) ⟨by rw [show cmpS x y = -1 from by unfold cmpS; rw [if_pos hb3]]; rfl, rfl⟩
  · refine WC.skip ?_
    refine WC.seq ?_
    refine WC.seq (WC.region ?_)
    refine WR.k rfl rfl rfl (OS.move (v := vS x) rfl rfl ?_)
    refine WR.k rfl rfl rfl (OS.move (v := vS y) rfl rfl ?_)
    refine WR.k rfl rfl rfl (OS.bin (a := vS x) (b := vS y) rfl rfl rfl bS_gtr ?_)
    refine WR.nil ?_
    refine WC.cond (!(ltS x y || decide (x = y))) rfl (fun hb4 => ?_) (fun hb4 => ?_)
    · refine WC.seq (WC.region ?_)
      refine WR.k rfl rfl rfl (OS.assign (v := vI (1 : Int)) rfl rfl ?_)
      refine WR.nil ?_
      refine WC.ret ?_
      repeat first | refine thenQ_ret ?_ | refine blkQ_ret ?_
      exact fnQ.l1 (fn := Tryz.f44) rfl (.inl ⟨_, rfl, rfl⟩) ⟨by rw [show cmpS x y = 1 from by unfold cmpS; rw [if_neg (nt hb3), if_pos hb4]]; rfl, rfl⟩
    · refine WC.skip ?_
      refine WC.seq (WC.region ?_)
      refine WR.k rfl rfl rfl (OS.assign (v := vI (0 : Int)) rfl rfl ?_)
      refine WR.nil ?_
      refine WC.ret ?_
      repeat first | refine thenQ_ret ?_ | refine blkQ_ret ?_
      exact fnQ.l1 (fn := Tryz.f44) rfl (.inl ⟨_, rfl, rfl⟩) ⟨by rw [show cmpS x y = 0 from by unfold cmpS; rw [if_neg (nt hb3), if_neg (nt hb4)]]; rfl, rfl⟩
theorem X59 (w0 : World) (a b : S_api_Consent) : Calls Tryz.prog 59 #[.agg (E47.e a).toArray, .agg (E47.e b).toArray] w0 fun e w1 => e = .returned (vI (cmpS a.Client b.Client)) ∧ ∃ q os', w1 = Go.Sort.grow (w0.drewN q) os' := by
  refine calls_intro Tryz.func59 rfl Tryz.ntmps59 rfl ?_
  refine WC.seq (WC.region ?_)
  refine WR.k rfl rfl rfl (OS.boxG (us := [vS a.Owner.Tenant, vS a.Owner.User, vS a.Client, vU8 a.Scopes]) (c := c0) 2 rfl rfl rfl ?_); intro p_ w_ c_ ob hw o s
  refine WR.k rfl rfl rfl (OS.boxG (us := [vS b.Owner.Tenant, vS b.Owner.User, vS b.Client, vU8 b.Scopes]) (c := c_) 3 rfl rfl rfl ?_); intro p_1 w_1 c_1 ob1 hw1 o1 s1
  refine WR.k rfl rfl rfl (OS.assign (v := vI (0 : Int)) rfl rfl ?_)
  refine WR.nil ?_
  refine WC.seq (WC.region ?_)
  have o2 := o.keep s1 (by decide)
  refine WR.k rfl rfl rfl (OS.fieldAddrBx rfl Tryz.runUnderlying47 rfl Tryz.sizeOf9 rfl rfl o2 ?_); intro p_2 a2
  refine WR.k rfl rfl rfl (OS.ld1 (u := vS a.Client) rfl Tryz.isAgg9 rfl (o2.ldn a2 (sub_of rfl)) ?_)
  refine WR.k rfl rfl rfl (OS.fieldAddrBx rfl Tryz.runUnderlying47 rfl Tryz.sizeOf9 rfl rfl o1 ?_); intro p_3 a3
  refine WR.k rfl rfl rfl (OS.ld1 (u := vS b.Client) rfl Tryz.isAgg9 rfl (o1.ldn a3 (sub_of rfl)) ?_)
  refine WR.k rfl rfl rfl (OS.callF (vs := [vS a.Client, vS b.Client]) rfl ⟨rfl, rfl, trivial⟩ Tryz.call44 ((X44 w_1 a.Client b.Client).mono ?_))
  rintro _ w_2 ⟨rfl, rfl⟩
  refine ⟨_, rfl, ?_⟩
  refine WR.k rfl rfl rfl (OS.assign (v := vI (cmpS a.Client b.Client)) rfl rfl ?_)
  refine WR.nil ?_
  refine WC.ret ?_
  repeat first | refine thenQ_ret ?_ | refine blkQ_ret ?_
  exact fnQ.l1 (fn := Tryz.f59) rfl (.inl ⟨_, rfl, rfl⟩) ⟨rfl, 0, #[ob] ++ #[ob1], by rw [hw1, hw, Go.Sort.alloc_eq_grow, Go.Sort.alloc_eq_grow, Go.Sort.grow_grow]; rfl⟩
theorem W58f59 (K : Nat) (w0 : World) (cw : Col) (hcw : ∀ b, cw b < 40) {x : List S_api_Consent} {r : List S_api_Consent} (hp : api_Consent_58_f59 K x = some r) {v : Value} (o : Ow E47 3 w0 cw v x) :
    Calls Tryz.prog 58 [v, .func (.func 59) #[] #[]].toArray w0 fun e w1 => ∃ (d : Col), e = .returned (.tuple #[]) ∧ St [3] w0 cw w1 d ∧ Ow E47 3 w1 d v r := by
  unfold api_Consent_58_f59 at hp
  split at hp
  · rename_i h
    cases hp
    exact sort_calls Tryz.lays58 E47 Tryz.isAgg47 Tryz.sizeOf47 (fun (a b : S_api_Consent) => cmpS a.Client b.Client) (swo_str fun a : S_api_Consent => a.Client) 59 (fun args w => enters_of Tryz.func59 (by kernel_rfl) rfl args w) (fun x y W => X59 W x y) h o
  · cases hp

-- (*holdfast/grant.Store).Consents
set_option maxHeartbeats 4000000 in
theorem W27 (K : Nat) (w0 : World) (cw : Col) (hcw : ∀ b, cw b < 40) {s : S_grant_Store} {o3 : S_api_Owner} {r : (List S_api_Consent)} (hp : grant_Store_Consents K s o3 = some r) {b : Nat} {b1 : Nat} {p_ : Value} (o : Bx 3 w0 cw p_ [(.map (some b)), (.map (some b1))]) (o1 : Mp kv74 (VR.flat vv43) 4 w0 cw (.map (some b)) s.clients) (o2 : Mp kv77 (VR.flat vv25) 5 w0 cw (.map (some b1)) s.consents) :
    Calls Tryz.prog 27 [p_, .agg (E24.e o3).toArray].toArray w0 fun e w1 => ∃ (sl1 : Sl) (d : Col), e = .returned (sl1.val) ∧ St [] w0 cw w1 d ∧ Ow E47 2000 w1 d sl1.val r := by
  refine calls_intro Tryz.func27 rfl Tryz.ntmps27 rfl ?_
  unfold grant_Store_Consents at hp
  refine WC.seq (WC.region ?_)
  refine WR.k rfl rfl rfl (OS.boxBx (us := [vS o3.Tenant, vS o3.User]) (c := cw) 40 rfl rfl rfl ?_); intro p_1 w_ c_ o4 s1
  refine WR.k rfl rfl rfl (OS.assign (v := (.slice none 0 0)) rfl rfl ?_)
  refine WR.nil ?_
  refine WC.seq ?_
  refine WC.seq (WC.region ?_)
  refine WR.k rfl rfl rfl (OS.move (v := p_) rfl rfl ?_)
  have o5 := o.keep s1 (by decide)
  refine WR.k rfl rfl rfl (OS.eqPtrS rfl (.inl ⟨rfl, rfl⟩) Tryz.underlying28 rfl o5 rfl ?_)
  refine WR.nil ?_
  refine WC.condF rfl ?_
  refine WC.skip ?_
  refine WC.seq (WC.region ?_)
  refine WR.k rfl rfl rfl (OS.assign (v := (.slice none 0 0)) rfl rfl ?_)
  refine WR.nil ?_
  refine WC.seq ?_
  refine WC.seq (WC.region ?_)
  refine WR.k rfl rfl rfl (OS.move (v := p_) rfl rfl ?_)
  refine WR.k rfl rfl rfl (OS.nilCheckBx rfl rfl o5 ?_)
  refine WR.k rfl rfl rfl (OS.fieldAddrBx rfl Tryz.runUnderlying69 rfl Tryz.sizeOf67 rfl rfl o5 ?_); intro p_2 a1
  refine WR.k rfl rfl rfl (OS.ld1 (u := (.map (some b1))) rfl Tryz.isAgg67 rfl (o5.ldn a1 (sub_of rfl)) ?_)
  have o6 := o2.keep s1 (by decide) (by decide)
  refine WR.k rfl rfl rfl (OS.range (c := c_) 41 rfl Tryz.runUnderlying67 rfl o6 ?_); intro p_3 w_1 c_1 o7 s2
  refine WR.nil ?_
  obtain ⟨kf, hkf, hM⟩ := mrngK_name hp
  replace hM : Mqk (grant_Store_Consents.m1 K o3 : S_grant_use × UInt8 → (List S_api_Consent) → Option (Lr Unit (List S_api_Consent))) s.consents ([] : List S_api_Consent) kf := hM
  refine WC.blockJ2 (fun f_ w_2 => ∃ (out : List S_api_Consent) (v_ : Value) (c_2 : Col), kf (.go out) ∧ f_ 0 = p_ ∧ f_ 5 = v_ ∧ Mp kv77 (VR.flat vv25) 5 w_2 c_2 (.map (some b1)) s.consents ∧ Bx 3 w_2 c_2 p_ [(.map (some b)), (.map (some b1))] ∧ Ow E47 42 w_2 c_2 v_ out ∧ St [41, 42, 43, 45, 47] w_1 c_1 w_2 c_2) ?_ ?_
  · have o11 := o5.keep s2 (by decide)
    refine WC.loop (fun n => fun f_1 w_3 => ∃ (out : List S_api_Consent) (left : List (S_grant_use × UInt8)) (v_ : Value) (c_3 : Col), Mqk (grant_Store_Consents.m1 K o3 : S_grant_use × UInt8 → (List S_api_Consent) → Option (Lr Unit (List S_api_Consent))) left out kf ∧ n = left.length ∧ f_1 0 = p_ ∧ f_1 3 = p_1 ∧ f_1 5 = v_ ∧ f_1 14 = p_3 ∧ MpI kv77 (VR.flat vv25) 5 41 w_3 c_3 (.map (some b1)) p_3 s.consents left ∧ Bx 3 w_3 c_3 p_ [(.map (some b)), (.map (some b1))] ∧ Ow E47 42 w_3 c_3 v_ out ∧ St [41, 42, 43, 45, 47] w_1 c_1 w_3 c_3) s.consents.length ⟨_, _, _, _, hM, rfl, rfl, rfl, rfl, rfl, o7, o11, Ow.nil, St.refl.mono (by decide)⟩ ?_
    rintro n f_1 w_3 ⟨out, left, v_, c_3, hM1, hn, h, h1, h2, h3, o9, o8, o10, s3⟩
    refine WC.seq (WC.region ?_)
    refine WR.k rfl rfl rfl (OS.next rfl K77 h3 o9 (by decide) (by decide) (fun hl => ?_) (fun l k1 u l1 v_1 w_4 hsp hnk hu o12 o13 s4 => ?_))
    · refine WR.k rfl rfl rfl (OS.extract (v := vB false) rfl rfl rfl ?_)
      refine WR.nil ?_
      refine WC.seq ?_
      refine WC.condF rfl ?_
      refine WC.exit ?_
      have o14 := o9.mp
      exact ⟨_, _, _, hM1.done hl, h, h2, o14, o8, o10, s3.mono (by decide)⟩
    · obtain rfl := hu
      obtain ⟨b2, hb, hgo, hret⟩ := hM1.step hsp
      unfold grant_Store_Consents.m1 at hb
      dsimp only at hb
      refine WR.k rfl rfl rfl (OS.extract (v := vB true) rfl rfl rfl ?_)
      refine WR.nil ?_
      refine WC.seq ?_
      refine WC.condT rfl ?_
      refine WC.skip ?_
      refine WC.block ?_
      refine WC.seq (WC.region ?_)
      refine WR.k rfl rfl rfl (OS.entry rfl h3 o13 ?_)
      refine WR.k rfl rfl rfl (OS.extract (v := .agg (E77.e k1).toArray) rfl rfl rfl ?_)
      refine WR.k rfl rfl rfl (OS.extract (v := vU8 u) rfl rfl rfl ?_)
      refine WR.k rfl rfl rfl (OS.allocBx (us := [vS ([] : List UInt8), vS ([] : List UInt8), vS ([] : List UInt8)]) (c := c_3) 47 rfl Tryz.zeroValue77 rfl ?_); intro p_4 w_5 c_4 o15 s5
      refine WR.k0 rfl rfl (OS.stBxAll (v := .agg (E77.e k1).toArray) (ws := [vS k1.Owner.Tenant, vS k1.Owner.User, vS k1.client]) rfl Tryz.sizeOf77 rfl rfl rfl o15 rfl rfl (one_of rfl) ?_); intro w_6 o16 s6
      refine WR.k rfl rfl rfl (OS.assign (v := vU8 u) rfl rfl ?_)
      refine WR.nil ?_
      refine WC.seq (WC.region ?_)
      refine WR.k rfl rfl rfl (OS.fieldAddrBx rfl Tryz.runUnderlying77 rfl Tryz.sizeOf24 rfl rfl o16 ?_); intro p_5 a2
      refine WR.k rfl rfl rfl (OS.ldN (us := [vS k1.Owner.Tenant, vS k1.Owner.User]) rfl Tryz.isAgg24 Tryz.sizeOf24 rfl (o16.ldn a2 (sub_of rfl)) rfl ?_)
      have o17 := o4.keep ((((s2.t s3).t s4).t s5).t s6) (by decide)
      refine WR.k rfl rfl rfl (OS.ldN (us := [vS o3.Tenant, vS o3.User]) rfl Tryz.isAgg24 Tryz.sizeOf24 h1 o17.ldAll rfl ?_)
      refine WR.k rfl rfl rfl (OS.eqSt (us := E24.e k1.Owner) (vs := E24.e o3) rfl (.inl ⟨rfl, rfl⟩) Tryz.eqGuardType24 rfl rfl (fun w => q24 9998 _ _ w) ?_)
      refine WR.nil ?_
      refine WC.cond (decide (k1.Owner = o3)) rfl (fun hb1 => ?_) (fun hb1 => ?_)
      · rw [if_pos hb1] at hb
        refine WC.region ?_
        refine WR.k rfl rfl rfl (OS.move (v := v_) rfl h2 ?_)
        refine WR.k rfl rfl rfl (OS.ldN (us := [vS o3.Tenant, vS o3.User]) rfl Tryz.isAgg24 Tryz.sizeOf24 h1 o17.ldAll rfl ?_)
        refine WR.k rfl rfl rfl (OS.fieldAddrBx rfl Tryz.runUnderlying77 rfl Tryz.sizeOf9 rfl rfl o16 ?_); intro p_6 a3
        refine WR.k rfl rfl rfl (OS.ld1 (u := vS k1.client) rfl Tryz.isAgg9 rfl (o16.ldn a3 (sub_of rfl)) ?_)
        refine WR.k rfl rfl rfl (OS.move (v := vU8 u) rfl rfl ?_)
        refine WR.k rfl rfl rfl (OS.build (v := .agg (E47.e (⟨o3, k1.client, u⟩ : S_api_Consent)).toArray) [(0, .agg (E24.e o3).toArray), (1, vS k1.client), (2, vU8 u)] rfl ⟨rfl, rfl, rfl, rfl, rfl, rfl, trivial⟩ (fun _ => by kernel_rfl) ?_)
        obtain ⟨l2, hl2, hb⟩ := bind_some hb
        replace hl2 := (Option.some.inj hl2).symm
        refine WR.k rfl rfl rfl (OS.bslice (E := E47) (c := c_4) 48 ([(⟨o3, k1.client, u⟩ : S_api_Consent)] : List S_api_Consent) [(0, .agg (E47.e (⟨o3, k1.client, u⟩ : S_api_Consent)).toArray)] rfl ⟨rfl, rfl, trivial⟩ (fun _ => by kernel_rfl) rfl (by decide) ?_); intro v_2 w_7 c_5 o18 s7
        replace o18 : Ow E47 48 w_7 c_5 v_2 l2 := by rw [hl2]; exact o18
        have o19 := o10.keep (((s4.t s5).t s6).t s7) (by decide)
        obtain ⟨out1, hout1, hb⟩ := bind_some hb
        obtain ⟨ha, hout1⟩ := app_some hout1
        refine WR.k rfl rfl rfl (OS.append (E := E47) (c := c_5) (i := 42) (xs := out) (ys := l2) rfl Tryz.underlying58 Tryz.underlying58 (.inl rfl) I47 rfl rfl rfl rfl rfl o19 o18.vw.src (lim_bytes (by decide) ha) (lim_max (b := 56) (by decide) ha) ?_); intro v_3 w_8 c_6 o20 s8
        replace o20 : Ow E47 42 w_8 c_6 v_3 out1 := by rw [hout1]; exact o20
        refine WR.k rfl rfl rfl (OS.assign (v := v_3) rfl rfl ?_)
        refine WR.nil ?_
        cases hb
        have o21 := o12.keep (((s5.t s6).t s7).t s8) (by decide) (by decide) (by decide)
        have o22 := o8.keep ((((s4.t s5).t s6).t s7).t s8) (by decide)
        exact ⟨(l ++ l1).length, (by rw [hn, hsp]; simp only [List.length_append, List.length_cons]; omega), ⟨_, _, _, _, hgo _ rfl, rfl, h, h1, rfl, h3, o21, o22, o20, (((((s3.t s4).t s5).t s6).t s7).t s8).mono (by decide)⟩⟩
      · rw [if_neg (nt hb1)] at hb
        refine WC.skip ?_
        cases hb
        have o23 := o12.keep (s5.t s6) (by decide) (by decide) (by decide)
        have o24 := o8.keep ((s4.t s5).t s6) (by decide)
        have o25 := o10.keep ((s4.t s5).t s6) (by decide)
        exact ⟨(l ++ l1).length, (by rw [hn, hsp]; simp only [List.length_append, List.length_cons]; omega), ⟨_, _, _, _, hgo _ rfl, rfl, h, h1, h2, h3, o23, o24, o25, (((s3.t s4).t s5).t s6).mono (by decide)⟩⟩
  · rintro f_ w_2 ⟨out, v_, c_2, hq, h4, h5, o9, o8, o10, s9⟩
    replace hp := hkf _ hq; simp only [lrc] at hp
    refine WC.seq (WC.region ?_)
    refine WR.k rfl rfl rfl (OS.move (v := v_) rfl h5 ?_)
    obtain ⟨r_, hr_, hp⟩ := bind_some hp
    refine WR.k rfl rfl rfl (OS.callF (vs := [v_, .func (.func 59) #[] #[]]) rfl ⟨rfl, rfl, trivial⟩ Tryz.call58 ((W58f59 K w_2 (rcc [42] c_2) (rcc_lt c_2 rfl) hr_ (o10.tr (rc_tr (by decide)))).mono ?_))
    rintro _ w_9 ⟨d1, rfl, s10, o26⟩
    refine ⟨_, rfl, ?_⟩
    obtain ⟨c_7, s11, o26⟩ : ∃ c_7, St [42] w_2 c_2 w_9 c_7 ∧ Ow E47 42 w_9 c_7 v_ r_ := ⟨_, s10.mg2 (sh := 10000) rfl, o26.tr (mg2_back s10 rfl)⟩
    refine WR.nil ?_
    refine WC.seq (WC.region ?_)
    refine WR.k rfl rfl rfl (OS.move (v := v_) rfl h5 ?_)
    refine WR.k rfl rfl rfl (OS.assign (v := v_) rfl rfl ?_)
    refine WR.nil ?_
    refine WC.ret ?_
    repeat first | refine thenQ_ret ?_ | refine blkQ_ret ?_
    obtain ⟨sl, e1⟩ := isSlv o26.isSl; subst e1
    cases hp
    obtain ⟨c_8, s12, o27⟩ := o26.recol 2000
    exact fnQ.l1 (fn := Tryz.f27) rfl (.inl ⟨_, rfl, rfl⟩) ⟨_, _, rfl, ((((s1.t s2).t s9).t s11).t s12).leave hcw (by decide), o27⟩

-- (*holdfast/grant.Store).Allow
set_option maxHeartbeats 4000000 in
theorem W22 (K : Nat) (w0 : World) (cw : Col) (hcw : ∀ b, cw b < 40) {s : S_grant_Store} {c_ : S_api_Consent} {r : Int × S_grant_Store} (hp : grant_Store_Allow K s c_ = some r) {b : Nat} {b1 : Nat} {p_ : Value} (o : Bx 3 w0 cw p_ [(.map (some b)), (.map (some b1))]) (o1 : Mp kv74 (VR.flat vv43) 4 w0 cw (.map (some b)) s.clients) (o2 : Mp kv77 (VR.flat vv25) 5 w0 cw (.map (some b1)) s.consents) :
    Calls Tryz.prog 22 [p_, .agg (E47.e c_).toArray].toArray w0 fun e w1 => ∃ (b4 : Nat) (b5 : Nat) (d : Col), e = .returned (vI r.1) ∧ St [3, 4, 5] w0 cw w1 d ∧ Bx 3 w1 d p_ [(.map (some b4)), (.map (some b5))] ∧ Mp kv74 (VR.flat vv43) 4 w1 d (.map (some b4)) r.2.clients ∧ Mp kv77 (VR.flat vv25) 5 w1 d (.map (some b5)) r.2.consents := by
  refine calls_intro Tryz.func22 rfl Tryz.ntmps22 rfl ?_
  unfold grant_Store_Allow at hp
  refine WC.seq (WC.region ?_)
  refine WR.k rfl rfl rfl (OS.boxBx (us := [vS c_.Owner.Tenant, vS c_.Owner.User, vS c_.Client, vU8 c_.Scopes]) (c := cw) 40 rfl rfl rfl ?_); intro p_1 w_ c_1 o3 s1
  refine WR.k rfl rfl rfl (OS.assign (v := vI (0 : Int)) rfl rfl ?_)
  refine WR.nil ?_
  refine WC.seq ?_
  refine WC.seq (WC.region ?_)
  refine WR.k rfl rfl rfl (OS.move (v := p_) rfl rfl ?_)
  have o4 := o.keep s1 (by decide)
  refine WR.k rfl rfl rfl (OS.eqPtrS rfl (.inl ⟨rfl, rfl⟩) Tryz.underlying28 rfl o4 rfl ?_)
  refine WR.nil ?_
  refine WC.condF rfl ?_
  refine WC.skip ?_
  refine WC.seq ?_
  refine WC.seq (WC.region ?_)
  refine WR.k rfl rfl rfl (OS.fieldAddrBx rfl Tryz.runUnderlying47 rfl Tryz.sizeOf24 rfl rfl o3 ?_); intro p_2 a1
  refine WR.k rfl rfl rfl (OS.fieldAddrP rfl Tryz.runUnderlying24 rfl Tryz.sizeOf9 rfl rfl a1 ?_); intro p_3 a2
  refine WR.k rfl rfl rfl (OS.ld1 (u := vS c_.Owner.Tenant) rfl Tryz.isAgg9 rfl (o3.ldn a2 (sub_of rfl)) ?_)
  obtain ⟨r_, hr_, hp⟩ := bind_some hp
  refine WR.k rfl rfl rfl (OS.callF (vs := [vS c_.Owner.Tenant]) rfl ⟨rfl, trivial⟩ Tryz.call51 ((W51 K w_ (rcc [] c_1) (rcc_lt c_1 rfl) hr_).mono ?_))
  rintro _ w_1 ⟨d1, rfl, s2⟩
  refine ⟨_, rfl, ?_⟩
  obtain ⟨c_2, s3⟩ : ∃ c_2, St [] w_ c_1 w_1 c_2 := ⟨_, s2.mg2 (sh := 10000) rfl⟩
  refine WR.k rfl rfl rfl (OS.not rfl rfl ?_)
  refine WR.k rfl rfl rfl (OS.move (v := vB (!r_)) rfl rfl ?_)
  obtain ⟨b2, ht, hp⟩ := bind_some hp
  refine WR.cut2 6 (fun f_ w_2 => ∃ (c_3 : Col), f_ 0 = p_ ∧ f_ 3 = p_1 ∧ f_ 23 = vB b2 ∧ St [] w_1 c_2 w_2 c_3) ?_ ?_
  · rcases Bool.eq_false_or_eq_true (!r_) with hg | hg
    · rw [if_pos hg] at ht
      refine WR.gF rfl rfl (vb_t rfl hg) rfl rfl ?_
      refine WR.gF rfl rfl (vb_t rfl hg) rfl rfl ?_
      refine WR.gF rfl rfl (vb_t rfl hg) rfl rfl ?_
      refine WR.gF rfl rfl (vb_t rfl hg) rfl rfl ?_
      refine WR.gF rfl rfl (vb_t rfl hg) rfl rfl ?_
      refine WR.k rfl rfl rfl (OS.pickT rfl (vb_t rfl hg) rfl ?_)
      cases ht
      refine WR.nil ?_
      exact ⟨_, rfl, rfl, rfl, St.refl.mono (by decide)⟩
    · rw [if_neg (nt hg)] at ht
      have o5 := o3.keep s3 (by decide)
      refine WR.kT rfl rfl (vb_f rfl hg) rfl rfl (OS.fieldAddrBx rfl Tryz.runUnderlying47 rfl Tryz.sizeOf24 rfl rfl o5 ?_); intro p_4 a3
      refine WR.kT rfl rfl (vb_f rfl hg) rfl rfl (OS.fieldAddrP rfl Tryz.runUnderlying24 rfl Tryz.sizeOf9 rfl rfl a3 ?_); intro p_5 a4
      refine WR.kT rfl rfl (vb_f rfl hg) rfl rfl (OS.ld1 (u := vS c_.Owner.User) rfl Tryz.isAgg9 rfl (o5.ldn a4 (sub_of rfl)) ?_)
      obtain ⟨r_1, hr_1, ht⟩ := bind_some ht
      refine WR.kT rfl rfl (vb_f rfl hg) rfl rfl (OS.callF (vs := [vS c_.Owner.User]) rfl ⟨rfl, trivial⟩ Tryz.call51 ((W51 K w_1 (rcc [] c_2) (rcc_lt c_2 rfl) hr_1).mono ?_))
      rintro _ w_3 ⟨d2, rfl, s4⟩
      refine ⟨_, rfl, ?_⟩
      obtain ⟨c_4, s5⟩ : ∃ c_4, St [] w_1 c_2 w_3 c_4 := ⟨_, s4.mg2 (sh := 30000) rfl⟩
      refine WR.kT rfl rfl (vb_f rfl hg) rfl rfl (OS.not rfl rfl ?_)
      refine WR.k rfl rfl rfl (OS.pickF rfl (vb_f rfl hg) rfl ?_)
      cases ht
      refine WR.nil ?_
      exact ⟨_, rfl, rfl, rfl, s5.mono (by decide)⟩
  · rintro f_ w_2 ⟨c_3, h, h1, h2, s6⟩
    refine WR.nil ?_
    refine WC.cond (b2) h2 (fun hb => ?_) (fun hb => ?_)
    · rw [if_pos hb] at hp
      refine WC.seq (WC.region ?_)
      refine WR.k rfl rfl rfl (OS.assign (v := vI (8 : Int)) rfl rfl ?_)
      refine WR.nil ?_
      refine WC.ret ?_
      repeat first | refine thenQ_ret ?_ | refine blkQ_ret ?_
      cases hp
      have o6 := o4.keep (s3.t s6) (by decide)
      have o7 := o1.keep ((s1.t s3).t s6) (by decide) (by decide)
      have o8 := o2.keep ((s1.t s3).t s6) (by decide) (by decide)
      exact fnQ.l1 (fn := Tryz.f22) rfl (.inl ⟨_, rfl, rfl⟩) ⟨_, _, _, rfl, ((s1.t s3).t s6).leave hcw (by decide), o6, o7, o8⟩
    · rw [if_neg (nt hb)] at hp
      refine WC.skip ?_
      refine WC.seq (WC.region ?_)
      refine WR.k rfl rfl rfl (OS.move (v := p_) rfl h ?_)
      have o9 := o3.keep (s3.t s6) (by decide)
      refine WR.k rfl rfl rfl (OS.fieldAddrBx rfl Tryz.runUnderlying47 rfl Tryz.sizeOf24 rfl h1 o9 ?_); intro p_6 a5
      refine WR.k rfl rfl rfl (OS.fieldAddrP rfl Tryz.runUnderlying24 rfl Tryz.sizeOf9 rfl rfl a5 ?_); intro p_7 a6
      refine WR.k rfl rfl rfl (OS.ld1 (u := vS c_.Owner.Tenant) rfl Tryz.isAgg9 rfl (o9.ldn a6 (sub_of rfl)) ?_)
      refine WR.k rfl rfl rfl (OS.fieldAddrBx rfl Tryz.runUnderlying47 rfl Tryz.sizeOf9 rfl h1 o9 ?_); intro p_8 a7
      refine WR.k rfl rfl rfl (OS.ld1 (u := vS c_.Client) rfl Tryz.isAgg9 rfl (o9.ldn a7 (sub_of rfl)) ?_)
      have o10 := o4.keep (s3.t s6) (by decide)
      have o11 := o1.keep ((s1.t s3).t s6) (by decide) (by decide)
      have o12 := o2.keep ((s1.t s3).t s6) (by decide) (by decide)
      obtain ⟨r_2, hr_2, hp⟩ := bind_some hp
      refine WR.k rfl rfl rfl (OS.callF (vs := [p_, vS c_.Owner.Tenant, vS c_.Client]) rfl ⟨rfl, rfl, rfl, trivial⟩ Tryz.call39 ((W39 K w_2 (rcc [3, 4, 5] c_3) (rcc_lt c_3 rfl) hr_2 (o10.tr (rc_tr (by decide))) (o11.tr (rc_tr (by decide))) (o12.tr (rc_tr (by decide)))).mono ?_))
      rintro _ w_4 ⟨d3, rfl, s7⟩
      refine ⟨_, rfl, ?_⟩
      obtain ⟨c_5, s8⟩ : ∃ c_5, St [] w_2 c_3 w_4 c_5 := ⟨_, s7.mg2 (sh := 40000) rfl⟩
      refine WR.k rfl rfl rfl (OS.move (v := .tuple #[.agg (E43.e r_2.1).toArray, vI r_2.2]) rfl rfl ?_)
      refine WR.k rfl rfl rfl (OS.extract (v := .agg (E43.e r_2.1).toArray) rfl rfl rfl ?_)
      refine WR.k rfl rfl rfl (OS.extract (v := vI r_2.2) rfl rfl rfl ?_)
      refine WR.k rfl rfl rfl (OS.allocBx (us := [vS ([] : List UInt8), vS ([] : List UInt8), vS ([] : List UInt8), vU8 (0 : UInt8)]) (c := c_5) 41 rfl Tryz.zeroValue43 rfl ?_); intro p_9 w_5 c_6 o13 s9
      refine WR.k0 rfl rfl (OS.stBxAll (v := .agg (E43.e r_2.1).toArray) (ws := [vS r_2.1.Tenant, vS r_2.1.Name, vS r_2.1.Redirect, vU8 r_2.1.Scopes]) rfl Tryz.sizeOf43 rfl rfl rfl o13 rfl rfl (one_of rfl) ?_); intro w_6 o14 s10
      refine WR.k rfl rfl rfl (OS.assign (v := vI r_2.2) rfl rfl ?_)
      refine WR.nil ?_
      refine WC.seq (WC.region ?_)
      have o15 := o9.keep ((s8.t s9).t s10) (by decide)
      refine WR.k rfl rfl rfl (OS.fieldAddrBx rfl Tryz.runUnderlying47 rfl Tryz.sizeOf24 rfl h1 o15 ?_); intro p_10 a8
      refine WR.k rfl rfl rfl (OS.ldN (us := [vS c_.Owner.Tenant, vS c_.Owner.User]) rfl Tryz.isAgg24 Tryz.sizeOf24 rfl (o15.ldn a8 (sub_of rfl)) rfl ?_)
      refine WR.k rfl rfl rfl (OS.fieldAddrBx rfl Tryz.runUnderlying47 rfl Tryz.sizeOf9 rfl h1 o15 ?_); intro p_11 a9
      refine WR.k rfl rfl rfl (OS.ld1 (u := vS c_.Client) rfl Tryz.isAgg9 rfl (o15.ldn a9 (sub_of rfl)) ?_)
      refine WR.k rfl rfl rfl (OS.build (v := .agg (E77.e (⟨c_.Owner, c_.Client⟩ : S_grant_use)).toArray) [(0, .agg (E24.e c_.Owner).toArray), (1, vS c_.Client)] rfl ⟨rfl, rfl, rfl, rfl, trivial⟩ (fun _ => by kernel_rfl) ?_)
      refine WR.k rfl rfl rfl (OS.allocBx (us := [vS ([] : List UInt8), vS ([] : List UInt8), vS ([] : List UInt8)]) (c := c_6) 42 rfl Tryz.zeroValue77 rfl ?_); intro p_12 w_7 c_7 o16 s11
      refine WR.k0 rfl rfl (OS.stBxAll (v := .agg (E77.e (⟨c_.Owner, c_.Client⟩ : S_grant_use)).toArray) (ws := [vS c_.Owner.Tenant, vS c_.Owner.User, vS c_.Client]) rfl Tryz.sizeOf77 rfl rfl rfl o16 rfl rfl (one_of rfl) ?_); intro w_8 o17 s12
      refine WR.nil ?_
      have o18 := o10.keep ((((s8.t s9).t s10).t s11).t s12) (by decide)
      have o19 := o12.keep ((((s8.t s9).t s10).t s11).t s12) (by decide) (by decide)
      refine WC.seq (WC.draw3 (c := c_7) ⟨10, [[], [], [], [], [], [], [], [], [], []], [[], [], [], [], [], [], [], [], [], []], [], [[], [0], [1], [2], [], [3, 4], [5], [6], [6], [7]], [8]⟩ [[], [], [], [], [], [], [], [], [], []] [[40], [41], [42], [43], [44], [45], [39], [46], [47], [8]] [fun yf yw yc => (yf 40) = p_, fun yf yw yc => (yf 41) = p_, fun yf yw yc => AdrP p_ 1 1 (yf 42), fun yf yw yc => (yf 43) = (.map (some b1)), fun yf yw yc => (yf 44) = .agg (E77.e (⟨c_.Owner, c_.Client⟩ : S_grant_use)).toArray, fun yf yw yc => (yf 45) = .tuple #[vU8 ((mget s.consents (⟨c_.Owner, c_.Client⟩ : S_grant_use)).getD (0 : UInt8)), vB ((mget s.consents (⟨c_.Owner, c_.Client⟩ : S_grant_use)).isSome)], fun yf yw yc => (yf 39) = .tuple #[vU8 ((mget s.consents (⟨c_.Owner, c_.Client⟩ : S_grant_use)).getD (0 : UInt8)), vB ((mget s.consents (⟨c_.Owner, c_.Client⟩ : S_grant_use)).isSome)], fun yf yw yc => (yf 46) = vU8 ((mget s.consents (⟨c_.Owner, c_.Client⟩ : S_grant_use)).getD (0 : UInt8)), fun yf yw yc => (yf 47) = vB ((mget s.consents (⟨c_.Owner, c_.Client⟩ : S_grant_use)).isSome), fun yf yw yc => (yf 8) = vU8 ((mget s.consents (⟨c_.Owner, c_.Client⟩ : S_grant_use)).getD (0 : UInt8))] hmix (by kernel_rfl) (by kernel_rfl) ⟨?_, ?_, ?_, ?_, ?_, ?_, ?_, ?_, ?_, ?_, trivial⟩ ⟨fun y1 y2 yw yc yI yw1 yc1 yh ye ys yk => by obtain ⟨ye0, -⟩ := ye; show (y2 40) = p_; rw [ye0]; exact yh, fun y1 y2 yw yc yI yw1 yc1 yh ye ys yk => by obtain ⟨ye0, -⟩ := ye; show (y2 41) = p_; rw [ye0]; exact yh, fun y1 y2 yw yc yI yw1 yc1 yh ye ys yk => by obtain ⟨ye0, -⟩ := ye; show AdrP p_ 1 1 (y2 42); rw [ye0]; exact yh, fun y1 y2 yw yc yI yw1 yc1 yh ye ys yk => by obtain ⟨ye0, -⟩ := ye; show (y2 43) = (.map (some b1)); rw [ye0]; exact yh, fun y1 y2 yw yc yI yw1 yc1 yh ye ys yk => by obtain ⟨ye0, -⟩ := ye; show (y2 44) = .agg (E77.e (⟨c_.Owner, c_.Client⟩ : S_grant_use)).toArray; rw [ye0]; exact yh, fun y1 y2 yw yc yI yw1 yc1 yh ye ys yk => by obtain ⟨ye0, -⟩ := ye; show (y2 45) = .tuple #[vU8 ((mget s.consents (⟨c_.Owner, c_.Client⟩ : S_grant_use)).getD (0 : UInt8)), vB ((mget s.consents (⟨c_.Owner, c_.Client⟩ : S_grant_use)).isSome)]; rw [ye0]; exact yh, fun y1 y2 yw yc yI yw1 yc1 yh ye ys yk => by obtain ⟨ye0, -⟩ := ye; show (y2 39) = .tuple #[vU8 ((mget s.consents (⟨c_.Owner, c_.Client⟩ : S_grant_use)).getD (0 : UInt8)), vB ((mget s.consents (⟨c_.Owner, c_.Client⟩ : S_grant_use)).isSome)]; rw [ye0]; exact yh, fun y1 y2 yw yc yI yw1 yc1 yh ye ys yk => by obtain ⟨ye0, -⟩ := ye; show (y2 46) = vU8 ((mget s.consents (⟨c_.Owner, c_.Client⟩ : S_grant_use)).getD (0 : UInt8)); rw [ye0]; exact yh, fun y1 y2 yw yc yI yw1 yc1 yh ye ys yk => by obtain ⟨ye0, -⟩ := ye; show (y2 47) = vB ((mget s.consents (⟨c_.Owner, c_.Client⟩ : S_grant_use)).isSome); rw [ye0]; exact yh, fun y1 y2 yw yc yI yw1 yc1 yh ye ys yk => by obtain ⟨ye0, -⟩ := ye; show (y2 8) = vU8 ((mget s.consents (⟨c_.Owner, c_.Client⟩ : S_grant_use)).getD (0 : UInt8)); rw [ye0]; exact yh, trivial⟩ ?_)
      · rintro f_1 w_9 c_8 hB hs ⟨-⟩ o ho; obtain rfl : _ = o := Option.some.inj ho
        exact OS.move (v := p_) rfl ((hB 0 (by kernel_rfl)).trans h) ⟨_, St.refl, rfl⟩
      · rintro f_2 w_10 c_9 hB1 hs1 ⟨g, -⟩ o ho; obtain rfl : _ = o := Option.some.inj ho
        replace g : (f_2 40) = p_ := g
        have o20 := o10.keep (((((s8.t s9).t s10).t s11).t s12).t hs1) (by decide)
        exact OS.nilCheckBx rfl g o20 ⟨_, St.refl, rfl⟩
      · rintro f_3 w_11 c_10 hB2 hs2 ⟨g1, -⟩ o ho; obtain rfl : _ = o := Option.some.inj ho
        replace g1 : (f_3 41) = p_ := g1
        have o21 := o18.keep hs2 (by decide)
        exact OS.fieldAddrBx rfl Tryz.runUnderlying69 rfl Tryz.sizeOf67 rfl g1 o21 (fun _ h => ⟨_, St.refl, h⟩)
      · rintro f_4 w_12 c_11 hB3 hs3 ⟨g2, -⟩ o ho; obtain rfl : _ = o := Option.some.inj ho
        replace g2 : AdrP p_ 1 1 (f_4 42) := g2
        have o22 := o18.keep hs3 (by decide)
        exact OS.ld1 (u := (.map (some b1))) rfl Tryz.isAgg67 rfl (o22.ldn g2 (sub_of rfl)) ⟨_, St.refl, rfl⟩
      · rintro f_5 w_13 c_12 hB4 hs4 ⟨-⟩ o ho; obtain rfl : _ = o := Option.some.inj ho
        have o23 := o17.keep hs4 (by decide)
        exact OS.ldN (us := [vS c_.Owner.Tenant, vS c_.Owner.User, vS c_.Client]) rfl Tryz.isAgg77 Tryz.sizeOf77 ((hB4 7 (by kernel_rfl)).trans (show _ = p_12 from rfl)) o23.ldAll rfl ⟨_, St.refl, rfl⟩
      · rintro f_6 w_14 c_13 hB5 hs5 ⟨g3, g4, -⟩ o ho; obtain rfl : _ = o := Option.some.inj ho
        replace g3 : (f_6 43) = (.map (some b1)) := g3
        replace g4 : (f_6 44) = .agg (E77.e (⟨c_.Owner, c_.Client⟩ : S_grant_use)).toArray := g4
        have o24 := o12.keep (((((s8.t s9).t s10).t s11).t s12).t hs5) (by decide) (by decide)
        exact OS.look2 (zv := vU8 (0 : UInt8)) (zx := (0 : UInt8)) (a := (⟨c_.Owner, c_.Client⟩ : S_grant_use)) rfl K77 Tryz.underlying67 Tryz.zeroValue25 g3 g4 o24 rfl (by rintro _ rfl; exact ⟨_, St.refl, rfl⟩)
      · rintro f_7 w_15 c_14 hB6 hs6 ⟨g5, -⟩ o ho; obtain rfl : _ = o := Option.some.inj ho
        replace g5 : (f_7 45) = .tuple #[vU8 ((mget s.consents (⟨c_.Owner, c_.Client⟩ : S_grant_use)).getD (0 : UInt8)), vB ((mget s.consents (⟨c_.Owner, c_.Client⟩ : S_grant_use)).isSome)] := g5
        exact OS.move (v := .tuple #[vU8 ((mget s.consents (⟨c_.Owner, c_.Client⟩ : S_grant_use)).getD (0 : UInt8)), vB ((mget s.consents (⟨c_.Owner, c_.Client⟩ : S_grant_use)).isSome)]) rfl g5 ⟨_, St.refl, rfl⟩
      · rintro f_8 w_16 c_15 hB7 hs7 ⟨g6, -⟩ o ho; obtain rfl : _ = o := Option.some.inj ho
        replace g6 : (f_8 39) = .tuple #[vU8 ((mget s.consents (⟨c_.Owner, c_.Client⟩ : S_grant_use)).getD (0 : UInt8)), vB ((mget s.consents (⟨c_.Owner, c_.Client⟩ : S_grant_use)).isSome)] := g6
        exact OS.extract (v := vU8 ((mget s.consents (⟨c_.Owner, c_.Client⟩ : S_grant_use)).getD (0 : UInt8))) rfl g6 rfl ⟨_, St.refl, rfl⟩
      · rintro f_9 w_17 c_16 hB8 hs8 ⟨g7, -⟩ o ho; obtain rfl : _ = o := Option.some.inj ho
        replace g7 : (f_9 39) = .tuple #[vU8 ((mget s.consents (⟨c_.Owner, c_.Client⟩ : S_grant_use)).getD (0 : UInt8)), vB ((mget s.consents (⟨c_.Owner, c_.Client⟩ : S_grant_use)).isSome)] := g7
        exact OS.extract (v := vB ((mget s.consents (⟨c_.Owner, c_.Client⟩ : S_grant_use)).isSome)) rfl g7 rfl ⟨_, St.refl, rfl⟩
      · rintro f_10 w_18 c_17 hB9 hs9 ⟨g8, -⟩ o ho; obtain rfl : _ = o := Option.some.inj ho
        replace g8 : (f_10 46) = vU8 ((mget s.consents (⟨c_.Owner, c_.Client⟩ : S_grant_use)).getD (0 : UInt8)) := g8
        exact OS.assign (v := vU8 ((mget s.consents (⟨c_.Owner, c_.Client⟩ : S_grant_use)).getD (0 : UInt8))) rfl g8 ⟨_, St.refl, rfl⟩
      · rintro f_11 w_19 c_18 hB10 hs10 ⟨g9, -⟩
        replace g9 : (f_11 47) = vB ((mget s.consents (⟨c_.Owner, c_.Client⟩ : S_grant_use)).isSome) := g9
        have h3 := (hB10 0 (by kernel_rfl)).trans h
        have h4 := (hB10 3 (by kernel_rfl)).trans h1
        have h5 := (hB10 5 (by kernel_rfl)).trans (show _ = p_9 from rfl)
        have h6 := (hB10 6 (by kernel_rfl)).trans (show _ = vI r_2.2 from rfl)
        have h7 := (hB10 7 (by kernel_rfl)).trans (show _ = p_12 from rfl)
        refine WR.k rfl rfl rfl (OS.assign (v := vB ((mget s.consents (⟨c_.Owner, c_.Client⟩ : S_grant_use)).isSome)) rfl g9 ?_)
        refine WR.nil ?_
        refine WC.seq ?_
        refine WC.block ?_
        refine WC.seq (WC.region ?_)
        refine WR.k rfl rfl rfl (OS.move (v := vI r_2.2) rfl h6 ?_)
        refine WR.k rfl rfl rfl (OS.bin (a := vI r_2.2) (b := vI (0 : Int)) rfl rfl rfl bI_neq ?_)
        refine WR.k rfl rfl rfl (OS.assign (v := vB (!decide (r_2.2 = (0 : Int)))) rfl rfl ?_)
        refine WR.nil ?_
        refine WC.cond (!decide (r_2.2 = (0 : Int))) rfl (fun hb1 => ?_) (fun hb1 => ?_)
        · rw [if_pos hb1] at hp
          refine WC.seq (WC.region ?_)
          refine WR.k rfl rfl rfl (OS.move (v := vI r_2.2) rfl h6 ?_)
          refine WR.k rfl rfl rfl (OS.assign (v := vI r_2.2) rfl rfl ?_)
          refine WR.nil ?_
          refine WC.ret ?_
          repeat first | refine thenQ_ret ?_ | refine blkQ_ret ?_
          cases hp
          have o25 := o18.keep hs10 (by decide)
          have o26 := o11.keep (((((s8.t s9).t s10).t s11).t s12).t hs10) (by decide) (by decide)
          have o27 := o19.keep hs10 (by decide) (by decide)
          exact fnQ.l1 (fn := Tryz.f22) rfl (.inl ⟨_, rfl, rfl⟩) ⟨_, _, _, rfl, ((((((((s1.t s3).t s6).t s8).t s9).t s10).t s11).t s12).t hs10).leave hcw (by decide), o25, o26, o27⟩
        · rw [if_neg (nt hb1)] at hp
          refine WC.seq (WC.region ?_)
          have o28 := o15.keep ((s11.t s12).t hs10) (by decide)
          refine WR.k rfl rfl rfl (OS.fieldAddrBx rfl Tryz.runUnderlying47 rfl Tryz.sizeOf25 rfl h4 o28 ?_); intro p_13 a11
          refine WR.k rfl rfl rfl (OS.ld1 (u := vU8 c_.Scopes) rfl Tryz.isAgg25 rfl (o28.ldn a11 (sub_of rfl)) ?_)
          have o29 := o14.keep ((s11.t s12).t hs10) (by decide)
          refine WR.k rfl rfl rfl (OS.fieldAddrBx rfl Tryz.runUnderlying43 rfl Tryz.sizeOf25 rfl h5 o29 ?_); intro p_14 a12
          refine WR.k rfl rfl rfl (OS.ld1 (u := vU8 r_2.1.Scopes) rfl Tryz.isAgg25 rfl (o29.ldn a12 (sub_of rfl)) ?_)
          refine WR.k rfl rfl rfl (OS.bin (a := vU8 c_.Scopes) (b := vU8 r_2.1.Scopes) rfl rfl rfl b8_andNot ?_)
          refine WR.k rfl rfl rfl (OS.bin (a := vU8 (c_.Scopes &&& ~~~r_2.1.Scopes)) (b := vU8 (0 : UInt8)) rfl rfl (by kernel_rfl) b8_neq ?_)
          refine WR.k rfl rfl rfl (OS.assign (v := vB (!decide (c_.Scopes &&& ~~~r_2.1.Scopes = (0 : UInt8)))) rfl rfl ?_)
          refine WR.nil ?_
          refine WC.cond (!decide (c_.Scopes &&& ~~~r_2.1.Scopes = (0 : UInt8))) rfl (fun hb2 => ?_) (fun hb2 => ?_)
          · rw [if_pos hb2] at hp
            refine WC.seq (WC.region ?_)
            refine WR.k rfl rfl rfl (OS.assign (v := vI (14 : Int)) rfl rfl ?_)
            refine WR.nil ?_
            refine WC.ret ?_
            repeat first | refine thenQ_ret ?_ | refine blkQ_ret ?_
            cases hp
            have o30 := o18.keep hs10 (by decide)
            have o31 := o11.keep (((((s8.t s9).t s10).t s11).t s12).t hs10) (by decide) (by decide)
            have o32 := o19.keep hs10 (by decide) (by decide)
            exact fnQ.l1 (fn := Tryz.f22) rfl (.inl ⟨_, rfl, rfl⟩) ⟨_, _, _, rfl, ((((((((s1.t s3).t s6).t s8).t s9).t s10).t s11).t s12).t hs10).leave hcw (by decide), o30, o31, o32⟩
          · rw [if_neg (nt hb2)] at hp
            refine WC.seq (WC.region ?_)
            refine WR.k rfl rfl rfl (OS.move (v := vB ((mget s.consents (⟨c_.Owner, c_.Client⟩ : S_grant_use)).isSome)) rfl rfl ?_)
            refine WR.k rfl rfl rfl (OS.not rfl rfl ?_)
            refine WR.k rfl rfl rfl (OS.move (v := vB (!((mget s.consents (⟨c_.Owner, c_.Client⟩ : S_grant_use)).isSome))) rfl rfl ?_)
            obtain ⟨b3, ht1, hp⟩ := bind_some hp
            refine WR.cut2 7 (fun f_12 w_20 => ∃ (c_19 : Col), f_12 0 = p_ ∧ f_12 3 = p_1 ∧ f_12 7 = p_12 ∧ f_12 69 = vB b3 ∧ St [] w_19 c_18 w_20 c_19) ?_ ?_
            · rcases Bool.eq_false_or_eq_true (!((mget s.consents (⟨c_.Owner, c_.Client⟩ : S_grant_use)).isSome)) with hg1 | hg1
              · rw [if_pos hg1] at ht1
                refine WR.kT rfl rfl (vb_t rfl hg1) rfl rfl (OS.move (v := p_) rfl h3 ?_)
                refine WR.kT rfl rfl (vb_t rfl hg1) rfl rfl (OS.fieldAddrBx rfl Tryz.runUnderlying47 rfl Tryz.sizeOf24 rfl h4 o28 ?_); intro p_15 a13
                refine WR.kT rfl rfl (vb_t rfl hg1) rfl rfl (OS.ldN (us := [vS c_.Owner.Tenant, vS c_.Owner.User]) rfl Tryz.isAgg24 Tryz.sizeOf24 rfl (o28.ldn a13 (sub_of rfl)) rfl ?_)
                have o33 := o18.keep hs10 (by decide)
                have o34 := o11.keep (((((s8.t s9).t s10).t s11).t s12).t hs10) (by decide) (by decide)
                have o35 := o19.keep hs10 (by decide) (by decide)
                obtain ⟨r_3, hr_3, ht1⟩ := bind_some ht1
                refine WR.kT rfl rfl (vb_t rfl hg1) rfl rfl (OS.callF (vs := [p_, .agg (E24.e c_.Owner).toArray]) rfl ⟨rfl, rfl, trivial⟩ Tryz.call27 ((W27 K w_19 (rcc [3, 4, 5] c_18) (rcc_lt c_18 rfl) hr_3 (o33.tr (rc_tr (by decide))) (o34.tr (rc_tr (by decide))) (o35.tr (rc_tr (by decide)))).mono ?_))
                rintro _ w_21 ⟨sl, d4, rfl, s13, o36⟩
                refine ⟨_, rfl, ?_⟩
                obtain ⟨c_20, s14, o36⟩ : ∃ c_20, St [] w_19 c_18 w_21 c_20 ∧ Ow E47 62000 w_21 c_20 sl.val r_3 := ⟨_, s13.mg2 (sh := 60000) rfl, o36.tr (mg2_back s13 rfl)⟩
                refine WR.kT rfl rfl (vb_t rfl hg1) rfl rfl (OS.lenSl rfl Tryz.runUnderlying58 rfl o36.isSl ?_)
                refine WR.kT rfl rfl (vb_t rfl hg1) rfl rfl (OS.bin (a := vI (r_3.length : Int)) (b := vI (4 : Int)) rfl rfl rfl bI_geq ?_)
                refine WR.k rfl rfl rfl (OS.pickT rfl (vb_t rfl hg1) rfl ?_)
                cases ht1
                refine WR.nil ?_
                exact ⟨_, h3, h4, h7, rfl, s14.mono (by decide)⟩
              · rw [if_neg (nt hg1)] at ht1
                refine WR.gF rfl rfl (vb_f rfl hg1) rfl rfl ?_
                refine WR.gF rfl rfl (vb_f rfl hg1) rfl rfl ?_
                refine WR.gF rfl rfl (vb_f rfl hg1) rfl rfl ?_
                refine WR.gF rfl rfl (vb_f rfl hg1) rfl rfl ?_
                refine WR.gF rfl rfl (vb_f rfl hg1) rfl rfl ?_
                refine WR.gF rfl rfl (vb_f rfl hg1) rfl rfl ?_
                refine WR.k rfl rfl rfl (OS.pickF rfl (vb_f rfl hg1) rfl ?_)
                cases ht1
                refine WR.nil ?_
                exact ⟨_, h3, h4, h7, rfl, St.refl.mono (by decide)⟩
            · rintro f_12 w_20 ⟨c_19, h8, h9, h10, h11, s15⟩
              refine WR.k rfl rfl rfl (OS.assign (v := vB b3) rfl h11 ?_)
              refine WR.nil ?_
              refine WC.cond (b3) rfl (fun hb3 => ?_) (fun hb3 => ?_)
              · rw [if_pos hb3] at hp
                refine WC.seq (WC.region ?_)
                refine WR.k rfl rfl rfl (OS.assign (v := vI (25 : Int)) rfl rfl ?_)
                refine WR.nil ?_
                refine WC.ret ?_
                repeat first | refine thenQ_ret ?_ | refine blkQ_ret ?_
                cases hp
                have o37 := o18.keep (hs10.t s15) (by decide)
                have o38 := o11.keep ((((((s8.t s9).t s10).t s11).t s12).t hs10).t s15) (by decide) (by decide)
                have o39 := o19.keep (hs10.t s15) (by decide) (by decide)
                exact fnQ.l1 (fn := Tryz.f22) rfl (.inl ⟨_, rfl, rfl⟩) ⟨_, _, _, rfl, (((((((((s1.t s3).t s6).t s8).t s9).t s10).t s11).t s12).t hs10).t s15).leave hcw (by decide), o37, o38, o39⟩
              · rw [if_neg (nt hb3)] at hp
                refine WC.skip ?_
                have o40 := o18.keep (hs10.t s15) (by decide)
                have o41 := o17.keep (hs10.t s15) (by decide)
                have o42 := o28.keep s15 (by decide)
                refine WC.seq (WC.draw3 (c := c_19) ⟨7, [[], [], [], [], [], [], []], [[], [], [], [], [], [], []], [], [[], [0], [1], [2], [], [], [5]], [3, 4, 6]⟩ [[], [], [], [], [], [], []] [[70], [71], [72], [73], [74], [75], [76]] [fun yf yw yc => (yf 70) = p_, fun yf yw yc => (yf 71) = p_, fun yf yw yc => AdrP p_ 1 1 (yf 72), fun yf yw yc => (yf 73) = (.map (some b1)), fun yf yw yc => (yf 74) = .agg (E77.e (⟨c_.Owner, c_.Client⟩ : S_grant_use)).toArray, fun yf yw yc => AdrP p_1 3 1 (yf 75), fun yf yw yc => (yf 76) = vU8 c_.Scopes] hmix (by kernel_rfl) (by kernel_rfl) ⟨?_, ?_, ?_, ?_, ?_, ?_, ?_, trivial⟩ ⟨fun y1 y2 yw yc yI yw1 yc1 yh ye ys yk => by obtain ⟨ye0, -⟩ := ye; show (y2 70) = p_; rw [ye0]; exact yh, fun y1 y2 yw yc yI yw1 yc1 yh ye ys yk => by obtain ⟨ye0, -⟩ := ye; show (y2 71) = p_; rw [ye0]; exact yh, fun y1 y2 yw yc yI yw1 yc1 yh ye ys yk => by obtain ⟨ye0, -⟩ := ye; show AdrP p_ 1 1 (y2 72); rw [ye0]; exact yh, fun y1 y2 yw yc yI yw1 yc1 yh ye ys yk => by obtain ⟨ye0, -⟩ := ye; show (y2 73) = (.map (some b1)); rw [ye0]; exact yh, fun y1 y2 yw yc yI yw1 yc1 yh ye ys yk => by obtain ⟨ye0, -⟩ := ye; show (y2 74) = .agg (E77.e (⟨c_.Owner, c_.Client⟩ : S_grant_use)).toArray; rw [ye0]; exact yh, fun y1 y2 yw yc yI yw1 yc1 yh ye ys yk => by obtain ⟨ye0, -⟩ := ye; show AdrP p_1 3 1 (y2 75); rw [ye0]; exact yh, fun y1 y2 yw yc yI yw1 yc1 yh ye ys yk => by obtain ⟨ye0, -⟩ := ye; show (y2 76) = vU8 c_.Scopes; rw [ye0]; exact yh, trivial⟩ ?_)
                · rintro f_13 w_22 c_21 hB11 hs11 ⟨-⟩ o ho; obtain rfl : _ = o := Option.some.inj ho
                  exact OS.move (v := p_) rfl ((hB11 0 (by kernel_rfl)).trans h8) ⟨_, St.refl, rfl⟩
                · rintro f_14 w_23 c_22 hB12 hs12 ⟨g10, -⟩ o ho; obtain rfl : _ = o := Option.some.inj ho
                  replace g10 : (f_14 70) = p_ := g10
                  have o43 := o18.keep ((hs10.t s15).t hs12) (by decide)
                  exact OS.nilCheckBx rfl g10 o43 ⟨_, St.refl, rfl⟩
                · rintro f_15 w_24 c_23 hB13 hs13 ⟨g11, -⟩ o ho; obtain rfl : _ = o := Option.some.inj ho
                  replace g11 : (f_15 71) = p_ := g11
                  have o44 := o40.keep hs13 (by decide)
                  exact OS.fieldAddrBx rfl Tryz.runUnderlying69 rfl Tryz.sizeOf67 rfl g11 o44 (fun _ h => ⟨_, St.refl, h⟩)
                · rintro f_16 w_25 c_24 hB14 hs14 ⟨g12, -⟩ o ho; obtain rfl : _ = o := Option.some.inj ho
                  replace g12 : AdrP p_ 1 1 (f_16 72) := g12
                  have o45 := o40.keep hs14 (by decide)
                  exact OS.ld1 (u := (.map (some b1))) rfl Tryz.isAgg67 rfl (o45.ldn g12 (sub_of rfl)) ⟨_, St.refl, rfl⟩
                · rintro f_17 w_26 c_25 hB15 hs15 ⟨-⟩ o ho; obtain rfl : _ = o := Option.some.inj ho
                  have o46 := o17.keep ((hs10.t s15).t hs15) (by decide)
                  exact OS.ldN (us := [vS c_.Owner.Tenant, vS c_.Owner.User, vS c_.Client]) rfl Tryz.isAgg77 Tryz.sizeOf77 ((hB15 7 (by kernel_rfl)).trans h10) o46.ldAll rfl ⟨_, St.refl, rfl⟩
                · rintro f_18 w_27 c_26 hB16 hs16 ⟨-⟩ o ho; obtain rfl : _ = o := Option.some.inj ho
                  have o47 := o28.keep (s15.t hs16) (by decide)
                  exact OS.fieldAddrBx rfl Tryz.runUnderlying47 rfl Tryz.sizeOf25 rfl ((hB16 3 (by kernel_rfl)).trans h9) o47 (fun _ h => ⟨_, St.refl, h⟩)
                · rintro f_19 w_28 c_27 hB17 hs17 ⟨g13, -⟩ o ho; obtain rfl : _ = o := Option.some.inj ho
                  replace g13 : AdrP p_1 3 1 (f_19 75) := g13
                  have o48 := o42.keep hs17 (by decide)
                  exact OS.ld1 (u := vU8 c_.Scopes) rfl Tryz.isAgg25 rfl (o48.ldn g13 (sub_of rfl)) ⟨_, St.refl, rfl⟩
                · rintro f_20 w_29 c_28 hB18 hs18 ⟨g14, g15, g16, -⟩
                  replace g14 : (f_20 73) = (.map (some b1)) := g14
                  replace g15 : (f_20 74) = .agg (E77.e (⟨c_.Owner, c_.Client⟩ : S_grant_use)).toArray := g15
                  replace g16 : (f_20 76) = vU8 c_.Scopes := g16
                  have h12 := (hB18 0 (by kernel_rfl)).trans h8
                  have o49 := o19.keep ((hs10.t s15).t hs18) (by decide) (by decide)
                  obtain ⟨m, hm, hp⟩ := bind_some hp
                  replace hm := (Option.some.inj hm).symm
                  refine WR.k0 rfl rfl (OS.mapUpd (q := c_.Scopes) (a := (⟨c_.Owner, c_.Client⟩ : S_grant_use)) (.inl rfl) K77 Tryz.underlying67 g14 g15 g16 o49 rfl (by decide) ?_); intro w_30 o50 s16
                  replace o50 : Mp kv77 (VR.flat vv25) 5 w_30 c_28 (.map (some b1)) m := by rw [hm]; exact o50
                  refine WR.nil ?_
                  refine WC.seq (WC.region ?_)
                  refine WR.k rfl rfl rfl (OS.assign (v := vI (0 : Int)) rfl rfl ?_)
                  refine WR.nil ?_
                  refine WC.ret ?_
                  repeat first | refine thenQ_ret ?_ | refine blkQ_ret ?_
                  cases hp
                  have o51 := o40.keep (hs18.t s16) (by decide)
                  have o52 := o11.keep ((((((((s8.t s9).t s10).t s11).t s12).t hs10).t s15).t hs18).t s16) (by decide) (by decide)
                  exact fnQ.l1 (fn := Tryz.f22) rfl (.inl ⟨_, rfl, rfl⟩) ⟨_, _, _, rfl, (((((((((((s1.t s3).t s6).t s8).t s9).t s10).t s11).t s12).t hs10).t s15).t hs18).t s16).leave hcw (by decide), o51, o52, o50⟩

-- (*holdfast/grant.Store).Consent
set_option maxHeartbeats 4000000 in
theorem W19 (K : Nat) (w0 : World) (cw : Col) (hcw : ∀ b, cw b < 40) {s : S_grant_Store} {o3 : S_api_Owner} {client : List UInt8} {r : S_api_Consent × Int} (hp : grant_Store_Consent K s o3 client = some r) {b : Nat} {b1 : Nat} {p_ : Value} (o : Bx 3 w0 cw p_ [(.map (some b)), (.map (some b1))]) (o1 : Mp kv74 (VR.flat vv43) 4 w0 cw (.map (some b)) s.clients) (o2 : Mp kv77 (VR.flat vv25) 5 w0 cw (.map (some b1)) s.consents) :
    Calls Tryz.prog 19 [p_, .agg (E24.e o3).toArray, vS client].toArray w0 fun e w1 => ∃ (d : Col), e = .returned (.tuple #[.agg (E47.e r.1).toArray, vI r.2]) ∧ St [] w0 cw w1 d := by
  refine calls_intro Tryz.func19 rfl Tryz.ntmps19 rfl ?_
  unfold grant_Store_Consent at hp
  refine WC.seq (WC.region ?_)
  refine WR.k rfl rfl rfl (OS.boxBx (us := [vS o3.Tenant, vS o3.User]) (c := cw) 40 rfl rfl rfl ?_); intro p_1 w_ c_ o4 s1
  refine WR.k rfl rfl rfl (OS.allocBx (us := [vS ([] : List UInt8), vS ([] : List UInt8), vS ([] : List UInt8), vU8 (0 : UInt8)]) (c := c_) 41 rfl Tryz.zeroValue47 rfl ?_); intro p_2 w_1 c_1 o5 s2
  refine WR.k rfl rfl rfl (OS.assign (v := vI (0 : Int)) rfl rfl ?_)
  refine WR.nil ?_
  refine WC.seq ?_
  refine WC.seq (WC.region ?_)
  refine WR.k rfl rfl rfl (OS.move (v := p_) rfl rfl ?_)
  have o6 := o.keep (s1.t s2) (by decide)
  refine WR.k rfl rfl rfl (OS.eqPtrS rfl (.inl ⟨rfl, rfl⟩) Tryz.underlying28 rfl o6 rfl ?_)
  refine WR.nil ?_
  refine WC.condF rfl ?_
  refine WC.skip ?_
  have o7 := o4.keep s2 (by decide)
  have o8 := o2.keep (s1.t s2) (by decide) (by decide)
  refine WC.seq (WC.draw3 (c := c_1) ⟨12, [[], [], [], [], [], [], [], [], [], [], [], []], [[], [], [], [], [], [], [], [], [], [], [], []], [], [[], [0], [1], [2], [], [], [4, 5], [3, 6], [7], [8], [8], [9]], [10, 11]⟩ [[], [], [], [], [], [], [], [], [], [], [], []] [[14], [15], [16], [17], [18], [19], [20], [21], [13], [22], [23], [8]] [fun yf yw yc => (yf 14) = p_, fun yf yw yc => (yf 15) = p_, fun yf yw yc => AdrP p_ 1 1 (yf 16), fun yf yw yc => (yf 17) = (.map (some b1)), fun yf yw yc => (yf 18) = .agg (E24.e o3).toArray, fun yf yw yc => (yf 19) = vS client, fun yf yw yc => (yf 20) = .agg (E77.e (⟨o3, client⟩ : S_grant_use)).toArray, fun yf yw yc => (yf 21) = .tuple #[vU8 ((mget s.consents (⟨o3, client⟩ : S_grant_use)).getD (0 : UInt8)), vB ((mget s.consents (⟨o3, client⟩ : S_grant_use)).isSome)], fun yf yw yc => (yf 13) = .tuple #[vU8 ((mget s.consents (⟨o3, client⟩ : S_grant_use)).getD (0 : UInt8)), vB ((mget s.consents (⟨o3, client⟩ : S_grant_use)).isSome)], fun yf yw yc => (yf 22) = vU8 ((mget s.consents (⟨o3, client⟩ : S_grant_use)).getD (0 : UInt8)), fun yf yw yc => (yf 23) = vB ((mget s.consents (⟨o3, client⟩ : S_grant_use)).isSome), fun yf yw yc => (yf 8) = vU8 ((mget s.consents (⟨o3, client⟩ : S_grant_use)).getD (0 : UInt8))] hmix (by kernel_rfl) (by kernel_rfl) ⟨?_, ?_, ?_, ?_, ?_, ?_, ?_, ?_, ?_, ?_, ?_, ?_, trivial⟩ ⟨fun y1 y2 yw yc yI yw1 yc1 yh ye ys yk => by obtain ⟨ye0, -⟩ := ye; show (y2 14) = p_; rw [ye0]; exact yh, fun y1 y2 yw yc yI yw1 yc1 yh ye ys yk => by obtain ⟨ye0, -⟩ := ye; show (y2 15) = p_; rw [ye0]; exact yh, fun y1 y2 yw yc yI yw1 yc1 yh ye ys yk => by obtain ⟨ye0, -⟩ := ye; show AdrP p_ 1 1 (y2 16); rw [ye0]; exact yh, fun y1 y2 yw yc yI yw1 yc1 yh ye ys yk => by obtain ⟨ye0, -⟩ := ye; show (y2 17) = (.map (some b1)); rw [ye0]; exact yh, fun y1 y2 yw yc yI yw1 yc1 yh ye ys yk => by obtain ⟨ye0, -⟩ := ye; show (y2 18) = .agg (E24.e o3).toArray; rw [ye0]; exact yh, fun y1 y2 yw yc yI yw1 yc1 yh ye ys yk => by obtain ⟨ye0, -⟩ := ye; show (y2 19) = vS client; rw [ye0]; exact yh, fun y1 y2 yw yc yI yw1 yc1 yh ye ys yk => by obtain ⟨ye0, -⟩ := ye; show (y2 20) = .agg (E77.e (⟨o3, client⟩ : S_grant_use)).toArray; rw [ye0]; exact yh, fun y1 y2 yw yc yI yw1 yc1 yh ye ys yk => by obtain ⟨ye0, -⟩ := ye; show (y2 21) = .tuple #[vU8 ((mget s.consents (⟨o3, client⟩ : S_grant_use)).getD (0 : UInt8)), vB ((mget s.consents (⟨o3, client⟩ : S_grant_use)).isSome)]; rw [ye0]; exact yh, fun y1 y2 yw yc yI yw1 yc1 yh ye ys yk => by obtain ⟨ye0, -⟩ := ye; show (y2 13) = .tuple #[vU8 ((mget s.consents (⟨o3, client⟩ : S_grant_use)).getD (0 : UInt8)), vB ((mget s.consents (⟨o3, client⟩ : S_grant_use)).isSome)]; rw [ye0]; exact yh, fun y1 y2 yw yc yI yw1 yc1 yh ye ys yk => by obtain ⟨ye0, -⟩ := ye; show (y2 22) = vU8 ((mget s.consents (⟨o3, client⟩ : S_grant_use)).getD (0 : UInt8)); rw [ye0]; exact yh, fun y1 y2 yw yc yI yw1 yc1 yh ye ys yk => by obtain ⟨ye0, -⟩ := ye; show (y2 23) = vB ((mget s.consents (⟨o3, client⟩ : S_grant_use)).isSome); rw [ye0]; exact yh, fun y1 y2 yw yc yI yw1 yc1 yh ye ys yk => by obtain ⟨ye0, -⟩ := ye; show (y2 8) = vU8 ((mget s.consents (⟨o3, client⟩ : S_grant_use)).getD (0 : UInt8)); rw [ye0]; exact yh, trivial⟩ ?_)
  · rintro f_ w_2 c_2 hB hs ⟨-⟩ o ho; obtain rfl : _ = o := Option.some.inj ho
    exact OS.move (v := p_) rfl ((hB 0 (by kernel_rfl)).trans (show _ = p_ from rfl)) ⟨_, St.refl, rfl⟩
  · rintro f_1 w_3 c_3 hB1 hs1 ⟨g, -⟩ o ho; obtain rfl : _ = o := Option.some.inj ho
    replace g : (f_1 14) = p_ := g
    have o9 := o6.keep hs1 (by decide)
    exact OS.nilCheckBx rfl g o9 ⟨_, St.refl, rfl⟩
  · rintro f_2 w_4 c_4 hB2 hs2 ⟨g1, -⟩ o ho; obtain rfl : _ = o := Option.some.inj ho
    replace g1 : (f_2 15) = p_ := g1
    have o10 := o6.keep hs2 (by decide)
    exact OS.fieldAddrBx rfl Tryz.runUnderlying69 rfl Tryz.sizeOf67 rfl g1 o10 (fun _ h => ⟨_, St.refl, h⟩)
  · rintro f_3 w_5 c_5 hB3 hs3 ⟨g2, -⟩ o ho; obtain rfl : _ = o := Option.some.inj ho
    replace g2 : AdrP p_ 1 1 (f_3 16) := g2
    have o11 := o6.keep hs3 (by decide)
    exact OS.ld1 (u := (.map (some b1))) rfl Tryz.isAgg67 rfl (o11.ldn g2 (sub_of rfl)) ⟨_, St.refl, rfl⟩
  · rintro f_4 w_6 c_6 hB4 hs4 ⟨-⟩ o ho; obtain rfl : _ = o := Option.some.inj ho
    have o12 := o4.keep (s2.t hs4) (by decide)
    exact OS.ldN (us := [vS o3.Tenant, vS o3.User]) rfl Tryz.isAgg24 Tryz.sizeOf24 ((hB4 4 (by kernel_rfl)).trans (show _ = p_1 from rfl)) o12.ldAll rfl ⟨_, St.refl, rfl⟩
  · rintro f_5 w_7 c_7 hB5 hs5 ⟨-⟩ o ho; obtain rfl : _ = o := Option.some.inj ho
    exact OS.move (v := vS client) rfl ((hB5 2 (by kernel_rfl)).trans (show _ = vS client from rfl)) ⟨_, St.refl, rfl⟩
  · rintro f_6 w_8 c_8 hB6 hs6 ⟨g3, g4, -⟩ o ho; obtain rfl : _ = o := Option.some.inj ho
    replace g3 : (f_6 18) = .agg (E24.e o3).toArray := g3
    replace g4 : (f_6 19) = vS client := g4
    exact OS.build (v := .agg (E77.e (⟨o3, client⟩ : S_grant_use)).toArray) [(0, .agg (E24.e o3).toArray), (1, vS client)] rfl ⟨rfl, g3, rfl, g4, trivial⟩ (fun _ => by kernel_rfl) ⟨_, St.refl, rfl⟩
  · rintro f_7 w_9 c_9 hB7 hs7 ⟨g5, g6, -⟩ o ho; obtain rfl : _ = o := Option.some.inj ho
    replace g5 : (f_7 17) = (.map (some b1)) := g5
    replace g6 : (f_7 20) = .agg (E77.e (⟨o3, client⟩ : S_grant_use)).toArray := g6
    have o13 := o2.keep ((s1.t s2).t hs7) (by decide) (by decide)
    exact OS.look2 (zv := vU8 (0 : UInt8)) (zx := (0 : UInt8)) (a := (⟨o3, client⟩ : S_grant_use)) rfl K77 Tryz.underlying67 Tryz.zeroValue25 g5 g6 o13 rfl (by rintro _ rfl; exact ⟨_, St.refl, rfl⟩)
  · rintro f_8 w_10 c_10 hB8 hs8 ⟨g7, -⟩ o ho; obtain rfl : _ = o := Option.some.inj ho
    replace g7 : (f_8 21) = .tuple #[vU8 ((mget s.consents (⟨o3, client⟩ : S_grant_use)).getD (0 : UInt8)), vB ((mget s.consents (⟨o3, client⟩ : S_grant_use)).isSome)] := g7
    exact OS.move (v := .tuple #[vU8 ((mget s.consents (⟨o3, client⟩ : S_grant_use)).getD (0 : UInt8)), vB ((mget s.consents (⟨o3, client⟩ : S_grant_use)).isSome)]) rfl g7 ⟨_, St.refl, rfl⟩
  · rintro f_9 w_11 c_11 hB9 hs9 ⟨g8, -⟩ o ho; obtain rfl : _ = o := Option.some.inj ho
    replace g8 : (f_9 13) = .tuple #[vU8 ((mget s.consents (⟨o3, client⟩ : S_grant_use)).getD (0 : UInt8)), vB ((mget s.consents (⟨o3, client⟩ : S_grant_use)).isSome)] := g8
    exact OS.extract (v := vU8 ((mget s.consents (⟨o3, client⟩ : S_grant_use)).getD (0 : UInt8))) rfl g8 rfl ⟨_, St.refl, rfl⟩
  · rintro f_10 w_12 c_12 hB10 hs10 ⟨g9, -⟩ o ho; obtain rfl : _ = o := Option.some.inj ho
    replace g9 : (f_10 13) = .tuple #[vU8 ((mget s.consents (⟨o3, client⟩ : S_grant_use)).getD (0 : UInt8)), vB ((mget s.consents (⟨o3, client⟩ : S_grant_use)).isSome)] := g9
    exact OS.extract (v := vB ((mget s.consents (⟨o3, client⟩ : S_grant_use)).isSome)) rfl g9 rfl ⟨_, St.refl, rfl⟩
  · rintro f_11 w_13 c_13 hB11 hs11 ⟨g10, -⟩ o ho; obtain rfl : _ = o := Option.some.inj ho
    replace g10 : (f_11 22) = vU8 ((mget s.consents (⟨o3, client⟩ : S_grant_use)).getD (0 : UInt8)) := g10
    exact OS.assign (v := vU8 ((mget s.consents (⟨o3, client⟩ : S_grant_use)).getD (0 : UInt8))) rfl g10 ⟨_, St.refl, rfl⟩
  · rintro f_12 w_14 c_14 hB12 hs12 ⟨g11, g12, -⟩
    replace g11 : (f_12 23) = vB ((mget s.consents (⟨o3, client⟩ : S_grant_use)).isSome) := g11
    replace g12 : (f_12 8) = vU8 ((mget s.consents (⟨o3, client⟩ : S_grant_use)).getD (0 : UInt8)) := g12
    have h := (hB12 0 (by kernel_rfl)).trans (show _ = p_ from rfl)
    have h1 := (hB12 2 (by kernel_rfl)).trans (show _ = vS client from rfl)
    have h2 := (hB12 4 (by kernel_rfl)).trans (show _ = p_1 from rfl)
    have h3 := (hB12 6 (by kernel_rfl)).trans (show _ = p_2 from rfl)
    refine WR.k rfl rfl rfl (OS.assign (v := vB ((mget s.consents (⟨o3, client⟩ : S_grant_use)).isSome)) rfl g11 ?_)
    refine WR.nil ?_
    refine WC.seq ?_
    refine WC.seq (WC.region ?_)
    refine WR.k rfl rfl rfl (OS.move (v := vB ((mget s.consents (⟨o3, client⟩ : S_grant_use)).isSome)) rfl rfl ?_)
    refine WR.k rfl rfl rfl (OS.not rfl rfl ?_)
    refine WR.nil ?_
    refine WC.cond (!((mget s.consents (⟨o3, client⟩ : S_grant_use)).isSome)) rfl (fun hb => ?_) (fun hb => ?_)
    · rw [if_pos hb] at hp
      refine WC.seq (WC.region ?_)
      refine WR.k rfl rfl rfl (OS.build (v := .agg (E47.e (⟨(⟨([] : List UInt8), ([] : List UInt8)⟩ : S_api_Owner), ([] : List UInt8), (0 : UInt8)⟩ : S_api_Consent)).toArray) [] rfl trivial (fun _ => by kernel_rfl) ?_)
      have o14 := o5.keep hs12 (by decide)
      refine WR.k0 rfl rfl (OS.stBxAll (v := .agg (E47.e (⟨(⟨([] : List UInt8), ([] : List UInt8)⟩ : S_api_Owner), ([] : List UInt8), (0 : UInt8)⟩ : S_api_Consent)).toArray) (ws := [vS ([] : List UInt8), vS ([] : List UInt8), vS ([] : List UInt8), vU8 (0 : UInt8)]) rfl Tryz.sizeOf47 h3 rfl rfl o14 rfl rfl (one_of rfl) ?_); intro w_15 o15 s3
      refine WR.k rfl rfl rfl (OS.assign (v := vI (4 : Int)) rfl rfl ?_)
      refine WR.nil ?_
      refine WC.ret ?_
      repeat first | refine thenQ_ret ?_ | refine blkQ_ret ?_
      cases hp
      exact fnQ.ls (fn := Tryz.f19) (rs := [.cell 6 47, .tmp 7]) (vs := [.agg (E47.e (⟨(⟨([] : List UInt8), ([] : List UInt8)⟩ : S_api_Owner), ([] : List UInt8), (0 : UInt8)⟩ : S_api_Consent)).toArray, vI (4 : Int)]) rfl ⟨(.inr ⟨_, _, _, _, rfl, ⟨_, h3, Tryz.isAgg47, Tryz.sizeOf47, o15.ldAll, rfl⟩, rfl⟩), (.inl ⟨_, rfl, rfl⟩), trivial⟩ ⟨_, rfl, (((s1.t s2).t hs12).t s3).leave hcw (by decide)⟩ (by simp)
    · rw [if_neg (nt hb)] at hp
      refine WC.skip ?_
      refine WC.seq (WC.region ?_)
      have o16 := o7.keep hs12 (by decide)
      refine WR.k rfl rfl rfl (OS.ldN (us := [vS o3.Tenant, vS o3.User]) rfl Tryz.isAgg24 Tryz.sizeOf24 h2 o16.ldAll rfl ?_)
      refine WR.k rfl rfl rfl (OS.move (v := vS client) rfl h1 ?_)
      refine WR.k rfl rfl rfl (OS.move (v := vU8 ((mget s.consents (⟨o3, client⟩ : S_grant_use)).getD (0 : UInt8))) rfl g12 ?_)
      refine WR.k rfl rfl rfl (OS.build (v := .agg (E47.e (⟨o3, client, ((mget s.consents (⟨o3, client⟩ : S_grant_use)).getD (0 : UInt8))⟩ : S_api_Consent)).toArray) [(0, .agg (E24.e o3).toArray), (1, vS client), (2, vU8 ((mget s.consents (⟨o3, client⟩ : S_grant_use)).getD (0 : UInt8)))] rfl ⟨rfl, rfl, rfl, rfl, rfl, rfl, trivial⟩ (fun _ => by kernel_rfl) ?_)
      have o17 := o5.keep hs12 (by decide)
      refine WR.k0 rfl rfl (OS.stBxAll (v := .agg (E47.e (⟨o3, client, ((mget s.consents (⟨o3, client⟩ : S_grant_use)).getD (0 : UInt8))⟩ : S_api_Consent)).toArray) (ws := [vS o3.Tenant, vS o3.User, vS client, vU8 ((mget s.consents (⟨o3, client⟩ : S_grant_use)).getD (0 : UInt8))]) rfl Tryz.sizeOf47 h3 rfl rfl o17 rfl rfl (one_of rfl) ?_); intro w_16 o18 s4
      refine WR.k rfl rfl rfl (OS.assign (v := vI (0 : Int)) rfl rfl ?_)
      refine WR.nil ?_
      refine WC.ret ?_
      repeat first | refine thenQ_ret ?_ | refine blkQ_ret ?_
      cases hp
      exact fnQ.ls (fn := Tryz.f19) (rs := [.cell 6 47, .tmp 7]) (vs := [.agg (E47.e (⟨o3, client, ((mget s.consents (⟨o3, client⟩ : S_grant_use)).getD (0 : UInt8))⟩ : S_api_Consent)).toArray, vI (0 : Int)]) rfl ⟨(.inr ⟨_, _, _, _, rfl, ⟨_, h3, Tryz.isAgg47, Tryz.sizeOf47, o18.ldAll, rfl⟩, rfl⟩), (.inl ⟨_, rfl, rfl⟩), trivial⟩ ⟨_, rfl, (((s1.t s2).t hs12).t s4).leave hcw (by decide)⟩ (by simp)

-- (*holdfast/grant.Store).May
set_option maxHeartbeats 4000000 in
theorem W25 (K : Nat) (w0 : World) (cw : Col) (hcw : ∀ b, cw b < 40) {s : S_grant_Store} {o3 : S_api_Owner} {client : List UInt8} {redirect : List UInt8} {scopes : UInt8} {r : Int} (hp : grant_Store_May K s o3 client redirect scopes = some r) {b : Nat} {b1 : Nat} {p_ : Value} (o : Bx 3 w0 cw p_ [(.map (some b)), (.map (some b1))]) (o1 : Mp kv74 (VR.flat vv43) 4 w0 cw (.map (some b)) s.clients) (o2 : Mp kv77 (VR.flat vv25) 5 w0 cw (.map (some b1)) s.consents) :
    Calls Tryz.prog 25 [p_, .agg (E24.e o3).toArray, vS client, vS redirect, vU8 scopes].toArray w0 fun e w1 => ∃ (d : Col), e = .returned (vI r) ∧ St [] w0 cw w1 d := by
  refine calls_intro Tryz.func25 rfl Tryz.ntmps25 rfl ?_
  unfold grant_Store_May at hp
  refine WC.seq (WC.region ?_)
  refine WR.k rfl rfl rfl (OS.boxBx (us := [vS o3.Tenant, vS o3.User]) (c := cw) 40 rfl rfl rfl ?_); intro p_1 w_ c_ o4 s1
  refine WR.k rfl rfl rfl (OS.assign (v := vI (0 : Int)) rfl rfl ?_)
  refine WR.nil ?_
  refine WC.seq (WC.region ?_)
  refine WR.k rfl rfl rfl (OS.move (v := p_) rfl rfl ?_)
  refine WR.k rfl rfl rfl (OS.fieldAddrBx rfl Tryz.runUnderlying24 rfl Tryz.sizeOf9 rfl rfl o4 ?_); intro p_2 a1
  refine WR.k rfl rfl rfl (OS.ld1 (u := vS o3.Tenant) rfl Tryz.isAgg9 rfl (o4.ldn a1 (sub_of rfl)) ?_)
  refine WR.k rfl rfl rfl (OS.move (v := vS client) rfl rfl ?_)
  have o5 := o.keep s1 (by decide)
  have o6 := o1.keep s1 (by decide) (by decide)
  have o7 := o2.keep s1 (by decide) (by decide)
  obtain ⟨r_, hr_, hp⟩ := bind_some hp
  refine WR.k rfl rfl rfl (OS.callF (vs := [p_, vS o3.Tenant, vS client]) rfl ⟨rfl, rfl, rfl, trivial⟩ Tryz.call39 ((W39 K w_ (rcc [3, 4, 5] c_) (rcc_lt c_ rfl) hr_ (o5.tr (rc_tr (by decide))) (o6.tr (rc_tr (by decide))) (o7.tr (rc_tr (by decide)))).mono ?_))
  rintro _ w_1 ⟨d1, rfl, s2⟩
  refine ⟨_, rfl, ?_⟩
  obtain ⟨c_1, s3⟩ : ∃ c_1, St [] w_ c_ w_1 c_1 := ⟨_, s2.mg2 (sh := 10000) rfl⟩
  refine WR.k rfl rfl rfl (OS.move (v := .tuple #[.agg (E43.e r_.1).toArray, vI r_.2]) rfl rfl ?_)
  refine WR.k rfl rfl rfl (OS.extract (v := .agg (E43.e r_.1).toArray) rfl rfl rfl ?_)
  refine WR.k rfl rfl rfl (OS.extract (v := vI r_.2) rfl rfl rfl ?_)
  refine WR.k rfl rfl rfl (OS.allocBx (us := [vS ([] : List UInt8), vS ([] : List UInt8), vS ([] : List UInt8), vU8 (0 : UInt8)]) (c := c_1) 41 rfl Tryz.zeroValue43 rfl ?_); intro p_3 w_2 c_2 o8 s4
  refine WR.k0 rfl rfl (OS.stBxAll (v := .agg (E43.e r_.1).toArray) (ws := [vS r_.1.Tenant, vS r_.1.Name, vS r_.1.Redirect, vU8 r_.1.Scopes]) rfl Tryz.sizeOf43 rfl rfl rfl o8 rfl rfl (one_of rfl) ?_); intro w_3 o9 s5
  refine WR.k rfl rfl rfl (OS.assign (v := vI r_.2) rfl rfl ?_)
  refine WR.nil ?_
  refine WC.seq ?_
  refine WC.seq (WC.region ?_)
  refine WR.k rfl rfl rfl (OS.move (v := vI r_.2) rfl rfl ?_)
  refine WR.k rfl rfl rfl (OS.bin (a := vI r_.2) (b := vI (0 : Int)) rfl rfl rfl bI_neq ?_)
  refine WR.nil ?_
  refine WC.cond (!decide (r_.2 = (0 : Int))) rfl (fun hb => ?_) (fun hb => ?_)
  · rw [if_pos hb] at hp
    refine WC.seq (WC.region ?_)
    refine WR.k rfl rfl rfl (OS.move (v := vI r_.2) rfl rfl ?_)
    refine WR.k rfl rfl rfl (OS.assign (v := vI r_.2) rfl rfl ?_)
    refine WR.nil ?_
    refine WC.ret ?_
    repeat first | refine thenQ_ret ?_ | refine blkQ_ret ?_
    cases hp
    exact fnQ.l1 (fn := Tryz.f25) rfl (.inl ⟨_, rfl, rfl⟩) ⟨_, rfl, (((s1.t s3).t s4).t s5).leave hcw (by decide)⟩
  · rw [if_neg (nt hb)] at hp
    refine WC.skip ?_
    refine WC.seq (WC.region ?_)
    refine WR.k rfl rfl rfl (OS.move (v := p_) rfl rfl ?_)
    have o10 := o4.keep ((s3.t s4).t s5) (by decide)
    refine WR.k rfl rfl rfl (OS.ldN (us := [vS o3.Tenant, vS o3.User]) rfl Tryz.isAgg24 Tryz.sizeOf24 rfl o10.ldAll rfl ?_)
    refine WR.k rfl rfl rfl (OS.move (v := vS client) rfl rfl ?_)
    have o11 := o5.keep ((s3.t s4).t s5) (by decide)
    have o12 := o6.keep ((s3.t s4).t s5) (by decide) (by decide)
    have o13 := o7.keep ((s3.t s4).t s5) (by decide) (by decide)
    obtain ⟨r_1, hr_1, hp⟩ := bind_some hp
    refine WR.k rfl rfl rfl (OS.callF (vs := [p_, .agg (E24.e o3).toArray, vS client]) rfl ⟨rfl, rfl, rfl, trivial⟩ Tryz.call19 ((W19 K w_3 (rcc [3, 4, 5] c_2) (rcc_lt c_2 rfl) hr_1 (o11.tr (rc_tr (by decide))) (o12.tr (rc_tr (by decide))) (o13.tr (rc_tr (by decide)))).mono ?_))
    rintro _ w_4 ⟨d2, rfl, s6⟩
    refine ⟨_, rfl, ?_⟩
    obtain ⟨c_3, s7⟩ : ∃ c_3, St [] w_3 c_2 w_4 c_3 := ⟨_, s6.mg2 (sh := 20000) rfl⟩
    refine WR.k rfl rfl rfl (OS.move (v := .tuple #[.agg (E47.e r_1.1).toArray, vI r_1.2]) rfl rfl ?_)
    refine WR.k rfl rfl rfl (OS.extract (v := .agg (E47.e r_1.1).toArray) rfl rfl rfl ?_)
    refine WR.k rfl rfl rfl (OS.extract (v := vI r_1.2) rfl rfl rfl ?_)
    refine WR.k rfl rfl rfl (OS.allocBx (us := [vS ([] : List UInt8), vS ([] : List UInt8), vS ([] : List UInt8), vU8 (0 : UInt8)]) (c := c_3) 42 rfl Tryz.zeroValue47 rfl ?_); intro p_4 w_5 c_4 o14 s8
    refine WR.k0 rfl rfl (OS.stBxAll (v := .agg (E47.e r_1.1).toArray) (ws := [vS r_1.1.Owner.Tenant, vS r_1.1.Owner.User, vS r_1.1.Client, vU8 r_1.1.Scopes]) rfl Tryz.sizeOf47 rfl rfl rfl o14 rfl rfl (one_of rfl) ?_); intro w_6 o15 s9
    refine WR.k rfl rfl rfl (OS.assign (v := vI r_1.2) rfl rfl ?_)
    refine WR.nil ?_
    refine WC.seq ?_
    refine WC.block ?_
    refine WC.seq (WC.region ?_)
    refine WR.k rfl rfl rfl (OS.move (v := vI r_1.2) rfl rfl ?_)
    refine WR.k rfl rfl rfl (OS.bin (a := vI r_1.2) (b := vI (0 : Int)) rfl rfl rfl bI_neq ?_)
    refine WR.k rfl rfl rfl (OS.assign (v := vB (!decide (r_1.2 = (0 : Int)))) rfl rfl ?_)
    refine WR.nil ?_
    refine WC.cond (!decide (r_1.2 = (0 : Int))) rfl (fun hb1 => ?_) (fun hb1 => ?_)
    · rw [if_pos hb1] at hp
      refine WC.seq (WC.region ?_)
      refine WR.k rfl rfl rfl (OS.move (v := vI r_1.2) rfl rfl ?_)
      refine WR.k rfl rfl rfl (OS.assign (v := vI r_1.2) rfl rfl ?_)
      refine WR.nil ?_
      refine WC.ret ?_
      repeat first | refine thenQ_ret ?_ | refine blkQ_ret ?_
      cases hp
      exact fnQ.l1 (fn := Tryz.f25) rfl (.inl ⟨_, rfl, rfl⟩) ⟨_, rfl, ((((((s1.t s3).t s4).t s5).t s7).t s8).t s9).leave hcw (by decide)⟩
    · rw [if_neg (nt hb1)] at hp
      refine WC.seq (WC.region ?_)
      have o16 := o9.keep ((s7.t s8).t s9) (by decide)
      refine WR.k rfl rfl rfl (OS.fieldAddrBx rfl Tryz.runUnderlying43 rfl Tryz.sizeOf9 rfl rfl o16 ?_); intro p_5 a2
      refine WR.k rfl rfl rfl (OS.ld1 (u := vS r_.1.Redirect) rfl Tryz.isAgg9 rfl (o16.ldn a2 (sub_of rfl)) ?_)
      refine WR.k rfl rfl rfl (OS.move (v := vS redirect) rfl rfl ?_)
      refine WR.k rfl rfl rfl (OS.bin (a := vS r_.1.Redirect) (b := vS redirect) rfl rfl rfl bS_neq ?_)
      refine WR.k rfl rfl rfl (OS.assign (v := vB (!decide (r_.1.Redirect = redirect))) rfl rfl ?_)
      refine WR.nil ?_
      refine WC.cond (!decide (r_.1.Redirect = redirect)) rfl (fun hb2 => ?_) (fun hb2 => ?_)
      · rw [if_pos hb2] at hp
        refine WC.seq (WC.region ?_)
        refine WR.k rfl rfl rfl (OS.assign (v := vI (10 : Int)) rfl rfl ?_)
        refine WR.nil ?_
        refine WC.ret ?_
        repeat first | refine thenQ_ret ?_ | refine blkQ_ret ?_
        cases hp
        exact fnQ.l1 (fn := Tryz.f25) rfl (.inl ⟨_, rfl, rfl⟩) ⟨_, rfl, ((((((s1.t s3).t s4).t s5).t s7).t s8).t s9).leave hcw (by decide)⟩
      · rw [if_neg (nt hb2)] at hp
        refine WC.seq (WC.region ?_)
        refine WR.k rfl rfl rfl (OS.move (v := vU8 scopes) rfl rfl ?_)
        refine WR.k rfl rfl rfl (OS.fieldAddrBx rfl Tryz.runUnderlying47 rfl Tryz.sizeOf25 rfl rfl o15 ?_); intro p_6 a3
        refine WR.k rfl rfl rfl (OS.ld1 (u := vU8 r_1.1.Scopes) rfl Tryz.isAgg25 rfl (o15.ldn a3 (sub_of rfl)) ?_)
        refine WR.k rfl rfl rfl (OS.bin (a := vU8 scopes) (b := vU8 r_1.1.Scopes) rfl rfl rfl b8_andNot ?_)
        refine WR.k rfl rfl rfl (OS.bin (a := vU8 (scopes &&& ~~~r_1.1.Scopes)) (b := vU8 (0 : UInt8)) rfl rfl (by kernel_rfl) b8_neq ?_)
        refine WR.k rfl rfl rfl (OS.assign (v := vB (!decide (scopes &&& ~~~r_1.1.Scopes = (0 : UInt8)))) rfl rfl ?_)
        refine WR.nil ?_
        refine WC.cond (!decide (scopes &&& ~~~r_1.1.Scopes = (0 : UInt8))) rfl (fun hb3 => ?_) (fun hb3 => ?_)
        · rw [if_pos hb3] at hp
          refine WC.seq (WC.region ?_)
          refine WR.k rfl rfl rfl (OS.assign (v := vI (14 : Int)) rfl rfl ?_)
          refine WR.nil ?_
          refine WC.ret ?_
          repeat first | refine thenQ_ret ?_ | refine blkQ_ret ?_
          cases hp
          exact fnQ.l1 (fn := Tryz.f25) rfl (.inl ⟨_, rfl, rfl⟩) ⟨_, rfl, ((((((s1.t s3).t s4).t s5).t s7).t s8).t s9).leave hcw (by decide)⟩
        · rw [if_neg (nt hb3)] at hp
          refine WC.skip ?_
          refine WC.seq (WC.region ?_)
          refine WR.k rfl rfl rfl (OS.assign (v := vI (0 : Int)) rfl rfl ?_)
          refine WR.nil ?_
          refine WC.ret ?_
          repeat first | refine thenQ_ret ?_ | refine blkQ_ret ?_
          cases hp
          exact fnQ.l1 (fn := Tryz.f25) rfl (.inl ⟨_, rfl, rfl⟩) ⟨_, rfl, ((((((s1.t s3).t s4).t s5).t s7).t s8).t s9).leave hcw (by decide)⟩

-- (*holdfast/grant.Store).Narrow
set_option maxHeartbeats 4000000 in
theorem W12 (K : Nat) (w0 : World) (cw : Col) (hcw : ∀ b, cw b < 40) {s : S_grant_Store} {tenant : List UInt8} {client : List UInt8} {scopes : UInt8} {r : UInt8 × Int × S_grant_Store} (hp : grant_Store_Narrow K s tenant client scopes = some r) {b : Nat} {b1 : Nat} {p_ : Value} (o : Bx 3 w0 cw p_ [(.map (some b)), (.map (some b1))]) (o1 : Mp kv74 (VR.flat vv43) 4 w0 cw (.map (some b)) s.clients) (o2 : Mp kv77 (VR.flat vv25) 5 w0 cw (.map (some b1)) s.consents) :
    Calls Tryz.prog 12 [p_, vS tenant, vS client, vU8 scopes].toArray w0 fun e w1 => ∃ (b3 : Nat) (b4 : Nat) (d : Col), e = .returned (.tuple #[vU8 r.1, vI r.2.1]) ∧ St [3, 4, 5] w0 cw w1 d ∧ Bx 3 w1 d p_ [(.map (some b3)), (.map (some b4))] ∧ Mp kv74 (VR.flat vv43) 4 w1 d (.map (some b3)) r.2.2.clients ∧ Mp kv77 (VR.flat vv25) 5 w1 d (.map (some b4)) r.2.2.consents := by
  refine calls_intro Tryz.func12 rfl Tryz.ntmps12 rfl ?_
  unfold grant_Store_Narrow at hp
  refine WC.seq (WC.region ?_)
  refine WR.k rfl rfl rfl (OS.assign (v := vU8 (0 : UInt8)) rfl (by kernel_rfl) ?_)
  refine WR.k rfl rfl rfl (OS.assign (v := vI (0 : Int)) rfl rfl ?_)
  refine WR.nil ?_
  refine WC.seq (WC.region ?_)
  refine WR.k rfl rfl rfl (OS.move (v := p_) rfl rfl ?_)
  refine WR.k rfl rfl rfl (OS.move (v := vS tenant) rfl rfl ?_)
  refine WR.k rfl rfl rfl (OS.move (v := vS client) rfl rfl ?_)
  obtain ⟨r_, hr_, hp⟩ := bind_some hp
  refine WR.k rfl rfl rfl (OS.callF (vs := [p_, vS tenant, vS client]) rfl ⟨rfl, rfl, rfl, trivial⟩ Tryz.call39 ((W39 K w0 (rcc [3, 4, 5] cw) (rcc_lt cw rfl) hr_ (o.tr (rc_tr (by decide))) (o1.tr (rc_tr (by decide))) (o2.tr (rc_tr (by decide)))).mono ?_))
  rintro _ w_ ⟨d1, rfl, s1⟩
  refine ⟨_, rfl, ?_⟩
  obtain ⟨c_, s2⟩ : ∃ c_, St [] w0 cw w_ c_ := ⟨_, s1.mg2 (sh := 10000) rfl⟩
  refine WR.k rfl rfl rfl (OS.move (v := .tuple #[.agg (E43.e r_.1).toArray, vI r_.2]) rfl rfl ?_)
  refine WR.k rfl rfl rfl (OS.extract (v := .agg (E43.e r_.1).toArray) rfl rfl rfl ?_)
  refine WR.k rfl rfl rfl (OS.extract (v := vI r_.2) rfl rfl rfl ?_)
  refine WR.k rfl rfl rfl (OS.allocBx (us := [vS ([] : List UInt8), vS ([] : List UInt8), vS ([] : List UInt8), vU8 (0 : UInt8)]) (c := c_) 40 rfl Tryz.zeroValue43 rfl ?_); intro p_1 w_1 c_1 o3 s3
  refine WR.k0 rfl rfl (OS.stBxAll (v := .agg (E43.e r_.1).toArray) (ws := [vS r_.1.Tenant, vS r_.1.Name, vS r_.1.Redirect, vU8 r_.1.Scopes]) rfl Tryz.sizeOf43 rfl rfl rfl o3 rfl rfl (one_of rfl) ?_); intro w_2 o4 s4
  refine WR.k rfl rfl rfl (OS.assign (v := vI r_.2) rfl rfl ?_)
  refine WR.nil ?_
  refine WC.seq ?_
  refine WC.seq (WC.region ?_)
  refine WR.k rfl rfl rfl (OS.move (v := vI r_.2) rfl rfl ?_)
  refine WR.k rfl rfl rfl (OS.bin (a := vI r_.2) (b := vI (0 : Int)) rfl rfl rfl bI_neq ?_)
  refine WR.nil ?_
  refine WC.cond (!decide (r_.2 = (0 : Int))) rfl (fun hb => ?_) (fun hb => ?_)
  · rw [if_pos hb] at hp
    refine WC.seq (WC.region ?_)
    refine WR.k rfl rfl rfl (OS.move (v := vI r_.2) rfl rfl ?_)
    refine WR.k rfl rfl rfl (OS.assign (v := vU8 (0 : UInt8)) rfl (by kernel_rfl) ?_)
    refine WR.k rfl rfl rfl (OS.assign (v := vI r_.2) rfl rfl ?_)
    refine WR.nil ?_
    refine WC.ret ?_
    repeat first | refine thenQ_ret ?_ | refine blkQ_ret ?_
    cases hp
    have o5 := o.keep ((s2.t s3).t s4) (by decide)
    have o6 := o1.keep ((s2.t s3).t s4) (by decide) (by decide)
    have o7 := o2.keep ((s2.t s3).t s4) (by decide) (by decide)
    exact fnQ.ls (fn := Tryz.f12) (rs := [.tmp 8, .tmp 9]) (vs := [vU8 (0 : UInt8), vI r_.2]) rfl ⟨(.inl ⟨_, rfl, rfl⟩), (.inl ⟨_, rfl, rfl⟩), trivial⟩ ⟨_, _, _, rfl, ((s2.t s3).t s4).leave hcw (by decide), o5, o6, o7⟩ (by simp)
  · rw [if_neg (nt hb)] at hp
    refine WC.skip ?_
    refine WC.seq (WC.region ?_)
    refine WR.k rfl rfl rfl (OS.fieldAddrBx rfl Tryz.runUnderlying43 rfl Tryz.sizeOf25 rfl rfl o4 ?_); intro p_2 a1
    refine WR.k rfl rfl rfl (OS.ld1 (u := vU8 r_.1.Scopes) rfl Tryz.isAgg25 rfl (o4.ldn a1 (sub_of rfl)) ?_)
    refine WR.k rfl rfl rfl (OS.move (v := vU8 scopes) rfl rfl ?_)
    refine WR.k rfl rfl rfl (OS.bin (a := vU8 r_.1.Scopes) (b := vU8 scopes) rfl rfl rfl b8_and ?_)
    refine WR.k rfl rfl rfl (OS.fieldAddrBx rfl Tryz.runUnderlying43 rfl Tryz.sizeOf25 rfl rfl o4 ?_); intro p_3 a2
    refine WR.k0 rfl rfl (OS.stBxAt (v := vU8 (r_.1.Scopes &&& scopes)) (vs := [vU8 (r_.1.Scopes &&& scopes)]) (ws := [vS r_.1.Tenant, vS r_.1.Name, vS r_.1.Redirect, vU8 (r_.1.Scopes &&& scopes)]) rfl Tryz.sizeOf25 rfl rfl rfl o4 a2 rfl (Nat.le_of_ble_eq_true rfl) (one_of rfl) rfl ?_); intro w_3 o8 s5
    refine WR.nil ?_
    have o9 := o.keep (((s2.t s3).t s4).t s5) (by decide)
    refine WC.seq (WC.draw3 (c := c_1) ⟨8, [[], [], [], [], [], [], [], []], [[], [], [], [], [], [], [], []], [], [[], [0], [1], [2], [], [], [4, 5], []], [3, 6, 7]⟩ [[], [], [], [], [], [], [], []] [[29], [30], [31], [32], [33], [34], [35], [36]] [fun yf yw yc => (yf 29) = p_, fun yf yw yc => (yf 30) = p_, fun yf yw yc => AdrP p_ 0 1 (yf 31), fun yf yw yc => (yf 32) = (.map (some b)), fun yf yw yc => (yf 33) = vS tenant, fun yf yw yc => (yf 34) = vS client, fun yf yw yc => (yf 35) = .agg (E74.e (⟨tenant, client⟩ : S_grant_name)).toArray, fun yf yw yc => (yf 36) = .agg (E43.e (⟨r_.1.Tenant, r_.1.Name, r_.1.Redirect, r_.1.Scopes &&& scopes⟩ : S_api_Client)).toArray] hmix (by kernel_rfl) (by kernel_rfl) ⟨?_, ?_, ?_, ?_, ?_, ?_, ?_, ?_, trivial⟩ ⟨fun y1 y2 yw yc yI yw1 yc1 yh ye ys yk => by obtain ⟨ye0, -⟩ := ye; show (y2 29) = p_; rw [ye0]; exact yh, fun y1 y2 yw yc yI yw1 yc1 yh ye ys yk => by obtain ⟨ye0, -⟩ := ye; show (y2 30) = p_; rw [ye0]; exact yh, fun y1 y2 yw yc yI yw1 yc1 yh ye ys yk => by obtain ⟨ye0, -⟩ := ye; show AdrP p_ 0 1 (y2 31); rw [ye0]; exact yh, fun y1 y2 yw yc yI yw1 yc1 yh ye ys yk => by obtain ⟨ye0, -⟩ := ye; show (y2 32) = (.map (some b)); rw [ye0]; exact yh, fun y1 y2 yw yc yI yw1 yc1 yh ye ys yk => by obtain ⟨ye0, -⟩ := ye; show (y2 33) = vS tenant; rw [ye0]; exact yh, fun y1 y2 yw yc yI yw1 yc1 yh ye ys yk => by obtain ⟨ye0, -⟩ := ye; show (y2 34) = vS client; rw [ye0]; exact yh, fun y1 y2 yw yc yI yw1 yc1 yh ye ys yk => by obtain ⟨ye0, -⟩ := ye; show (y2 35) = .agg (E74.e (⟨tenant, client⟩ : S_grant_name)).toArray; rw [ye0]; exact yh, fun y1 y2 yw yc yI yw1 yc1 yh ye ys yk => by obtain ⟨ye0, -⟩ := ye; show (y2 36) = .agg (E43.e (⟨r_.1.Tenant, r_.1.Name, r_.1.Redirect, r_.1.Scopes &&& scopes⟩ : S_api_Client)).toArray; rw [ye0]; exact yh, trivial⟩ ?_)
    · rintro f_ w_4 c_2 hB hs ⟨-⟩ o ho; obtain rfl : _ = o := Option.some.inj ho
      exact OS.move (v := p_) rfl ((hB 0 (by kernel_rfl)).trans (show _ = p_ from rfl)) ⟨_, St.refl, rfl⟩
    · rintro f_1 w_5 c_3 hB1 hs1 ⟨g, -⟩ o ho; obtain rfl : _ = o := Option.some.inj ho
      replace g : (f_1 29) = p_ := g
      have o10 := o.keep ((((s2.t s3).t s4).t s5).t hs1) (by decide)
      exact OS.nilCheckBx rfl g o10 ⟨_, St.refl, rfl⟩
    · rintro f_2 w_6 c_4 hB2 hs2 ⟨g1, -⟩ o ho; obtain rfl : _ = o := Option.some.inj ho
      replace g1 : (f_2 30) = p_ := g1
      have o11 := o9.keep hs2 (by decide)
      exact OS.fieldAddrBx rfl Tryz.runUnderlying69 rfl Tryz.sizeOf66 rfl g1 o11 (fun _ h => ⟨_, St.refl, h⟩)
    · rintro f_3 w_7 c_5 hB3 hs3 ⟨g2, -⟩ o ho; obtain rfl : _ = o := Option.some.inj ho
      replace g2 : AdrP p_ 0 1 (f_3 31) := g2
      have o12 := o9.keep hs3 (by decide)
      exact OS.ld1 (u := (.map (some b))) rfl Tryz.isAgg66 rfl (o12.ldn g2 (sub_of rfl)) ⟨_, St.refl, rfl⟩
    · rintro f_4 w_8 c_6 hB4 hs4 ⟨-⟩ o ho; obtain rfl : _ = o := Option.some.inj ho
      exact OS.move (v := vS tenant) rfl ((hB4 1 (by kernel_rfl)).trans (show _ = vS tenant from rfl)) ⟨_, St.refl, rfl⟩
    · rintro f_5 w_9 c_7 hB5 hs5 ⟨-⟩ o ho; obtain rfl : _ = o := Option.some.inj ho
      exact OS.move (v := vS client) rfl ((hB5 2 (by kernel_rfl)).trans (show _ = vS client from rfl)) ⟨_, St.refl, rfl⟩
    · rintro f_6 w_10 c_8 hB6 hs6 ⟨g3, g4, -⟩ o ho; obtain rfl : _ = o := Option.some.inj ho
      replace g3 : (f_6 33) = vS tenant := g3
      replace g4 : (f_6 34) = vS client := g4
      exact OS.build (v := .agg (E74.e (⟨tenant, client⟩ : S_grant_name)).toArray) [(0, vS tenant), (1, vS client)] rfl ⟨rfl, g3, rfl, g4, trivial⟩ (fun _ => by kernel_rfl) ⟨_, St.refl, rfl⟩
    · rintro f_7 w_11 c_9 hB7 hs7 ⟨-⟩ o ho; obtain rfl : _ = o := Option.some.inj ho
      have o13 := o8.keep hs7 (by decide)
      exact OS.ldN (us := [vS r_.1.Tenant, vS r_.1.Name, vS r_.1.Redirect, vU8 (r_.1.Scopes &&& scopes)]) rfl Tryz.isAgg43 Tryz.sizeOf43 ((hB7 10 (by kernel_rfl)).trans (show _ = p_1 from rfl)) o13.ldAll rfl ⟨_, St.refl, rfl⟩
    · rintro f_8 w_12 c_10 hB8 hs8 ⟨g5, g6, g7, -⟩
      replace g5 : (f_8 32) = (.map (some b)) := g5
      replace g6 : (f_8 35) = .agg (E74.e (⟨tenant, client⟩ : S_grant_name)).toArray := g6
      replace g7 : (f_8 36) = .agg (E43.e (⟨r_.1.Tenant, r_.1.Name, r_.1.Redirect, r_.1.Scopes &&& scopes⟩ : S_api_Client)).toArray := g7
      have h := (hB8 0 (by kernel_rfl)).trans (show _ = p_ from rfl)
      have h1 := (hB8 1 (by kernel_rfl)).trans (show _ = vS tenant from rfl)
      have h2 := (hB8 2 (by kernel_rfl)).trans (show _ = vS client from rfl)
      have h3 := (hB8 3 (by kernel_rfl)).trans (show _ = vU8 scopes from rfl)
      have h4 := (hB8 10 (by kernel_rfl)).trans (show _ = p_1 from rfl)
      have o14 := o1.keep ((((s2.t s3).t s4).t s5).t hs8) (by decide) (by decide)
      obtain ⟨m, hm, hp⟩ := bind_some hp
      replace hm := (Option.some.inj hm).symm
      refine WR.k0 rfl rfl (OS.mapUpd (q := (⟨r_.1.Tenant, r_.1.Name, r_.1.Redirect, r_.1.Scopes &&& scopes⟩ : S_api_Client)) (a := (⟨tenant, client⟩ : S_grant_name)) (.inl rfl) K74 Tryz.underlying66 g5 g6 g7 o14 rfl (by decide) ?_); intro w_13 o15 s6
      replace o15 : Mp kv74 (VR.flat vv43) 4 w_13 c_10 (.map (some b)) m := by rw [hm]; exact o15
      refine WR.nil ?_
      refine WC.seq ?_
      refine WC.seq (WC.region ?_)
      refine WR.k rfl rfl rfl (OS.move (v := p_) rfl h ?_)
      have o16 := o9.keep (hs8.t s6) (by decide)
      refine WR.k rfl rfl rfl (OS.nilCheckBx rfl rfl o16 ?_)
      refine WR.k rfl rfl rfl (OS.fieldAddrBx rfl Tryz.runUnderlying69 rfl Tryz.sizeOf67 rfl rfl o16 ?_); intro p_4 a4
      refine WR.k rfl rfl rfl (OS.ld1 (u := (.map (some b1))) rfl Tryz.isAgg67 rfl (o16.ldn a4 (sub_of rfl)) ?_)
      have o17 := o2.keep (((((s2.t s3).t s4).t s5).t hs8).t s6) (by decide) (by decide)
      refine WR.k rfl rfl rfl (OS.range (c := c_10) 41 rfl Tryz.runUnderlying67 rfl o17 ?_); intro p_5 w_14 c_11 o18 s7
      refine WR.nil ?_
      obtain ⟨kf, hkf, hM⟩ := mrngK_name hp
      replace hM : Mqk (grant_Store_Narrow.m1 K tenant client scopes : S_grant_use × UInt8 → (List (S_grant_use × UInt8)) → Option (Lr Unit (List (S_grant_use × UInt8)))) s.consents s.consents kf := hM
      refine WC.blockJ2 (fun f_9 w_15 => ∃ (x : List (S_grant_use × UInt8)) (c_12 : Col), kf (.go x) ∧ f_9 0 = p_ ∧ f_9 10 = p_1 ∧ Mp kv77 (VR.flat vv25) 5 w_15 c_12 (.map (some b1)) x ∧ Bx 3 w_15 c_12 p_ [(.map (some b)), (.map (some b1))] ∧ St [5, 41, 42, 43, 44, 45] w_14 c_11 w_15 c_12) ?_ ?_
      · have o21 := o16.keep s7 (by decide)
        refine WC.loop (fun n => fun f_10 w_16 => ∃ (x : List (S_grant_use × UInt8)) (left : List (S_grant_use × UInt8)) (c_13 : Col), Mqk (grant_Store_Narrow.m1 K tenant client scopes : S_grant_use × UInt8 → (List (S_grant_use × UInt8)) → Option (Lr Unit (List (S_grant_use × UInt8)))) left x kf ∧ n = left.length ∧ f_10 0 = p_ ∧ f_10 1 = vS tenant ∧ f_10 2 = vS client ∧ f_10 3 = vU8 scopes ∧ f_10 10 = p_1 ∧ f_10 41 = p_5 ∧ MpI kv77 (VR.flat vv25) 5 41 w_16 c_13 (.map (some b1)) p_5 x left ∧ Bx 3 w_16 c_13 p_ [(.map (some b)), (.map (some b1))] ∧ St [5, 41, 42, 43, 44, 45] w_14 c_11 w_16 c_13) s.consents.length ⟨_, _, _, hM, rfl, h, h1, h2, h3, h4, rfl, o18, o21, St.refl.mono (by decide)⟩ ?_
        rintro n f_10 w_16 ⟨x, left, c_13, hM1, hn, h5, h6, h7, h8, h9, h10, o20, o19, s8⟩
        refine WC.seq (WC.region ?_)
        refine WR.k rfl rfl rfl (OS.next rfl K77 h10 o20 (by decide) (by decide) (fun hl => ?_) (fun l k1 u l1 v_ w_17 hsp hnk hu o22 o23 s9 => ?_))
        · refine WR.k rfl rfl rfl (OS.extract (v := vB false) rfl rfl rfl ?_)
          refine WR.nil ?_
          refine WC.seq ?_
          refine WC.condF rfl ?_
          refine WC.exit ?_
          have o24 := o20.mp
          exact ⟨_, _, hM1.done hl, h5, h9, o24, o19, s8.mono (by decide)⟩
        · obtain rfl := hu
          obtain ⟨b2, hb1, hgo, hret⟩ := hM1.step hsp
          unfold grant_Store_Narrow.m1 at hb1
          dsimp only at hb1
          refine WR.k rfl rfl rfl (OS.extract (v := vB true) rfl rfl rfl ?_)
          refine WR.nil ?_
          refine WC.seq ?_
          refine WC.condT rfl ?_
          refine WC.skip ?_
          refine WC.block ?_
          refine WC.seq (WC.region ?_)
          refine WR.k rfl rfl rfl (OS.entry rfl h10 o23 ?_)
          refine WR.k rfl rfl rfl (OS.extract (v := .agg (E77.e k1).toArray) rfl rfl rfl ?_)
          refine WR.k rfl rfl rfl (OS.extract (v := vU8 u) rfl rfl rfl ?_)
          refine WR.k rfl rfl rfl (OS.allocBx (us := [vS ([] : List UInt8), vS ([] : List UInt8), vS ([] : List UInt8)]) (c := c_13) 45 rfl Tryz.zeroValue77 rfl ?_); intro p_6 w_18 c_14 o25 s10
          refine WR.k0 rfl rfl (OS.stBxAll (v := .agg (E77.e k1).toArray) (ws := [vS k1.Owner.Tenant, vS k1.Owner.User, vS k1.client]) rfl Tryz.sizeOf77 rfl rfl rfl o25 rfl rfl (one_of rfl) ?_); intro w_19 o26 s11
          refine WR.k rfl rfl rfl (OS.assign (v := vU8 u) rfl rfl ?_)
          refine WR.nil ?_
          refine WC.seq (WC.region ?_)
          refine WR.k rfl rfl rfl (OS.fieldAddrBx rfl Tryz.runUnderlying77 rfl Tryz.sizeOf24 rfl rfl o26 ?_); intro p_7 a5
          refine WR.k rfl rfl rfl (OS.fieldAddrP rfl Tryz.runUnderlying24 rfl Tryz.sizeOf9 rfl rfl a5 ?_); intro p_8 a6
          refine WR.k rfl rfl rfl (OS.ld1 (u := vS k1.Owner.Tenant) rfl Tryz.isAgg9 rfl (o26.ldn a6 (sub_of rfl)) ?_)
          refine WR.k rfl rfl rfl (OS.move (v := vS tenant) rfl h6 ?_)
          refine WR.k rfl rfl rfl (OS.bin (a := vS k1.Owner.Tenant) (b := vS tenant) rfl rfl rfl bS_eql ?_)
          refine WR.k rfl rfl rfl (OS.move (v := vB (decide (k1.Owner.Tenant = tenant))) rfl rfl ?_)
          refine WR.cut2 5 (fun f_11 w_20 => f_11 0 = p_ ∧ f_11 1 = vS tenant ∧ f_11 2 = vS client ∧ f_11 3 = vU8 scopes ∧ f_11 10 = p_1 ∧ f_11 12 = p_6 ∧ f_11 13 = vU8 u ∧ f_11 41 = p_5 ∧ f_11 57 = vB ((decide (k1.Owner.Tenant = tenant)) && (decide (k1.client = client))) ∧ MpI kv77 (VR.flat vv25) 5 41 w_19 c_14 (.map (some b1)) p_5 x (l ++ l1) ∧ Bx 3 w_19 c_14 p_ [(.map (some b)), (.map (some b1))] ∧ w_19 = w_20) ?_ ?_
          · rcases Bool.eq_false_or_eq_true (decide (k1.Owner.Tenant = tenant)) with hg | hg
            · refine WR.kT rfl rfl (vb_t rfl hg) rfl rfl (OS.fieldAddrBx rfl Tryz.runUnderlying77 rfl Tryz.sizeOf9 rfl rfl o26 ?_); intro p_9 a7
              refine WR.kT rfl rfl (vb_t rfl hg) rfl rfl (OS.ld1 (u := vS k1.client) rfl Tryz.isAgg9 rfl (o26.ldn a7 (sub_of rfl)) ?_)
              refine WR.kT rfl rfl (vb_t rfl hg) rfl rfl (OS.move (v := vS client) rfl h7 ?_)
              refine WR.kT rfl rfl (vb_t rfl hg) rfl rfl (OS.bin (a := vS k1.client) (b := vS client) rfl rfl rfl bS_eql ?_)
              refine WR.k rfl rfl rfl (OS.pickT rfl (vb_t rfl hg) rfl ?_)
              refine WR.nil ?_
              have o29 := o22.keep (s10.t s11) (by decide) (by decide) (by decide)
              have o30 := o19.keep ((s9.t s10).t s11) (by decide)
              exact ⟨h5, h6, h7, h8, h9, rfl, rfl, h10, (and_t hg), o29, o30, rfl⟩
            · refine WR.gF rfl rfl (vb_f rfl hg) rfl rfl ?_
              refine WR.gF rfl rfl (vb_f rfl hg) rfl rfl ?_
              refine WR.gF rfl rfl (vb_f rfl hg) rfl rfl ?_
              refine WR.gF rfl rfl (vb_f rfl hg) rfl rfl ?_
              refine WR.k rfl rfl rfl (OS.pickF rfl (vb_f rfl hg) rfl ?_)
              refine WR.nil ?_
              have o31 := o22.keep (s10.t s11) (by decide) (by decide) (by decide)
              have o32 := o19.keep ((s9.t s10).t s11) (by decide)
              exact ⟨h5, h6, h7, h8, h9, rfl, rfl, h10, (and_f hg), o31, o32, rfl⟩
          · rintro f_11 _ ⟨h11, h12, h13, h14, h15, h16, h17, h18, h19, o28, o27, rfl⟩
            refine WR.nil ?_
            refine WC.cond ((decide (k1.Owner.Tenant = tenant)) && (decide (k1.client = client))) h19 (fun hb2 => ?_) (fun hb2 => ?_)
            · rw [if_pos hb2] at hb1
              refine WC.draw3 (c := c_14) ⟨8, [[], [], [], [], [], [], [], []], [[], [], [], [], [], [], [], []], [], [[], [0], [1], [2], [], [], [], [5, 6]], [3, 4, 7]⟩ [[], [], [], [], [], [], [], []] [[58], [59], [60], [61], [62], [63], [64], [65]] [fun yf yw yc => (yf 58) = p_, fun yf yw yc => (yf 59) = p_, fun yf yw yc => AdrP p_ 1 1 (yf 60), fun yf yw yc => (yf 61) = (.map (some b1)), fun yf yw yc => (yf 62) = .agg (E77.e k1).toArray, fun yf yw yc => (yf 63) = vU8 u, fun yf yw yc => (yf 64) = vU8 scopes, fun yf yw yc => (yf 65) = vU8 (u &&& scopes)] hmix (by kernel_rfl) (by kernel_rfl) ⟨?_, ?_, ?_, ?_, ?_, ?_, ?_, ?_, trivial⟩ ⟨fun y1 y2 yw yc yI yw1 yc1 yh ye ys yk => by obtain ⟨ye0, -⟩ := ye; show (y2 58) = p_; rw [ye0]; exact yh, fun y1 y2 yw yc yI yw1 yc1 yh ye ys yk => by obtain ⟨ye0, -⟩ := ye; show (y2 59) = p_; rw [ye0]; exact yh, fun y1 y2 yw yc yI yw1 yc1 yh ye ys yk => by obtain ⟨ye0, -⟩ := ye; show AdrP p_ 1 1 (y2 60); rw [ye0]; exact yh, fun y1 y2 yw yc yI yw1 yc1 yh ye ys yk => by obtain ⟨ye0, -⟩ := ye; show (y2 61) = (.map (some b1)); rw [ye0]; exact yh, fun y1 y2 yw yc yI yw1 yc1 yh ye ys yk => by obtain ⟨ye0, -⟩ := ye; show (y2 62) = .agg (E77.e k1).toArray; rw [ye0]; exact yh, fun y1 y2 yw yc yI yw1 yc1 yh ye ys yk => by obtain ⟨ye0, -⟩ := ye; show (y2 63) = vU8 u; rw [ye0]; exact yh, fun y1 y2 yw yc yI yw1 yc1 yh ye ys yk => by obtain ⟨ye0, -⟩ := ye; show (y2 64) = vU8 scopes; rw [ye0]; exact yh, fun y1 y2 yw yc yI yw1 yc1 yh ye ys yk => by obtain ⟨ye0, -⟩ := ye; show (y2 65) = vU8 (u &&& scopes); rw [ye0]; exact yh, trivial⟩ ?_
              · rintro f_12 w_21 c_16 hB9 hs9 ⟨-⟩ o ho; obtain rfl : _ = o := Option.some.inj ho
                exact OS.move (v := p_) rfl ((hB9 0 (by kernel_rfl)).trans h11) ⟨_, St.refl, rfl⟩
              · rintro f_13 w_22 c_17 hB10 hs10 ⟨g8, -⟩ o ho; obtain rfl : _ = o := Option.some.inj ho
                replace g8 : (f_13 58) = p_ := g8
                have o33 := o27.keep hs10 (by decide)
                exact OS.nilCheckBx rfl g8 o33 ⟨_, St.refl, rfl⟩
              · rintro f_14 w_23 c_18 hB11 hs11 ⟨g9, -⟩ o ho; obtain rfl : _ = o := Option.some.inj ho
                replace g9 : (f_14 59) = p_ := g9
                have o34 := o27.keep hs11 (by decide)
                exact OS.fieldAddrBx rfl Tryz.runUnderlying69 rfl Tryz.sizeOf67 rfl g9 o34 (fun _ h => ⟨_, St.refl, h⟩)
              · rintro f_15 w_24 c_19 hB12 hs12 ⟨g10, -⟩ o ho; obtain rfl : _ = o := Option.some.inj ho
                replace g10 : AdrP p_ 1 1 (f_15 60) := g10
                have o35 := o27.keep hs12 (by decide)
                exact OS.ld1 (u := (.map (some b1))) rfl Tryz.isAgg67 rfl (o35.ldn g10 (sub_of rfl)) ⟨_, St.refl, rfl⟩
              · rintro f_16 w_25 c_20 hB13 hs13 ⟨-⟩ o ho; obtain rfl : _ = o := Option.some.inj ho
                have o36 := o26.keep hs13 (by decide)
                exact OS.ldN (us := [vS k1.Owner.Tenant, vS k1.Owner.User, vS k1.client]) rfl Tryz.isAgg77 Tryz.sizeOf77 ((hB13 12 (by kernel_rfl)).trans h16) o36.ldAll rfl ⟨_, St.refl, rfl⟩
              · rintro f_17 w_26 c_21 hB14 hs14 ⟨-⟩ o ho; obtain rfl : _ = o := Option.some.inj ho
                exact OS.move (v := vU8 u) rfl ((hB14 13 (by kernel_rfl)).trans h17) ⟨_, St.refl, rfl⟩
              · rintro f_18 w_27 c_22 hB15 hs15 ⟨-⟩ o ho; obtain rfl : _ = o := Option.some.inj ho
                exact OS.move (v := vU8 scopes) rfl ((hB15 3 (by kernel_rfl)).trans h14) ⟨_, St.refl, rfl⟩
              · rintro f_19 w_28 c_23 hB16 hs16 ⟨g11, g12, -⟩ o ho; obtain rfl : _ = o := Option.some.inj ho
                replace g11 : (f_19 63) = vU8 u := g11
                replace g12 : (f_19 64) = vU8 scopes := g12
                exact OS.bin (a := vU8 u) (b := vU8 scopes) rfl g11 g12 b8_and ⟨_, St.refl, rfl⟩
              · rintro f_20 w_29 c_24 hB17 hs17 ⟨g13, g14, g15, -⟩
                replace g13 : (f_20 61) = (.map (some b1)) := g13
                replace g14 : (f_20 62) = .agg (E77.e k1).toArray := g14
                replace g15 : (f_20 65) = vU8 (u &&& scopes) := g15
                have h20 := (hB17 0 (by kernel_rfl)).trans h11
                have h21 := (hB17 1 (by kernel_rfl)).trans h12
                have h22 := (hB17 2 (by kernel_rfl)).trans h13
                have h23 := (hB17 3 (by kernel_rfl)).trans h14
                have h24 := (hB17 10 (by kernel_rfl)).trans h15
                have h25 := (hB17 41 (by kernel_rfl)).trans h18
                have o37 := o28.keep hs17 (by decide) (by decide) (by decide)
                obtain ⟨u1, hu1, hb1⟩ := bind_some hb1
                have hp_ := req_some hu1
                obtain ⟨m1, hm1, hb1⟩ := bind_some hb1
                replace hm1 := (Option.some.inj hm1).symm
                refine WR.k0 rfl rfl (OS.mapUpdI (q := u &&& scopes) (a := k1) (.inl rfl) K77 Tryz.underlying67 g13 g14 g15 o37 hnk hp_ rfl (by decide) ?_); intro w_30 o38 s12
                replace o38 : MpI kv77 (VR.flat vv25) 5 41 w_30 c_24 (.map (some b1)) p_5 m1 (l ++ l1) := by rw [hm1]; exact o38
                refine WR.nil ?_
                cases hb1
                have o39 := o27.keep (hs17.t s12) (by decide)
                exact ⟨(l ++ l1).length, (by rw [hn, hsp]; simp only [List.length_append, List.length_cons]; omega), ⟨_, _, _, hgo _ rfl, rfl, h20, h21, h22, h23, h24, h25, o38, o39, (((((s8.t s9).t s10).t s11).t hs17).t s12).mono (by decide)⟩⟩
            · rw [if_neg (nt hb2)] at hb1
              refine WC.skip ?_
              cases hb1
              exact ⟨(l ++ l1).length, (by rw [hn, hsp]; simp only [List.length_append, List.length_cons]; omega), ⟨_, _, _, hgo _ rfl, rfl, h11, h12, h13, h14, h15, h18, o28, o27, (((s8.t s9).t s10).t s11).mono (by decide)⟩⟩
      · rintro f_9 w_15 ⟨x, c_12, hq, h26, h27, o20, o19, s13⟩
        replace hp := hkf _ hq; simp only [lrc] at hp
        refine WC.seq (WC.region ?_)
        have o40 := o8.keep (((hs8.t s6).t s7).t s13) (by decide)
        refine WR.k rfl rfl rfl (OS.fieldAddrBx rfl Tryz.runUnderlying43 rfl Tryz.sizeOf25 rfl h27 o40 ?_); intro p_10 a9
        refine WR.k rfl rfl rfl (OS.ld1 (u := vU8 (r_.1.Scopes &&& scopes)) rfl Tryz.isAgg25 rfl (o40.ldn a9 (sub_of rfl)) ?_)
        refine WR.k rfl rfl rfl (OS.assign (v := vU8 (r_.1.Scopes &&& scopes)) rfl rfl ?_)
        refine WR.k rfl rfl rfl (OS.assign (v := vI (0 : Int)) rfl rfl ?_)
        refine WR.nil ?_
        refine WC.ret ?_
        repeat first | refine thenQ_ret ?_ | refine blkQ_ret ?_
        cases hp
        have o41 := o15.keep (s7.t s13) (by decide) (by decide)
        exact fnQ.ls (fn := Tryz.f12) (rs := [.tmp 8, .tmp 9]) (vs := [vU8 (r_.1.Scopes &&& scopes), vI (0 : Int)]) rfl ⟨(.inl ⟨_, rfl, rfl⟩), (.inl ⟨_, rfl, rfl⟩), trivial⟩ ⟨_, _, _, rfl, (((((((s2.t s3).t s4).t s5).t hs8).t s6).t s7).t s13).leave hcw (by decide), o19, o41, o20⟩ (by simp)

-- holdfast/holdfastlaw13.live
set_option maxHeartbeats 4000000 in
theorem W9 (K : Nat) (w0 : World) (cw : Col) (hcw : ∀ b, cw b < 40) {r : Bool} (hp : holdfastlaw13_live K = some r) :
    Calls Tryz.prog 9 [].toArray w0 fun e w1 => ∃ (d : Col), e = .returned (vB r) ∧ St [] w0 cw w1 d := by
  refine calls_intro Tryz.func9 rfl Tryz.ntmps9 rfl ?_
  unfold holdfastlaw13_live at hp
  refine WC.seq (WC.region ?_)
  refine WR.k rfl rfl rfl (OS.assign (v := vB false) rfl rfl ?_)
  refine WR.nil ?_
  refine WC.seq (WC.region ?_)
  obtain ⟨r_, hr_, hp⟩ := bind_some hp
  refine WR.k rfl rfl rfl (OS.callF (vs := []) rfl trivial Tryz.call7 ((W7 K w0 (rcc [] cw) (rcc_lt cw rfl) hr_).mono ?_))
  rintro _ w_ ⟨p_, b, b1, d1, rfl, s, o, o1, o2⟩
  refine ⟨_, rfl, ?_⟩
  obtain ⟨c_, s1, o, o1, o2⟩ : ∃ c_, St [] w0 cw w_ c_ ∧ Bx 12000 w_ c_ p_ [(.map (some b)), (.map (some b1))] ∧ Mp kv74 (VR.flat vv43) 12001 w_ c_ (.map (some b)) r_.clients ∧ Mp kv77 (VR.flat vv25) 12002 w_ c_ (.map (some b1)) r_.consents := ⟨_, s.mg2 (sh := 10000) rfl, o.tr (mg2_back s rfl), o1.tr (mg2_back s rfl), o2.tr (mg2_back s rfl)⟩
  refine WR.k rfl rfl rfl (OS.assign (v := p_) rfl rfl ?_)
  refine WR.nil ?_
  refine WC.seq ?_
  refine WC.seq (WC.region ?_)
  refine WR.k rfl rfl rfl (OS.move (v := p_) rfl rfl ?_)
  refine WR.k rfl rfl rfl (OS.eqPtrS rfl (.inl ⟨rfl, rfl⟩) Tryz.underlying28 rfl o rfl ?_)
  refine WR.nil ?_
  refine WC.condF rfl ?_
  refine WC.skip ?_
  refine WC.seq (WC.region ?_)
  refine WR.k rfl rfl rfl (OS.build (v := .agg (E24.e (⟨([116] : List UInt8), ([117] : List UInt8)⟩ : S_api_Owner)).toArray) [(0, vS ([116] : List UInt8)), (1, vS ([117] : List UInt8))] rfl ⟨rfl, rfl, rfl, rfl, trivial⟩ (fun _ => by kernel_rfl) ?_)
  refine WR.k rfl rfl rfl (OS.allocBx (us := [vS ([] : List UInt8), vS ([] : List UInt8)]) (c := c_) 40 rfl Tryz.zeroValue24 rfl ?_); intro p_1 w_1 c_1 o3 s2
  refine WR.k0 rfl rfl (OS.stBxAll (v := .agg (E24.e (⟨([116] : List UInt8), ([117] : List UInt8)⟩ : S_api_Owner)).toArray) (ws := [vS ([116] : List UInt8), vS ([117] : List UInt8)]) rfl Tryz.sizeOf24 rfl rfl rfl o3 rfl rfl (one_of rfl) ?_); intro w_2 o4 s3
  refine WR.nil ?_
  refine WC.seq (WC.region ?_)
  refine WR.k rfl rfl rfl (OS.move (v := p_) rfl rfl ?_)
  refine WR.k rfl rfl rfl (OS.build (v := .agg (E43.e (⟨([116] : List UInt8), ([99] : List UInt8), ([114] : List UInt8), (3 : UInt8)⟩ : S_api_Client)).toArray) [(0, vS ([116] : List UInt8)), (1, vS ([99] : List UInt8)), (2, vS ([114] : List UInt8)), (3, vU8 (3 : UInt8))] rfl ⟨rfl, rfl, rfl, rfl, rfl, rfl, rfl, (by kernel_rfl), trivial⟩ (fun _ => by kernel_rfl) ?_)
  have o5 := o.keep (s2.t s3) (by decide)
  have o6 := o1.keep (s2.t s3) (by decide) (by decide)
  have o7 := o2.keep (s2.t s3) (by decide) (by decide)
  obtain ⟨r_1, hr_1, hp⟩ := bind_some hp
  refine WR.k rfl rfl rfl (OS.callF (vs := [p_, .agg (E43.e (⟨([116] : List UInt8), ([99] : List UInt8), ([114] : List UInt8), (3 : UInt8)⟩ : S_api_Client)).toArray]) rfl ⟨rfl, rfl, trivial⟩ Tryz.call20 ((W20 K w_2 (rcc [12000, 12001, 12002] c_1) (rcc_lt c_1 rfl) hr_1 (o5.tr (rc_tr (by decide))) (o6.tr (rc_tr (by decide))) (o7.tr (rc_tr (by decide)))).mono ?_))
  rintro _ w_3 ⟨b2, b3, d2, rfl, s4, o8, o9, o10⟩
  refine ⟨_, rfl, ?_⟩
  obtain ⟨c_2, s5, o8, o9, o10⟩ : ∃ c_2, St [12000, 12001, 12002] w_2 c_1 w_3 c_2 ∧ Bx 12000 w_3 c_2 p_ [(.map (some b2)), (.map (some b3))] ∧ Mp kv74 (VR.flat vv43) 12001 w_3 c_2 (.map (some b2)) r_1.2.clients ∧ Mp kv77 (VR.flat vv25) 12002 w_3 c_2 (.map (some b3)) r_1.2.consents := ⟨_, s4.mg2 (sh := 20000) rfl, o8.tr (mg2_back s4 rfl), o9.tr (mg2_back s4 rfl), o10.tr (mg2_back s4 rfl)⟩
  refine WR.k rfl rfl rfl (OS.assign (v := vI r_1.1) rfl rfl ?_)
  refine WR.nil ?_
  refine WC.seq (WC.region ?_)
  refine WR.k rfl rfl rfl (OS.move (v := p_) rfl rfl ?_)
  have o11 := o4.keep s5 (by decide)
  refine WR.k rfl rfl rfl (OS.ldN (us := [vS ([116] : List UInt8), vS ([117] : List UInt8)]) rfl Tryz.isAgg24 Tryz.sizeOf24 rfl o11.ldAll rfl ?_)
  refine WR.k rfl rfl rfl (OS.build (v := .agg (E47.e (⟨(⟨([116] : List UInt8), ([117] : List UInt8)⟩ : S_api_Owner), ([99] : List UInt8), (1 : UInt8)⟩ : S_api_Consent)).toArray) [(0, .agg (E24.e (⟨([116] : List UInt8), ([117] : List UInt8)⟩ : S_api_Owner)).toArray), (1, vS ([99] : List UInt8)), (2, vU8 (1 : UInt8))] rfl ⟨rfl, rfl, rfl, rfl, rfl, (by kernel_rfl), trivial⟩ (fun _ => by kernel_rfl) ?_)
  obtain ⟨r_2, hr_2, hp⟩ := bind_some hp
  refine WR.k rfl rfl rfl (OS.callF (vs := [p_, .agg (E47.e (⟨(⟨([116] : List UInt8), ([117] : List UInt8)⟩ : S_api_Owner), ([99] : List UInt8), (1 : UInt8)⟩ : S_api_Consent)).toArray]) rfl ⟨rfl, rfl, trivial⟩ Tryz.call22 ((W22 K w_3 (rcc [12000, 12001, 12002] c_2) (rcc_lt c_2 rfl) hr_2 (o8.tr (rc_tr (by decide))) (o9.tr (rc_tr (by decide))) (o10.tr (rc_tr (by decide)))).mono ?_))
  rintro _ w_4 ⟨b4, b5, d3, rfl, s6, o12, o13, o14⟩
  refine ⟨_, rfl, ?_⟩
  obtain ⟨c_3, s7, o12, o13, o14⟩ : ∃ c_3, St [12000, 12001, 12002] w_3 c_2 w_4 c_3 ∧ Bx 12000 w_4 c_3 p_ [(.map (some b4)), (.map (some b5))] ∧ Mp kv74 (VR.flat vv43) 12001 w_4 c_3 (.map (some b4)) r_2.2.clients ∧ Mp kv77 (VR.flat vv25) 12002 w_4 c_3 (.map (some b5)) r_2.2.consents := ⟨_, s6.mg2 (sh := 30000) rfl, o12.tr (mg2_back s6 rfl), o13.tr (mg2_back s6 rfl), o14.tr (mg2_back s6 rfl)⟩
  refine WR.k rfl rfl rfl (OS.assign (v := vI r_2.1) rfl rfl ?_)
  refine WR.nil ?_
  refine WC.seq (WC.region ?_)
  refine WR.k rfl rfl rfl (OS.move (v := p_) rfl rfl ?_)
  have o15 := o11.keep s7 (by decide)
  refine WR.k rfl rfl rfl (OS.ldN (us := [vS ([116] : List UInt8), vS ([117] : List UInt8)]) rfl Tryz.isAgg24 Tryz.sizeOf24 rfl o15.ldAll rfl ?_)
  obtain ⟨r_3, hr_3, hp⟩ := bind_some hp
  refine WR.k rfl rfl rfl (OS.callF (vs := [p_, .agg (E24.e (⟨([116] : List UInt8), ([117] : List UInt8)⟩ : S_api_Owner)).toArray, vS ([99] : List UInt8), vS ([114] : List UInt8), vU8 (1 : UInt8)]) rfl ⟨rfl, rfl, rfl, rfl, (by kernel_rfl), trivial⟩ Tryz.call25 ((W25 K w_4 (rcc [12000, 12001, 12002] c_3) (rcc_lt c_3 rfl) hr_3 (o12.tr (rc_tr (by decide))) (o13.tr (rc_tr (by decide))) (o14.tr (rc_tr (by decide)))).mono ?_))
  rintro _ w_5 ⟨d4, rfl, s8⟩
  refine ⟨_, rfl, ?_⟩
  obtain ⟨c_4, s9⟩ : ∃ c_4, St [] w_4 c_3 w_5 c_4 := ⟨_, s8.mg2 (sh := 40000) rfl⟩
  refine WR.k rfl rfl rfl (OS.assign (v := vI r_3) rfl rfl ?_)
  refine WR.nil ?_
  refine WC.seq (WC.region ?_)
  refine WR.k rfl rfl rfl (OS.move (v := p_) rfl rfl ?_)
  have o16 := o12.keep s9 (by decide)
  have o17 := o13.keep s9 (by decide) (by decide)
  have o18 := o14.keep s9 (by decide) (by decide)
  obtain ⟨r_4, hr_4, hp⟩ := bind_some hp
  refine WR.k rfl rfl rfl (OS.callF (vs := [p_, vS ([116] : List UInt8), vS ([99] : List UInt8), vU8 (2 : UInt8)]) rfl ⟨rfl, rfl, rfl, (by kernel_rfl), trivial⟩ Tryz.call12 ((W12 K w_5 (rcc [12000, 12001, 12002] c_4) (rcc_lt c_4 rfl) hr_4 (o16.tr (rc_tr (by decide))) (o17.tr (rc_tr (by decide))) (o18.tr (rc_tr (by decide)))).mono ?_))
  rintro _ w_6 ⟨b6, b7, d5, rfl, s10, o19, o20, o21⟩
  refine ⟨_, rfl, ?_⟩
  obtain ⟨c_5, s11, o19, o20, o21⟩ : ∃ c_5, St [12000, 12001, 12002] w_5 c_4 w_6 c_5 ∧ Bx 12000 w_6 c_5 p_ [(.map (some b6)), (.map (some b7))] ∧ Mp kv74 (VR.flat vv43) 12001 w_6 c_5 (.map (some b6)) r_4.2.2.clients ∧ Mp kv77 (VR.flat vv25) 12002 w_6 c_5 (.map (some b7)) r_4.2.2.consents := ⟨_, s10.mg2 (sh := 50000) rfl, o19.tr (mg2_back s10 rfl), o20.tr (mg2_back s10 rfl), o21.tr (mg2_back s10 rfl)⟩
  refine WR.k rfl rfl rfl (OS.move (v := .tuple #[vU8 r_4.1, vI r_4.2.1]) rfl rfl ?_)
  refine WR.k rfl rfl rfl (OS.extract (v := vU8 r_4.1) rfl rfl rfl ?_)
  refine WR.k rfl rfl rfl (OS.extract (v := vI r_4.2.1) rfl rfl rfl ?_)
  refine WR.k rfl rfl rfl (OS.assign (v := vU8 r_4.1) rfl rfl ?_)
  refine WR.k rfl rfl rfl (OS.assign (v := vI r_4.2.1) rfl rfl ?_)
  refine WR.nil ?_
  refine WC.seq (WC.region ?_)
  refine WR.k rfl rfl rfl (OS.move (v := vI r_1.1) rfl rfl ?_)
  refine WR.k rfl rfl rfl (OS.bin (a := vI r_1.1) (b := vI (0 : Int)) rfl rfl rfl bI_eql ?_)
  refine WR.k rfl rfl rfl (OS.move (v := vB (decide (r_1.1 = (0 : Int)))) rfl rfl ?_)
  refine WR.cut2 3 (fun f_ w_7 => f_ 1 = p_ ∧ f_ 2 = p_1 ∧ f_ 5 = vI r_3 ∧ f_ 6 = vU8 r_4.1 ∧ f_ 7 = vI r_4.2.1 ∧ f_ 32 = vB ((decide (r_1.1 = (0 : Int))) && (decide (r_2.1 = (0 : Int)))) ∧ w_6 = w_7) ?_ ?_
  · rcases Bool.eq_false_or_eq_true (decide (r_1.1 = (0 : Int))) with hg | hg
    · refine WR.kT rfl rfl (vb_t rfl hg) rfl rfl (OS.move (v := vI r_2.1) rfl rfl ?_)
      refine WR.kT rfl rfl (vb_t rfl hg) rfl rfl (OS.bin (a := vI r_2.1) (b := vI (0 : Int)) rfl rfl rfl bI_eql ?_)
      refine WR.k rfl rfl rfl (OS.pickT rfl (vb_t rfl hg) rfl ?_)
      refine WR.nil ?_
      exact ⟨rfl, rfl, rfl, rfl, rfl, (and_t hg), rfl⟩
    · refine WR.gF rfl rfl (vb_f rfl hg) rfl rfl ?_
      refine WR.gF rfl rfl (vb_f rfl hg) rfl rfl ?_
      refine WR.k rfl rfl rfl (OS.pickF rfl (vb_f rfl hg) rfl ?_)
      refine WR.nil ?_
      exact ⟨rfl, rfl, rfl, rfl, rfl, (and_f hg), rfl⟩
  · rintro f_ _ ⟨h, h1, h2, h3, h4, h5, rfl⟩
    refine WR.k rfl rfl rfl (OS.move (v := vB ((decide (r_1.1 = (0 : Int))) && (decide (r_2.1 = (0 : Int))))) rfl h5 ?_)
    refine WR.cut2 3 (fun f_1 w_8 => f_1 1 = p_ ∧ f_1 2 = p_1 ∧ f_1 6 = vU8 r_4.1 ∧ f_1 7 = vI r_4.2.1 ∧ f_1 36 = vB (((decide (r_1.1 = (0 : Int))) && (decide (r_2.1 = (0 : Int)))) && (decide (r_3 = (0 : Int)))) ∧ w_6 = w_8) ?_ ?_
    · rcases Bool.eq_false_or_eq_true ((decide (r_1.1 = (0 : Int))) && (decide (r_2.1 = (0 : Int)))) with hg1 | hg1
      · refine WR.kT rfl rfl (vb_t rfl hg1) rfl rfl (OS.move (v := vI r_3) rfl h2 ?_)
        refine WR.kT rfl rfl (vb_t rfl hg1) rfl rfl (OS.bin (a := vI r_3) (b := vI (0 : Int)) rfl rfl rfl bI_eql ?_)
        refine WR.k rfl rfl rfl (OS.pickT rfl (vb_t rfl hg1) rfl ?_)
        refine WR.nil ?_
        exact ⟨h, h1, h3, h4, (and_t hg1), rfl⟩
      · refine WR.gF rfl rfl (vb_f rfl hg1) rfl rfl ?_
        refine WR.gF rfl rfl (vb_f rfl hg1) rfl rfl ?_
        refine WR.k rfl rfl rfl (OS.pickF rfl (vb_f rfl hg1) rfl ?_)
        refine WR.nil ?_
        exact ⟨h, h1, h3, h4, (and_f hg1), rfl⟩
    · rintro f_1 _ ⟨h6, h7, h8, h9, h10, rfl⟩
      refine WR.k rfl rfl rfl (OS.move (v := vB (((decide (r_1.1 = (0 : Int))) && (decide (r_2.1 = (0 : Int)))) && (decide (r_3 = (0 : Int))))) rfl h10 ?_)
      refine WR.cut2 3 (fun f_2 w_9 => f_2 1 = p_ ∧ f_2 2 = p_1 ∧ f_2 7 = vI r_4.2.1 ∧ f_2 40 = vB ((((decide (r_1.1 = (0 : Int))) && (decide (r_2.1 = (0 : Int)))) && (decide (r_3 = (0 : Int)))) && (decide (r_4.1 = (2 : UInt8)))) ∧ w_6 = w_9) ?_ ?_
      · rcases Bool.eq_false_or_eq_true (((decide (r_1.1 = (0 : Int))) && (decide (r_2.1 = (0 : Int)))) && (decide (r_3 = (0 : Int)))) with hg2 | hg2
        · refine WR.kT rfl rfl (vb_t rfl hg2) rfl rfl (OS.move (v := vU8 r_4.1) rfl h8 ?_)
          refine WR.kT rfl rfl (vb_t rfl hg2) rfl rfl (OS.bin (a := vU8 r_4.1) (b := vU8 (2 : UInt8)) rfl rfl (by kernel_rfl) b8_eql ?_)
          refine WR.k rfl rfl rfl (OS.pickT rfl (vb_t rfl hg2) rfl ?_)
          refine WR.nil ?_
          exact ⟨h6, h7, h9, (and_t hg2), rfl⟩
        · refine WR.gF rfl rfl (vb_f rfl hg2) rfl rfl ?_
          refine WR.gF rfl rfl (vb_f rfl hg2) rfl rfl ?_
          refine WR.k rfl rfl rfl (OS.pickF rfl (vb_f rfl hg2) rfl ?_)
          refine WR.nil ?_
          exact ⟨h6, h7, h9, (and_f hg2), rfl⟩
      · rintro f_2 _ ⟨h11, h12, h13, h14, rfl⟩
        refine WR.k rfl rfl rfl (OS.move (v := vB ((((decide (r_1.1 = (0 : Int))) && (decide (r_2.1 = (0 : Int)))) && (decide (r_3 = (0 : Int)))) && (decide (r_4.1 = (2 : UInt8))))) rfl h14 ?_)
        refine WR.cut2 3 (fun f_3 w_10 => f_3 1 = p_ ∧ f_3 2 = p_1 ∧ f_3 44 = vB (((((decide (r_1.1 = (0 : Int))) && (decide (r_2.1 = (0 : Int)))) && (decide (r_3 = (0 : Int)))) && (decide (r_4.1 = (2 : UInt8)))) && (decide (r_4.2.1 = (0 : Int)))) ∧ w_6 = w_10) ?_ ?_
        · rcases Bool.eq_false_or_eq_true ((((decide (r_1.1 = (0 : Int))) && (decide (r_2.1 = (0 : Int)))) && (decide (r_3 = (0 : Int)))) && (decide (r_4.1 = (2 : UInt8)))) with hg3 | hg3
          · refine WR.kT rfl rfl (vb_t rfl hg3) rfl rfl (OS.move (v := vI r_4.2.1) rfl h13 ?_)
            refine WR.kT rfl rfl (vb_t rfl hg3) rfl rfl (OS.bin (a := vI r_4.2.1) (b := vI (0 : Int)) rfl rfl rfl bI_eql ?_)
            refine WR.k rfl rfl rfl (OS.pickT rfl (vb_t rfl hg3) rfl ?_)
            refine WR.nil ?_
            exact ⟨h11, h12, (and_t hg3), rfl⟩
          · refine WR.gF rfl rfl (vb_f rfl hg3) rfl rfl ?_
            refine WR.gF rfl rfl (vb_f rfl hg3) rfl rfl ?_
            refine WR.k rfl rfl rfl (OS.pickF rfl (vb_f rfl hg3) rfl ?_)
            refine WR.nil ?_
            exact ⟨h11, h12, (and_f hg3), rfl⟩
        · rintro f_3 _ ⟨h15, h16, h17, rfl⟩
          refine WR.k rfl rfl rfl (OS.move (v := vB (((((decide (r_1.1 = (0 : Int))) && (decide (r_2.1 = (0 : Int)))) && (decide (r_3 = (0 : Int)))) && (decide (r_4.1 = (2 : UInt8)))) && (decide (r_4.2.1 = (0 : Int))))) rfl h17 ?_)
          obtain ⟨b8, ht, hp⟩ := bind_some hp
          refine WR.cut2 5 (fun f_4 w_11 => ∃ (c_10 : Col), f_4 50 = vB b8 ∧ St [] w_6 c_5 w_11 c_10) ?_ ?_
          · rcases Bool.eq_false_or_eq_true (((((decide (r_1.1 = (0 : Int))) && (decide (r_2.1 = (0 : Int)))) && (decide (r_3 = (0 : Int)))) && (decide (r_4.1 = (2 : UInt8)))) && (decide (r_4.2.1 = (0 : Int)))) with hg4 | hg4
            · rw [if_pos hg4] at ht
              refine WR.kT rfl rfl (vb_t rfl hg4) rfl rfl (OS.move (v := p_) rfl h15 ?_)
              have o22 := o15.keep (s9.t s11) (by decide)
              refine WR.kT rfl rfl (vb_t rfl hg4) rfl rfl (OS.ldN (us := [vS ([116] : List UInt8), vS ([117] : List UInt8)]) rfl Tryz.isAgg24 Tryz.sizeOf24 h16 o22.ldAll rfl ?_)
              obtain ⟨r_5, hr_5, ht⟩ := bind_some ht
              refine WR.kT rfl rfl (vb_t rfl hg4) rfl rfl (OS.callF (vs := [p_, .agg (E24.e (⟨([116] : List UInt8), ([117] : List UInt8)⟩ : S_api_Owner)).toArray, vS ([99] : List UInt8), vS ([114] : List UInt8), vU8 (1 : UInt8)]) rfl ⟨rfl, rfl, rfl, rfl, (by kernel_rfl), trivial⟩ Tryz.call25 ((W25 K w_6 (rcc [12000, 12001, 12002] c_5) (rcc_lt c_5 rfl) hr_5 (o19.tr (rc_tr (by decide))) (o20.tr (rc_tr (by decide))) (o21.tr (rc_tr (by decide)))).mono ?_))
              rintro _ w_12 ⟨d6, rfl, s12⟩
              refine ⟨_, rfl, ?_⟩
              obtain ⟨c_11, s13⟩ : ∃ c_11, St [] w_6 c_5 w_12 c_11 := ⟨_, s12.mg2 (sh := 70000) rfl⟩
              refine WR.kT rfl rfl (vb_t rfl hg4) rfl rfl (OS.bin (a := vI r_5) (b := vI (14 : Int)) rfl rfl rfl bI_eql ?_)
              refine WR.k rfl rfl rfl (OS.pickT rfl (vb_t rfl hg4) rfl ?_)
              cases ht
              refine WR.nil ?_
              exact ⟨_, rfl, s13.mono (by decide)⟩
            · rw [if_neg (nt hg4)] at ht
              refine WR.gF rfl rfl (vb_f rfl hg4) rfl rfl ?_
              refine WR.gF rfl rfl (vb_f rfl hg4) rfl rfl ?_
              refine WR.gF rfl rfl (vb_f rfl hg4) rfl rfl ?_
              refine WR.gF rfl rfl (vb_f rfl hg4) rfl rfl ?_
              refine WR.k rfl rfl rfl (OS.pickF rfl (vb_f rfl hg4) rfl ?_)
              cases ht
              refine WR.nil ?_
              exact ⟨_, rfl, St.refl.mono (by decide)⟩
          · rintro f_4 w_11 ⟨c_10, h18, s14⟩
            refine WR.k rfl rfl rfl (OS.assign (v := vB b8) rfl h18 ?_)
            refine WR.nil ?_
            refine WC.ret ?_
            repeat first | refine thenQ_ret ?_ | refine blkQ_ret ?_
            cases hp
            exact fnQ.l1 (fn := Tryz.f9) rfl (.inl ⟨_, rfl, rfl⟩) ⟨_, rfl, (((((((s1.t s2).t s3).t s5).t s7).t s9).t s11).t s14).leave hcw (by decide)⟩

-- (*holdfast/grant.Store).Register
set_option maxHeartbeats 4000000 in
theorem W20n0 (K : Nat) (w0 : World) (cw : Col) (hcw : ∀ b, cw b < 40) {c_ : S_api_Client} {r : Int} (hp : grant_Store_Register_nil0 K c_ = some r) :
    Calls Tryz.prog 20 [.pointer none, .agg (E43.e c_).toArray].toArray w0 fun e w1 => ∃ (d : Col), e = .returned (vI r) ∧ St [] w0 cw w1 d := by
  refine calls_intro Tryz.func20 rfl Tryz.ntmps20 rfl ?_
  unfold grant_Store_Register_nil0 at hp
  refine WC.seq (WC.region ?_)
  refine WR.k rfl rfl rfl (OS.boxBx (us := [vS c_.Tenant, vS c_.Name, vS c_.Redirect, vU8 c_.Scopes]) (c := cw) 40 rfl rfl rfl ?_); intro p_ w_ c_1 o s1
  refine WR.k rfl rfl rfl (OS.assign (v := vI (0 : Int)) rfl rfl ?_)
  refine WR.nil ?_
  refine WC.seq ?_
  refine WC.block ?_
  refine WC.seq (WC.region ?_)
  refine WR.k rfl rfl rfl (OS.move (v := .pointer none) rfl rfl ?_)
  refine WR.k rfl rfl rfl (OS.eqPtr (a := none) rfl (.inl ⟨rfl, rfl⟩) Tryz.underlying28 rfl rfl ?_)
  refine WR.k rfl rfl rfl (OS.assign (v := vB true) rfl rfl ?_)
  refine WR.nil ?_
  refine WC.condT rfl ?_
  refine WC.seq (WC.region ?_)
  refine WR.k rfl rfl rfl (OS.assign (v := vI (1 : Int)) rfl rfl ?_)
  refine WR.nil ?_
  refine WC.ret ?_
  repeat first | refine thenQ_ret ?_ | refine blkQ_ret ?_
  cases hp
  exact fnQ.l1 (fn := Tryz.f20) rfl (.inl ⟨_, rfl, rfl⟩) ⟨_, rfl, s1.leave hcw (by decide)⟩

-- (*holdfast/grant.Store).Drop
set_option maxHeartbeats 4000000 in
theorem W21n0 (K : Nat) (w0 : World) (cw : Col) (hcw : ∀ b, cw b < 40) {tenant : List UInt8} {client : List UInt8} {r : Int} (hp : grant_Store_Drop_nil0 K tenant client = some r) :
    Calls Tryz.prog 21 [.pointer none, vS tenant, vS client].toArray w0 fun e w1 => ∃ (d : Col), e = .returned (vI r) ∧ St [] w0 cw w1 d := by
  refine calls_intro Tryz.func21 rfl Tryz.ntmps21 rfl ?_
  unfold grant_Store_Drop_nil0 at hp
  refine WC.seq (WC.region ?_)
  refine WR.k rfl rfl rfl (OS.boxBx (us := [vS tenant]) (c := cw) 40 rfl rfl rfl ?_); intro p_ w_ c_ o s1
  refine WR.k rfl rfl rfl (OS.boxBx (us := [vS client]) (c := c_) 41 rfl rfl rfl ?_); intro p_1 w_1 c_1 o1 s2
  refine WR.k rfl rfl rfl (OS.assign (v := vI (0 : Int)) rfl rfl ?_)
  refine WR.nil ?_
  refine WC.seq (WC.region ?_)
  refine WR.k rfl rfl rfl (OS.move (v := .pointer none) rfl rfl ?_)
  have o2 := o.keep s2 (by decide)
  refine WR.k rfl rfl rfl (OS.ld1 (u := vS tenant) rfl Tryz.isAgg9 rfl o2.ldAll ?_)
  refine WR.k rfl rfl rfl (OS.ld1 (u := vS client) rfl Tryz.isAgg9 rfl o1.ldAll ?_)
  obtain ⟨r_, hr_, hp⟩ := bind_some hp
  refine WR.k rfl rfl rfl (OS.callF (vs := [.pointer none, vS tenant, vS client]) rfl ⟨rfl, rfl, rfl, trivial⟩ Tryz.call39 ((W39n0 K w_1 (rcc [] c_1) (rcc_lt c_1 rfl) hr_).mono ?_))
  rintro _ w_2 ⟨d1, rfl, s3⟩
  refine ⟨_, rfl, ?_⟩
  obtain ⟨c_2, s4⟩ : ∃ c_2, St [] w_1 c_1 w_2 c_2 := ⟨_, s3.mg2 (sh := 10000) rfl⟩
  refine WR.k rfl rfl rfl (OS.move (v := .tuple #[.agg (E43.e r_.1).toArray, vI r_.2]) rfl rfl ?_)
  refine WR.k rfl rfl rfl (OS.extract (v := .agg (E43.e r_.1).toArray) rfl rfl rfl ?_)
  refine WR.k rfl rfl rfl (OS.extract (v := vI r_.2) rfl rfl rfl ?_)
  refine WR.k rfl rfl rfl (OS.allocBx (us := [vS ([] : List UInt8), vS ([] : List UInt8), vS ([] : List UInt8), vU8 (0 : UInt8)]) (c := c_2) 42 rfl Tryz.zeroValue43 rfl ?_); intro p_2 w_3 c_3 o3 s5
  refine WR.k0 rfl rfl (OS.stBxAll (v := .agg (E43.e r_.1).toArray) (ws := [vS r_.1.Tenant, vS r_.1.Name, vS r_.1.Redirect, vU8 r_.1.Scopes]) rfl Tryz.sizeOf43 rfl rfl rfl o3 rfl rfl (one_of rfl) ?_); intro w_4 o4 s6
  refine WR.k rfl rfl rfl (OS.assign (v := vI r_.2) rfl rfl ?_)
  refine WR.nil ?_
  refine WC.seq ?_
  refine WC.seq (WC.region ?_)
  refine WR.k rfl rfl rfl (OS.move (v := vI r_.2) rfl rfl ?_)
  refine WR.k rfl rfl rfl (OS.bin (a := vI r_.2) (b := vI (0 : Int)) rfl rfl rfl bI_eql ?_)
  refine WR.nil ?_
  refine WC.endJ (fun f_ w_5 => grant_Store_Drop_nil0.j1 K r_ = some r ∧ f_ 8 = vI r_.2 ∧ w_4 = w_5) ?_ ?_
  · refine WC.cond (decide (r_.2 = (0 : Int))) rfl (fun hb => ?_) (fun hb => ?_)
    · rw [if_pos hb] at hp
      cases hp
    · rw [if_neg (nt hb)] at hp
      refine WC.skip ?_
      exact ⟨hp, rfl, rfl⟩
  · rintro f_ _ ⟨hp, h, rfl⟩
    unfold grant_Store_Drop_nil0.j1 at hp
    refine WC.seq (WC.region ?_)
    refine WR.k rfl rfl rfl (OS.move (v := vI r_.2) rfl h ?_)
    refine WR.k rfl rfl rfl (OS.assign (v := vI r_.2) rfl rfl ?_)
    refine WR.nil ?_
    refine WC.ret ?_
    repeat first | refine thenQ_ret ?_ | refine blkQ_ret ?_
    cases hp
    exact fnQ.l1 (fn := Tryz.f21) rfl (.inl ⟨_, rfl, rfl⟩) ⟨_, rfl, ((((s1.t s2).t s4).t s5).t s6).leave hcw (by decide)⟩

-- (*holdfast/grant.Store).Allow
set_option maxHeartbeats 4000000 in
theorem W22n0 (K : Nat) (w0 : World) (cw : Col) (hcw : ∀ b, cw b < 40) {c_ : S_api_Consent} {r : Int} (hp : grant_Store_Allow_nil0 K c_ = some r) :
    Calls Tryz.prog 22 [.pointer none, .agg (E47.e c_).toArray].toArray w0 fun e w1 => ∃ (d : Col), e = .returned (vI r) ∧ St [] w0 cw w1 d := by
  refine calls_intro Tryz.func22 rfl Tryz.ntmps22 rfl ?_
  unfold grant_Store_Allow_nil0 at hp
  refine WC.seq (WC.region ?_)
  refine WR.k rfl rfl rfl (OS.boxBx (us := [vS c_.Owner.Tenant, vS c_.Owner.User, vS c_.Client, vU8 c_.Scopes]) (c := cw) 40 rfl rfl rfl ?_); intro p_ w_ c_1 o s1
  refine WR.k rfl rfl rfl (OS.assign (v := vI (0 : Int)) rfl rfl ?_)
  refine WR.nil ?_
  refine WC.seq ?_
  refine WC.seq (WC.region ?_)
  refine WR.k rfl rfl rfl (OS.move (v := .pointer none) rfl rfl ?_)
  refine WR.k rfl rfl rfl (OS.eqPtr (a := none) rfl (.inl ⟨rfl, rfl⟩) Tryz.underlying28 rfl rfl ?_)
  refine WR.nil ?_
  refine WC.condT rfl ?_
  refine WC.seq (WC.region ?_)
  refine WR.k rfl rfl rfl (OS.assign (v := vI (1 : Int)) rfl rfl ?_)
  refine WR.nil ?_
  refine WC.ret ?_
  repeat first | refine thenQ_ret ?_ | refine blkQ_ret ?_
  cases hp
  exact fnQ.l1 (fn := Tryz.f22) rfl (.inl ⟨_, rfl, rfl⟩) ⟨_, rfl, s1.leave hcw (by decide)⟩

-- (*holdfast/grant.Store).Withdraw
set_option maxHeartbeats 4000000 in
theorem W23n0 (K : Nat) (w0 : World) (cw : Col) (hcw : ∀ b, cw b < 40) {o : S_api_Owner} {client : List UInt8} {r : Int} (hp : grant_Store_Withdraw_nil0 K o client = some r) :
    Calls Tryz.prog 23 [.pointer none, .agg (E24.e o).toArray, vS client].toArray w0 fun e w1 => ∃ (d : Col), e = .returned (vI r) ∧ St [] w0 cw w1 d := by
  refine calls_intro Tryz.func23 rfl Tryz.ntmps23 rfl ?_
  unfold grant_Store_Withdraw_nil0 at hp
  refine WC.seq (WC.region ?_)
  refine WR.k rfl rfl rfl (OS.boxBx (us := [vS o.Tenant, vS o.User]) (c := cw) 40 rfl rfl rfl ?_); intro p_ w_ c_ o1 s1
  refine WR.k rfl rfl rfl (OS.assign (v := vI (0 : Int)) rfl rfl ?_)
  refine WR.nil ?_
  refine WC.seq (WC.region ?_)
  refine WR.k rfl rfl rfl (OS.move (v := .pointer none) rfl rfl ?_)
  refine WR.k rfl rfl rfl (OS.ldN (us := [vS o.Tenant, vS o.User]) rfl Tryz.isAgg24 Tryz.sizeOf24 rfl o1.ldAll rfl ?_)
  refine WR.k rfl rfl rfl (OS.move (v := vS client) rfl rfl ?_)
  obtain ⟨r_, hr_, hp⟩ := bind_some hp
  refine WR.k rfl rfl rfl (OS.callF (vs := [.pointer none, .agg (E24.e o).toArray, vS client]) rfl ⟨rfl, rfl, rfl, trivial⟩ Tryz.call19 ((W19n0 K w_ (rcc [] c_) (rcc_lt c_ rfl) hr_).mono ?_))
  rintro _ w_1 ⟨d1, rfl, s2⟩
  refine ⟨_, rfl, ?_⟩
  obtain ⟨c_1, s3⟩ : ∃ c_1, St [] w_ c_ w_1 c_1 := ⟨_, s2.mg2 (sh := 10000) rfl⟩
  refine WR.k rfl rfl rfl (OS.move (v := .tuple #[.agg (E47.e r_.1).toArray, vI r_.2]) rfl rfl ?_)
  refine WR.k rfl rfl rfl (OS.extract (v := .agg (E47.e r_.1).toArray) rfl rfl rfl ?_)
  refine WR.k rfl rfl rfl (OS.extract (v := vI r_.2) rfl rfl rfl ?_)
  refine WR.k rfl rfl rfl (OS.allocBx (us := [vS ([] : List UInt8), vS ([] : List UInt8), vS ([] : List UInt8), vU8 (0 : UInt8)]) (c := c_1) 41 rfl Tryz.zeroValue47 rfl ?_); intro p_1 w_2 c_2 o2 s4
  refine WR.k0 rfl rfl (OS.stBxAll (v := .agg (E47.e r_.1).toArray) (ws := [vS r_.1.Owner.Tenant, vS r_.1.Owner.User, vS r_.1.Client, vU8 r_.1.Scopes]) rfl Tryz.sizeOf47 rfl rfl rfl o2 rfl rfl (one_of rfl) ?_); intro w_3 o3 s5
  refine WR.k rfl rfl rfl (OS.assign (v := vI r_.2) rfl rfl ?_)
  refine WR.nil ?_
  refine WC.seq ?_
  refine WC.seq (WC.region ?_)
  refine WR.k rfl rfl rfl (OS.move (v := vI r_.2) rfl rfl ?_)
  refine WR.k rfl rfl rfl (OS.bin (a := vI r_.2) (b := vI (0 : Int)) rfl rfl rfl bI_eql ?_)
  refine WR.nil ?_
  refine WC.endJ (fun f_ w_4 => grant_Store_Withdraw_nil0.j1 K r_ = some r ∧ f_ 8 = vI r_.2 ∧ w_3 = w_4) ?_ ?_
  · refine WC.cond (decide (r_.2 = (0 : Int))) rfl (fun hb => ?_) (fun hb => ?_)
    · rw [if_pos hb] at hp
      cases hp
    · rw [if_neg (nt hb)] at hp
      refine WC.skip ?_
      exact ⟨hp, rfl, rfl⟩
  · rintro f_ _ ⟨hp, h, rfl⟩
    unfold grant_Store_Withdraw_nil0.j1 at hp
    refine WC.seq (WC.region ?_)
    refine WR.k rfl rfl rfl (OS.move (v := vI r_.2) rfl h ?_)
    refine WR.k rfl rfl rfl (OS.assign (v := vI r_.2) rfl rfl ?_)
    refine WR.nil ?_
    refine WC.ret ?_
    repeat first | refine thenQ_ret ?_ | refine blkQ_ret ?_
    cases hp
    exact fnQ.l1 (fn := Tryz.f23) rfl (.inl ⟨_, rfl, rfl⟩) ⟨_, rfl, (((s1.t s3).t s4).t s5).leave hcw (by decide)⟩

-- (*holdfast/grant.Store).DropUser
set_option maxHeartbeats 4000000 in
theorem W24n0 (K : Nat) (w0 : World) (cw : Col) (hcw : ∀ b, cw b < 40) {o : S_api_Owner} {r : Int} (hp : grant_Store_DropUser_nil0 K o = some r) :
    Calls Tryz.prog 24 [.pointer none, .agg (E24.e o).toArray].toArray w0 fun e w1 => ∃ (d : Col), e = .returned (vI r) ∧ St [] w0 cw w1 d := by
  refine calls_intro Tryz.func24 rfl Tryz.ntmps24 rfl ?_
  unfold grant_Store_DropUser_nil0 at hp
  refine WC.seq (WC.region ?_)
  refine WR.k rfl rfl rfl (OS.boxBx (us := [vS o.Tenant, vS o.User]) (c := cw) 40 rfl rfl rfl ?_); intro p_ w_ c_ o1 s1
  refine WR.k rfl rfl rfl (OS.assign (v := vI (0 : Int)) rfl rfl ?_)
  refine WR.nil ?_
  refine WC.seq ?_
  refine WC.seq (WC.region ?_)
  refine WR.k rfl rfl rfl (OS.move (v := .pointer none) rfl rfl ?_)
  refine WR.k rfl rfl rfl (OS.eqPtr (a := none) rfl (.inl ⟨rfl, rfl⟩) Tryz.underlying28 rfl rfl ?_)
  refine WR.nil ?_
  refine WC.condT rfl ?_
  refine WC.seq (WC.region ?_)
  refine WR.k rfl rfl rfl (OS.assign (v := vI (0 : Int)) rfl rfl ?_)
  refine WR.nil ?_
  refine WC.ret ?_
  repeat first | refine thenQ_ret ?_ | refine blkQ_ret ?_
  cases hp
  exact fnQ.l1 (fn := Tryz.f24) rfl (.inl ⟨_, rfl, rfl⟩) ⟨_, rfl, s1.leave hcw (by decide)⟩

-- (*holdfast/grant.Store).May
set_option maxHeartbeats 4000000 in
theorem W25n0 (K : Nat) (w0 : World) (cw : Col) (hcw : ∀ b, cw b < 40) {o : S_api_Owner} {client : List UInt8} {redirect : List UInt8} {scopes : UInt8} {r : Int} (hp : grant_Store_May_nil0 K o client redirect scopes = some r) :
    Calls Tryz.prog 25 [.pointer none, .agg (E24.e o).toArray, vS client, vS redirect, vU8 scopes].toArray w0 fun e w1 => ∃ (d : Col), e = .returned (vI r) ∧ St [] w0 cw w1 d := by
  refine calls_intro Tryz.func25 rfl Tryz.ntmps25 rfl ?_
  unfold grant_Store_May_nil0 at hp
  refine WC.seq (WC.region ?_)
  refine WR.k rfl rfl rfl (OS.boxBx (us := [vS o.Tenant, vS o.User]) (c := cw) 40 rfl rfl rfl ?_); intro p_ w_ c_ o1 s1
  refine WR.k rfl rfl rfl (OS.assign (v := vI (0 : Int)) rfl rfl ?_)
  refine WR.nil ?_
  refine WC.seq (WC.region ?_)
  refine WR.k rfl rfl rfl (OS.move (v := .pointer none) rfl rfl ?_)
  refine WR.k rfl rfl rfl (OS.fieldAddrBx rfl Tryz.runUnderlying24 rfl Tryz.sizeOf9 rfl rfl o1 ?_); intro p_1 a1
  refine WR.k rfl rfl rfl (OS.ld1 (u := vS o.Tenant) rfl Tryz.isAgg9 rfl (o1.ldn a1 (sub_of rfl)) ?_)
  refine WR.k rfl rfl rfl (OS.move (v := vS client) rfl rfl ?_)
  obtain ⟨r_, hr_, hp⟩ := bind_some hp
  refine WR.k rfl rfl rfl (OS.callF (vs := [.pointer none, vS o.Tenant, vS client]) rfl ⟨rfl, rfl, rfl, trivial⟩ Tryz.call39 ((W39n0 K w_ (rcc [] c_) (rcc_lt c_ rfl) hr_).mono ?_))
  rintro _ w_1 ⟨d1, rfl, s2⟩
  refine ⟨_, rfl, ?_⟩
  obtain ⟨c_1, s3⟩ : ∃ c_1, St [] w_ c_ w_1 c_1 := ⟨_, s2.mg2 (sh := 10000) rfl⟩
  refine WR.k rfl rfl rfl (OS.move (v := .tuple #[.agg (E43.e r_.1).toArray, vI r_.2]) rfl rfl ?_)
  refine WR.k rfl rfl rfl (OS.extract (v := .agg (E43.e r_.1).toArray) rfl rfl rfl ?_)
  refine WR.k rfl rfl rfl (OS.extract (v := vI r_.2) rfl rfl rfl ?_)
  refine WR.k rfl rfl rfl (OS.allocBx (us := [vS ([] : List UInt8), vS ([] : List UInt8), vS ([] : List UInt8), vU8 (0 : UInt8)]) (c := c_1) 41 rfl Tryz.zeroValue43 rfl ?_); intro p_2 w_2 c_2 o2 s4
  refine WR.k0 rfl rfl (OS.stBxAll (v := .agg (E43.e r_.1).toArray) (ws := [vS r_.1.Tenant, vS r_.1.Name, vS r_.1.Redirect, vU8 r_.1.Scopes]) rfl Tryz.sizeOf43 rfl rfl rfl o2 rfl rfl (one_of rfl) ?_); intro w_3 o3 s5
  refine WR.k rfl rfl rfl (OS.assign (v := vI r_.2) rfl rfl ?_)
  refine WR.nil ?_
  refine WC.seq ?_
  refine WC.seq (WC.region ?_)
  refine WR.k rfl rfl rfl (OS.move (v := vI r_.2) rfl rfl ?_)
  refine WR.k rfl rfl rfl (OS.bin (a := vI r_.2) (b := vI (0 : Int)) rfl rfl rfl bI_neq ?_)
  refine WR.nil ?_
  refine WC.cond (!decide (r_.2 = (0 : Int))) rfl (fun hb => ?_) (fun hb => ?_)
  · rw [if_pos hb] at hp
    refine WC.seq (WC.region ?_)
    refine WR.k rfl rfl rfl (OS.move (v := vI r_.2) rfl rfl ?_)
    refine WR.k rfl rfl rfl (OS.assign (v := vI r_.2) rfl rfl ?_)
    refine WR.nil ?_
    refine WC.ret ?_
    repeat first | refine thenQ_ret ?_ | refine blkQ_ret ?_
    cases hp
    exact fnQ.l1 (fn := Tryz.f25) rfl (.inl ⟨_, rfl, rfl⟩) ⟨_, rfl, (((s1.t s3).t s4).t s5).leave hcw (by decide)⟩
  · rw [if_neg (nt hb)] at hp
    refine WC.skip ?_
    refine WC.seq (WC.region ?_)
    refine WR.k rfl rfl rfl (OS.move (v := .pointer none) rfl rfl ?_)
    have o4 := o1.keep ((s3.t s4).t s5) (by decide)
    refine WR.k rfl rfl rfl (OS.ldN (us := [vS o.Tenant, vS o.User]) rfl Tryz.isAgg24 Tryz.sizeOf24 rfl o4.ldAll rfl ?_)
    refine WR.k rfl rfl rfl (OS.move (v := vS client) rfl rfl ?_)
    obtain ⟨r_1, hr_1, hp⟩ := bind_some hp
    refine WR.k rfl rfl rfl (OS.callF (vs := [.pointer none, .agg (E24.e o).toArray, vS client]) rfl ⟨rfl, rfl, rfl, trivial⟩ Tryz.call19 ((W19n0 K w_3 (rcc [] c_2) (rcc_lt c_2 rfl) hr_1).mono ?_))
    rintro _ w_4 ⟨d2, rfl, s6⟩
    refine ⟨_, rfl, ?_⟩
    obtain ⟨c_3, s7⟩ : ∃ c_3, St [] w_3 c_2 w_4 c_3 := ⟨_, s6.mg2 (sh := 20000) rfl⟩
    refine WR.k rfl rfl rfl (OS.move (v := .tuple #[.agg (E47.e r_1.1).toArray, vI r_1.2]) rfl rfl ?_)
    refine WR.k rfl rfl rfl (OS.extract (v := .agg (E47.e r_1.1).toArray) rfl rfl rfl ?_)
    refine WR.k rfl rfl rfl (OS.extract (v := vI r_1.2) rfl rfl rfl ?_)
    refine WR.k rfl rfl rfl (OS.allocBx (us := [vS ([] : List UInt8), vS ([] : List UInt8), vS ([] : List UInt8), vU8 (0 : UInt8)]) (c := c_3) 42 rfl Tryz.zeroValue47 rfl ?_); intro p_3 w_5 c_4 o5 s8
    refine WR.k0 rfl rfl (OS.stBxAll (v := .agg (E47.e r_1.1).toArray) (ws := [vS r_1.1.Owner.Tenant, vS r_1.1.Owner.User, vS r_1.1.Client, vU8 r_1.1.Scopes]) rfl Tryz.sizeOf47 rfl rfl rfl o5 rfl rfl (one_of rfl) ?_); intro w_6 o6 s9
    refine WR.k rfl rfl rfl (OS.assign (v := vI r_1.2) rfl rfl ?_)
    refine WR.nil ?_
    refine WC.seq ?_
    refine WC.block ?_
    refine WC.seq (WC.region ?_)
    refine WR.k rfl rfl rfl (OS.move (v := vI r_1.2) rfl rfl ?_)
    refine WR.k rfl rfl rfl (OS.bin (a := vI r_1.2) (b := vI (0 : Int)) rfl rfl rfl bI_neq ?_)
    refine WR.k rfl rfl rfl (OS.assign (v := vB (!decide (r_1.2 = (0 : Int)))) rfl rfl ?_)
    refine WR.nil ?_
    refine WC.cond (!decide (r_1.2 = (0 : Int))) rfl (fun hb1 => ?_) (fun hb1 => ?_)
    · rw [if_pos hb1] at hp
      refine WC.seq (WC.region ?_)
      refine WR.k rfl rfl rfl (OS.move (v := vI r_1.2) rfl rfl ?_)
      refine WR.k rfl rfl rfl (OS.assign (v := vI r_1.2) rfl rfl ?_)
      refine WR.nil ?_
      refine WC.ret ?_
      repeat first | refine thenQ_ret ?_ | refine blkQ_ret ?_
      cases hp
      exact fnQ.l1 (fn := Tryz.f25) rfl (.inl ⟨_, rfl, rfl⟩) ⟨_, rfl, ((((((s1.t s3).t s4).t s5).t s7).t s8).t s9).leave hcw (by decide)⟩
    · rw [if_neg (nt hb1)] at hp
      refine WC.seq (WC.region ?_)
      have o7 := o3.keep ((s7.t s8).t s9) (by decide)
      refine WR.k rfl rfl rfl (OS.fieldAddrBx rfl Tryz.runUnderlying43 rfl Tryz.sizeOf9 rfl rfl o7 ?_); intro p_4 a2
      refine WR.k rfl rfl rfl (OS.ld1 (u := vS r_.1.Redirect) rfl Tryz.isAgg9 rfl (o7.ldn a2 (sub_of rfl)) ?_)
      refine WR.k rfl rfl rfl (OS.move (v := vS redirect) rfl rfl ?_)
      refine WR.k rfl rfl rfl (OS.bin (a := vS r_.1.Redirect) (b := vS redirect) rfl rfl rfl bS_neq ?_)
      refine WR.k rfl rfl rfl (OS.assign (v := vB (!decide (r_.1.Redirect = redirect))) rfl rfl ?_)
      refine WR.nil ?_
      refine WC.cond (!decide (r_.1.Redirect = redirect)) rfl (fun hb2 => ?_) (fun hb2 => ?_)
      · rw [if_pos hb2] at hp
        refine WC.seq (WC.region ?_)
        refine WR.k rfl rfl rfl (OS.assign (v := vI (10 : Int)) rfl rfl ?_)
        refine WR.nil ?_
        refine WC.ret ?_
        repeat first | refine thenQ_ret ?_ | refine blkQ_ret ?_
        cases hp
        exact fnQ.l1 (fn := Tryz.f25) rfl (.inl ⟨_, rfl, rfl⟩) ⟨_, rfl, ((((((s1.t s3).t s4).t s5).t s7).t s8).t s9).leave hcw (by decide)⟩
      · rw [if_neg (nt hb2)] at hp
        refine WC.seq (WC.region ?_)
        refine WR.k rfl rfl rfl (OS.move (v := vU8 scopes) rfl rfl ?_)
        refine WR.k rfl rfl rfl (OS.fieldAddrBx rfl Tryz.runUnderlying47 rfl Tryz.sizeOf25 rfl rfl o6 ?_); intro p_5 a3
        refine WR.k rfl rfl rfl (OS.ld1 (u := vU8 r_1.1.Scopes) rfl Tryz.isAgg25 rfl (o6.ldn a3 (sub_of rfl)) ?_)
        refine WR.k rfl rfl rfl (OS.bin (a := vU8 scopes) (b := vU8 r_1.1.Scopes) rfl rfl rfl b8_andNot ?_)
        refine WR.k rfl rfl rfl (OS.bin (a := vU8 (scopes &&& ~~~r_1.1.Scopes)) (b := vU8 (0 : UInt8)) rfl rfl (by kernel_rfl) b8_neq ?_)
        refine WR.k rfl rfl rfl (OS.assign (v := vB (!decide (scopes &&& ~~~r_1.1.Scopes = (0 : UInt8)))) rfl rfl ?_)
        refine WR.nil ?_
        refine WC.cond (!decide (scopes &&& ~~~r_1.1.Scopes = (0 : UInt8))) rfl (fun hb3 => ?_) (fun hb3 => ?_)
        · rw [if_pos hb3] at hp
          refine WC.seq (WC.region ?_)
          refine WR.k rfl rfl rfl (OS.assign (v := vI (14 : Int)) rfl rfl ?_)
          refine WR.nil ?_
          refine WC.ret ?_
          repeat first | refine thenQ_ret ?_ | refine blkQ_ret ?_
          cases hp
          exact fnQ.l1 (fn := Tryz.f25) rfl (.inl ⟨_, rfl, rfl⟩) ⟨_, rfl, ((((((s1.t s3).t s4).t s5).t s7).t s8).t s9).leave hcw (by decide)⟩
        · rw [if_neg (nt hb3)] at hp
          refine WC.skip ?_
          refine WC.seq (WC.region ?_)
          refine WR.k rfl rfl rfl (OS.assign (v := vI (0 : Int)) rfl rfl ?_)
          refine WR.nil ?_
          refine WC.ret ?_
          repeat first | refine thenQ_ret ?_ | refine blkQ_ret ?_
          cases hp
          exact fnQ.l1 (fn := Tryz.f25) rfl (.inl ⟨_, rfl, rfl⟩) ⟨_, rfl, ((((((s1.t s3).t s4).t s5).t s7).t s8).t s9).leave hcw (by decide)⟩

-- (*holdfast/grant.Store).Clients
set_option maxHeartbeats 4000000 in
theorem W26n0 (K : Nat) (w0 : World) (cw : Col) (hcw : ∀ b, cw b < 40) {tenant : List UInt8} {r : (List S_api_Client)} (hp : grant_Store_Clients_nil0 K tenant = some r) :
    Calls Tryz.prog 26 [.pointer none, vS tenant].toArray w0 fun e w1 => ∃ (sl : Sl) (d : Col), e = .returned (sl.val) ∧ St [] w0 cw w1 d ∧ Ow E43 2000 w1 d sl.val r := by
  refine calls_intro Tryz.func26 rfl Tryz.ntmps26 rfl ?_
  unfold grant_Store_Clients_nil0 at hp
  refine WC.seq (WC.region ?_)
  refine WR.k rfl rfl rfl (OS.assign (v := (.slice none 0 0)) rfl rfl ?_)
  refine WR.nil ?_
  refine WC.seq ?_
  refine WC.seq (WC.region ?_)
  refine WR.k rfl rfl rfl (OS.move (v := .pointer none) rfl rfl ?_)
  refine WR.k rfl rfl rfl (OS.eqPtr (a := none) rfl (.inl ⟨rfl, rfl⟩) Tryz.underlying28 rfl rfl ?_)
  refine WR.nil ?_
  refine WC.condT rfl ?_
  refine WC.seq (WC.region ?_)
  refine WR.k rfl rfl rfl (OS.assign (v := (.slice none 0 0)) rfl rfl ?_)
  refine WR.nil ?_
  refine WC.ret ?_
  repeat first | refine thenQ_ret ?_ | refine blkQ_ret ?_
  cases hp
  exact fnQ.l1 (fn := Tryz.f26) rfl (.inl ⟨_, rfl, rfl⟩) ⟨⟨none, 0, 0⟩, _, rfl, (St.refl.mono (by decide)), Ow.nil⟩

-- (*holdfast/grant.Store).Consents
set_option maxHeartbeats 4000000 in
theorem W27n0 (K : Nat) (w0 : World) (cw : Col) (hcw : ∀ b, cw b < 40) {o : S_api_Owner} {r : (List S_api_Consent)} (hp : grant_Store_Consents_nil0 K o = some r) :
    Calls Tryz.prog 27 [.pointer none, .agg (E24.e o).toArray].toArray w0 fun e w1 => ∃ (sl : Sl) (d : Col), e = .returned (sl.val) ∧ St [] w0 cw w1 d ∧ Ow E47 2000 w1 d sl.val r := by
  refine calls_intro Tryz.func27 rfl Tryz.ntmps27 rfl ?_
  unfold grant_Store_Consents_nil0 at hp
  refine WC.seq (WC.region ?_)
  refine WR.k rfl rfl rfl (OS.boxBx (us := [vS o.Tenant, vS o.User]) (c := cw) 40 rfl rfl rfl ?_); intro p_ w_ c_ o1 s1
  refine WR.k rfl rfl rfl (OS.assign (v := (.slice none 0 0)) rfl rfl ?_)
  refine WR.nil ?_
  refine WC.seq ?_
  refine WC.seq (WC.region ?_)
  refine WR.k rfl rfl rfl (OS.move (v := .pointer none) rfl rfl ?_)
  refine WR.k rfl rfl rfl (OS.eqPtr (a := none) rfl (.inl ⟨rfl, rfl⟩) Tryz.underlying28 rfl rfl ?_)
  refine WR.nil ?_
  refine WC.condT rfl ?_
  refine WC.seq (WC.region ?_)
  refine WR.k rfl rfl rfl (OS.assign (v := (.slice none 0 0)) rfl rfl ?_)
  refine WR.nil ?_
  refine WC.ret ?_
  repeat first | refine thenQ_ret ?_ | refine blkQ_ret ?_
  cases hp
  exact fnQ.l1 (fn := Tryz.f27) rfl (.inl ⟨_, rfl, rfl⟩) ⟨⟨none, 0, 0⟩, _, rfl, s1.leave hcw (by decide), Ow.nil⟩

-- (*holdfast/grant.Store).Rows
set_option maxHeartbeats 4000000 in
theorem W14n0 (K : Nat) (w0 : World) (cw : Col) (hcw : ∀ b, cw b < 40) {r : Unit} (hp : grant_Store_Rows_nil0 K = some r) :
    Calls Tryz.prog 14 [.pointer none].toArray w0 fun e w1 => ∃ (d : Col), e = .returned ((.slice none 0 0)) ∧ St [] w0 cw w1 d := by
  refine calls_intro Tryz.func14 rfl Tryz.ntmps14 rfl ?_
  unfold grant_Store_Rows_nil0 at hp
  refine WC.seq (WC.region ?_)
  refine WR.k rfl rfl rfl (OS.assign (v := (.slice none 0 0)) rfl rfl ?_)
  refine WR.nil ?_
  refine WC.seq ?_
  refine WC.seq (WC.region ?_)
  refine WR.k rfl rfl rfl (OS.move (v := .pointer none) rfl rfl ?_)
  refine WR.k rfl rfl rfl (OS.eqPtr (a := none) rfl (.inl ⟨rfl, rfl⟩) Tryz.underlying28 rfl rfl ?_)
  refine WR.nil ?_
  refine WC.condT rfl ?_
  refine WC.seq (WC.region ?_)
  refine WR.k rfl rfl rfl (OS.assign (v := (.slice none 0 0)) rfl rfl ?_)
  refine WR.nil ?_
  refine WC.ret ?_
  repeat first | refine thenQ_ret ?_ | refine blkQ_ret ?_
  cases hp
  exact fnQ.l1 (fn := Tryz.f14) rfl (.inl ⟨_, rfl, rfl⟩) ⟨_, rfl, (St.refl.mono (by decide))⟩

-- (*holdfast/grant.Store).Fork
set_option maxHeartbeats 4000000 in
theorem W11n0 (K : Nat) (w0 : World) (cw : Col) (hcw : ∀ b, cw b < 40) {r : Unit} (hp : grant_Store_Fork_nil0 K = some r) :
    Calls Tryz.prog 11 [.pointer none].toArray w0 fun e w1 => ∃ (d : Col), e = .returned (.pointer none) ∧ St [] w0 cw w1 d := by
  refine calls_intro Tryz.func11 rfl Tryz.ntmps11 rfl ?_
  unfold grant_Store_Fork_nil0 at hp
  refine WC.seq (WC.region ?_)
  refine WR.k rfl rfl rfl (OS.assign (v := .pointer none) rfl rfl ?_)
  refine WR.nil ?_
  refine WC.seq ?_
  refine WC.seq (WC.region ?_)
  refine WR.k rfl rfl rfl (OS.move (v := .pointer none) rfl rfl ?_)
  refine WR.k rfl rfl rfl (OS.eqPtr (a := none) rfl (.inl ⟨rfl, rfl⟩) Tryz.underlying28 rfl rfl ?_)
  refine WR.nil ?_
  refine WC.condT rfl ?_
  refine WC.seq (WC.region ?_)
  refine WR.k rfl rfl rfl (OS.assign (v := .pointer none) rfl rfl ?_)
  refine WR.nil ?_
  refine WC.ret ?_
  repeat first | refine thenQ_ret ?_ | refine blkQ_ret ?_
  cases hp
  exact fnQ.l1 (fn := Tryz.f11) rfl (.inl ⟨_, rfl, rfl⟩) ⟨_, rfl, (St.refl.mono (by decide))⟩

-- holdfast/holdfastlaw13.GrantNone
set_option maxHeartbeats 4000000 in
theorem W5 (K : Nat) (w0 : World) (cw : Col) (hcw : ∀ b, cw b < 40) {o : S_api_Owner} {c_ : List UInt8} {r : Bool} (hp : holdfastlaw13_GrantNone K o c_ = some r) :
    Calls Tryz.prog 5 [.agg (E24.e o).toArray, vS c_].toArray w0 fun e w1 => ∃ (d : Col), e = .returned (vB r) ∧ St [] w0 cw w1 d := by
  refine calls_intro Tryz.func5 rfl Tryz.ntmps5 rfl ?_
  unfold holdfastlaw13_GrantNone at hp
  refine WC.seq (WC.region ?_)
  refine WR.k rfl rfl rfl (OS.boxBx (us := [vS o.Tenant, vS o.User]) (c := cw) 40 rfl rfl rfl ?_); intro p_ w_ c_1 o1 s
  refine WR.k rfl rfl rfl (OS.assign (v := vB false) rfl rfl ?_)
  refine WR.nil ?_
  refine WC.seq (WC.region ?_)
  refine WR.k rfl rfl rfl (OS.assign (v := .pointer none) rfl rfl ?_)
  refine WR.nil ?_
  refine WC.seq (WC.region ?_)
  refine WR.k rfl rfl rfl (OS.move (v := .pointer none) rfl rfl ?_)
  refine WR.k rfl rfl rfl (OS.move (v := vS c_) rfl rfl ?_)
  refine WR.k rfl rfl rfl (OS.move (v := vS c_) rfl rfl ?_)
  obtain ⟨r_, hr_, hp⟩ := bind_some hp
  refine WR.k rfl rfl rfl (OS.callF (vs := [.pointer none, vS c_, vS c_, vU8 (1 : UInt8)]) rfl ⟨rfl, rfl, rfl, (by kernel_rfl), trivial⟩ Tryz.call12 ((W12n0 K w_ (rcc [] c_1) (rcc_lt c_1 rfl) hr_).mono ?_))
  rintro _ w_1 ⟨d1, rfl, s1⟩
  refine ⟨_, rfl, ?_⟩
  obtain ⟨c_2, s2⟩ : ∃ c_2, St [] w_ c_1 w_1 c_2 := ⟨_, s1.mg2 (sh := 10000) rfl⟩
  refine WR.k rfl rfl rfl (OS.move (v := .tuple #[vU8 r_.1, vI r_.2]) rfl rfl ?_)
  refine WR.k rfl rfl rfl (OS.extract (v := vU8 r_.1) rfl rfl rfl ?_)
  refine WR.k rfl rfl rfl (OS.extract (v := vI r_.2) rfl rfl rfl ?_)
  refine WR.k rfl rfl rfl (OS.assign (v := vU8 r_.1) rfl rfl ?_)
  refine WR.k rfl rfl rfl (OS.assign (v := vI r_.2) rfl rfl ?_)
  refine WR.nil ?_
  refine WC.seq (WC.region ?_)
  refine WR.k rfl rfl rfl (OS.move (v := .pointer none) rfl rfl ?_)
  refine WR.k rfl rfl rfl (OS.move (v := vS c_) rfl rfl ?_)
  refine WR.k rfl rfl rfl (OS.move (v := vS c_) rfl rfl ?_)
  obtain ⟨r_1, hr_1, hp⟩ := bind_some hp
  refine WR.k rfl rfl rfl (OS.callF (vs := [.pointer none, vS c_, vS c_]) rfl ⟨rfl, rfl, rfl, trivial⟩ Tryz.call18 ((W18n0 K w_1 (rcc [] c_2) (rcc_lt c_2 rfl) hr_1).mono ?_))
  rintro _ w_2 ⟨d2, rfl, s3⟩
  refine ⟨_, rfl, ?_⟩
  obtain ⟨c_3, s4⟩ : ∃ c_3, St [] w_1 c_2 w_2 c_3 := ⟨_, s3.mg2 (sh := 20000) rfl⟩
  refine WR.k rfl rfl rfl (OS.move (v := .tuple #[.agg (E43.e r_1.1).toArray, vI r_1.2]) rfl rfl ?_)
  refine WR.k rfl rfl rfl (OS.extract (v := .agg (E43.e r_1.1).toArray) rfl rfl rfl ?_)
  refine WR.k rfl rfl rfl (OS.extract (v := vI r_1.2) rfl rfl rfl ?_)
  refine WR.k rfl rfl rfl (OS.allocBx (us := [vS ([] : List UInt8), vS ([] : List UInt8), vS ([] : List UInt8), vU8 (0 : UInt8)]) (c := c_3) 41 rfl Tryz.zeroValue43 rfl ?_); intro p_1 w_3 c_4 o2 s5
  refine WR.k0 rfl rfl (OS.stBxAll (v := .agg (E43.e r_1.1).toArray) (ws := [vS r_1.1.Tenant, vS r_1.1.Name, vS r_1.1.Redirect, vU8 r_1.1.Scopes]) rfl Tryz.sizeOf43 rfl rfl rfl o2 rfl rfl (one_of rfl) ?_); intro w_4 o3 s6
  refine WR.k rfl rfl rfl (OS.assign (v := vI r_1.2) rfl rfl ?_)
  refine WR.nil ?_
  refine WC.seq (WC.region ?_)
  refine WR.k rfl rfl rfl (OS.move (v := .pointer none) rfl rfl ?_)
  have o4 := o1.keep (((s2.t s4).t s5).t s6) (by decide)
  refine WR.k rfl rfl rfl (OS.ldN (us := [vS o.Tenant, vS o.User]) rfl Tryz.isAgg24 Tryz.sizeOf24 rfl o4.ldAll rfl ?_)
  refine WR.k rfl rfl rfl (OS.move (v := vS c_) rfl rfl ?_)
  obtain ⟨r_2, hr_2, hp⟩ := bind_some hp
  refine WR.k rfl rfl rfl (OS.callF (vs := [.pointer none, .agg (E24.e o).toArray, vS c_]) rfl ⟨rfl, rfl, rfl, trivial⟩ Tryz.call19 ((W19n0 K w_4 (rcc [] c_4) (rcc_lt c_4 rfl) hr_2).mono ?_))
  rintro _ w_5 ⟨d3, rfl, s7⟩
  refine ⟨_, rfl, ?_⟩
  obtain ⟨c_5, s8⟩ : ∃ c_5, St [] w_4 c_4 w_5 c_5 := ⟨_, s7.mg2 (sh := 30000) rfl⟩
  refine WR.k rfl rfl rfl (OS.move (v := .tuple #[.agg (E47.e r_2.1).toArray, vI r_2.2]) rfl rfl ?_)
  refine WR.k rfl rfl rfl (OS.extract (v := .agg (E47.e r_2.1).toArray) rfl rfl rfl ?_)
  refine WR.k rfl rfl rfl (OS.extract (v := vI r_2.2) rfl rfl rfl ?_)
  refine WR.k rfl rfl rfl (OS.allocBx (us := [vS ([] : List UInt8), vS ([] : List UInt8), vS ([] : List UInt8), vU8 (0 : UInt8)]) (c := c_5) 42 rfl Tryz.zeroValue47 rfl ?_); intro p_2 w_6 c_6 o5 s9
  refine WR.k0 rfl rfl (OS.stBxAll (v := .agg (E47.e r_2.1).toArray) (ws := [vS r_2.1.Owner.Tenant, vS r_2.1.Owner.User, vS r_2.1.Client, vU8 r_2.1.Scopes]) rfl Tryz.sizeOf47 rfl rfl rfl o5 rfl rfl (one_of rfl) ?_); intro w_7 o6 s10
  refine WR.k rfl rfl rfl (OS.assign (v := vI r_2.2) rfl rfl ?_)
  refine WR.nil ?_
  refine WC.seq (WC.region ?_)
  obtain ⟨r_3, hr_3, hp⟩ := bind_some hp
  refine WR.k rfl rfl rfl (OS.callF (vs := []) rfl trivial Tryz.call9 ((W9 K w_7 (rcc [] c_6) (rcc_lt c_6 rfl) hr_3).mono ?_))
  rintro _ w_8 ⟨d4, rfl, s11⟩
  refine ⟨_, rfl, ?_⟩
  obtain ⟨c_7, s12⟩ : ∃ c_7, St [] w_7 c_6 w_8 c_7 := ⟨_, s11.mg2 (sh := 40000) rfl⟩
  refine WR.k rfl rfl rfl (OS.move (v := vB r_3) rfl rfl ?_)
  refine WR.cut2 3 (fun f_ w_9 => f_ 1 = vS c_ ∧ f_ 2 = p_ ∧ f_ 5 = .pointer none ∧ f_ 9 = vI r_1.2 ∧ f_ 11 = vI r_2.2 ∧ f_ 37 = vB (r_3 && (decide (r_.2 = (1 : Int)))) ∧ w_8 = w_9) ?_ ?_
  · rcases Bool.eq_false_or_eq_true (r_3) with hg | hg
    · refine WR.kT rfl rfl (vb_t rfl hg) rfl rfl (OS.move (v := vI r_.2) rfl rfl ?_)
      refine WR.kT rfl rfl (vb_t rfl hg) rfl rfl (OS.bin (a := vI r_.2) (b := vI (1 : Int)) rfl rfl rfl bI_eql ?_)
      refine WR.k rfl rfl rfl (OS.pickT rfl (vb_t rfl hg) rfl ?_)
      refine WR.nil ?_
      exact ⟨rfl, rfl, rfl, rfl, rfl, (and_t hg), rfl⟩
    · refine WR.gF rfl rfl (vb_f rfl hg) rfl rfl ?_
      refine WR.gF rfl rfl (vb_f rfl hg) rfl rfl ?_
      refine WR.k rfl rfl rfl (OS.pickF rfl (vb_f rfl hg) rfl ?_)
      refine WR.nil ?_
      exact ⟨rfl, rfl, rfl, rfl, rfl, (and_f hg), rfl⟩
  · rintro f_ _ ⟨h, h1, h2, h3, h4, h5, rfl⟩
    refine WR.k rfl rfl rfl (OS.move (v := vB (r_3 && (decide (r_.2 = (1 : Int))))) rfl h5 ?_)
    refine WR.cut2 3 (fun f_1 w_10 => f_1 1 = vS c_ ∧ f_1 2 = p_ ∧ f_1 5 = .pointer none ∧ f_1 11 = vI r_2.2 ∧ f_1 41 = vB ((r_3 && (decide (r_.2 = (1 : Int)))) && (decide (r_1.2 = (1 : Int)))) ∧ w_8 = w_10) ?_ ?_
    · rcases Bool.eq_false_or_eq_true (r_3 && (decide (r_.2 = (1 : Int)))) with hg1 | hg1
      · refine WR.kT rfl rfl (vb_t rfl hg1) rfl rfl (OS.move (v := vI r_1.2) rfl h3 ?_)
        refine WR.kT rfl rfl (vb_t rfl hg1) rfl rfl (OS.bin (a := vI r_1.2) (b := vI (1 : Int)) rfl rfl rfl bI_eql ?_)
        refine WR.k rfl rfl rfl (OS.pickT rfl (vb_t rfl hg1) rfl ?_)
        refine WR.nil ?_
        exact ⟨h, h1, h2, h4, (and_t hg1), rfl⟩
      · refine WR.gF rfl rfl (vb_f rfl hg1) rfl rfl ?_
        refine WR.gF rfl rfl (vb_f rfl hg1) rfl rfl ?_
        refine WR.k rfl rfl rfl (OS.pickF rfl (vb_f rfl hg1) rfl ?_)
        refine WR.nil ?_
        exact ⟨h, h1, h2, h4, (and_f hg1), rfl⟩
    · rintro f_1 _ ⟨h6, h7, h8, h9, h10, rfl⟩
      refine WR.k rfl rfl rfl (OS.move (v := vB ((r_3 && (decide (r_.2 = (1 : Int)))) && (decide (r_1.2 = (1 : Int))))) rfl h10 ?_)
      refine WR.cut2 3 (fun f_2 w_11 => f_2 1 = vS c_ ∧ f_2 2 = p_ ∧ f_2 5 = .pointer none ∧ f_2 45 = vB (((r_3 && (decide (r_.2 = (1 : Int)))) && (decide (r_1.2 = (1 : Int)))) && (decide (r_2.2 = (1 : Int)))) ∧ w_8 = w_11) ?_ ?_
      · rcases Bool.eq_false_or_eq_true ((r_3 && (decide (r_.2 = (1 : Int)))) && (decide (r_1.2 = (1 : Int)))) with hg2 | hg2
        · refine WR.kT rfl rfl (vb_t rfl hg2) rfl rfl (OS.move (v := vI r_2.2) rfl h9 ?_)
          refine WR.kT rfl rfl (vb_t rfl hg2) rfl rfl (OS.bin (a := vI r_2.2) (b := vI (1 : Int)) rfl rfl rfl bI_eql ?_)
          refine WR.k rfl rfl rfl (OS.pickT rfl (vb_t rfl hg2) rfl ?_)
          refine WR.nil ?_
          exact ⟨h6, h7, h8, (and_t hg2), rfl⟩
        · refine WR.gF rfl rfl (vb_f rfl hg2) rfl rfl ?_
          refine WR.gF rfl rfl (vb_f rfl hg2) rfl rfl ?_
          refine WR.k rfl rfl rfl (OS.pickF rfl (vb_f rfl hg2) rfl ?_)
          refine WR.nil ?_
          exact ⟨h6, h7, h8, (and_f hg2), rfl⟩
      · rintro f_2 _ ⟨h11, h12, h13, h14, rfl⟩
        refine WR.k rfl rfl rfl (OS.move (v := vB (((r_3 && (decide (r_.2 = (1 : Int)))) && (decide (r_1.2 = (1 : Int)))) && (decide (r_2.2 = (1 : Int))))) rfl h14 ?_)
        obtain ⟨b, ht, hp⟩ := bind_some hp
        refine WR.cut2 5 (fun f_3 w_12 => ∃ (c_11 : Col), f_3 1 = vS c_ ∧ f_3 2 = p_ ∧ f_3 5 = .pointer none ∧ f_3 51 = vB b ∧ St [] w_8 c_7 w_12 c_11) ?_ ?_
        · rcases Bool.eq_false_or_eq_true (((r_3 && (decide (r_.2 = (1 : Int)))) && (decide (r_1.2 = (1 : Int)))) && (decide (r_2.2 = (1 : Int)))) with hg3 | hg3
          · rw [if_pos hg3] at ht
            refine WR.kT rfl rfl (vb_t rfl hg3) rfl rfl (OS.move (v := .pointer none) rfl h13 ?_)
            refine WR.kT rfl rfl (vb_t rfl hg3) rfl rfl (OS.build (v := .agg (E43.e (⟨([] : List UInt8), ([] : List UInt8), ([] : List UInt8), (0 : UInt8)⟩ : S_api_Client)).toArray) [] rfl trivial (fun _ => by kernel_rfl) ?_)
            obtain ⟨r_4, hr_4, ht⟩ := bind_some ht
            refine WR.kT rfl rfl (vb_t rfl hg3) rfl rfl (OS.callF (vs := [.pointer none, .agg (E43.e (⟨([] : List UInt8), ([] : List UInt8), ([] : List UInt8), (0 : UInt8)⟩ : S_api_Client)).toArray]) rfl ⟨rfl, rfl, trivial⟩ Tryz.call20 ((W20n0 K w_8 (rcc [] c_7) (rcc_lt c_7 rfl) hr_4).mono ?_))
            rintro _ w_13 ⟨d5, rfl, s13⟩
            refine ⟨_, rfl, ?_⟩
            obtain ⟨c_12, s14⟩ : ∃ c_12, St [] w_8 c_7 w_13 c_12 := ⟨_, s13.mg2 (sh := 60000) rfl⟩
            refine WR.kT rfl rfl (vb_t rfl hg3) rfl rfl (OS.bin (a := vI r_4) (b := vI (1 : Int)) rfl rfl rfl bI_eql ?_)
            refine WR.k rfl rfl rfl (OS.pickT rfl (vb_t rfl hg3) rfl ?_)
            cases ht
            refine WR.nil ?_
            exact ⟨_, h11, h12, h13, rfl, s14.mono (by decide)⟩
          · rw [if_neg (nt hg3)] at ht
            refine WR.gF rfl rfl (vb_f rfl hg3) rfl rfl ?_
            refine WR.gF rfl rfl (vb_f rfl hg3) rfl rfl ?_
            refine WR.gF rfl rfl (vb_f rfl hg3) rfl rfl ?_
            refine WR.gF rfl rfl (vb_f rfl hg3) rfl rfl ?_
            refine WR.k rfl rfl rfl (OS.pickF rfl (vb_f rfl hg3) rfl ?_)
            cases ht
            refine WR.nil ?_
            exact ⟨_, h11, h12, h13, rfl, St.refl.mono (by decide)⟩
        · rintro f_3 w_12 ⟨c_11, h15, h16, h17, h18, s15⟩
          refine WR.k rfl rfl rfl (OS.move (v := vB b) rfl h18 ?_)
          obtain ⟨b1, ht1, hp⟩ := bind_some hp
          refine WR.cut2 6 (fun f_4 w_14 => ∃ (c_13 : Col), f_4 1 = vS c_ ∧ f_4 2 = p_ ∧ f_4 5 = .pointer none ∧ f_4 58 = vB b1 ∧ St [] w_12 c_11 w_14 c_13) ?_ ?_
          · rcases Bool.eq_false_or_eq_true (b) with hg4 | hg4
            · rw [if_pos hg4] at ht1
              refine WR.kT rfl rfl (vb_t rfl hg4) rfl rfl (OS.move (v := .pointer none) rfl h17 ?_)
              refine WR.kT rfl rfl (vb_t rfl hg4) rfl rfl (OS.move (v := vS c_) rfl h15 ?_)
              refine WR.kT rfl rfl (vb_t rfl hg4) rfl rfl (OS.move (v := vS c_) rfl h15 ?_)
              obtain ⟨r_5, hr_5, ht1⟩ := bind_some ht1
              refine WR.kT rfl rfl (vb_t rfl hg4) rfl rfl (OS.callF (vs := [.pointer none, vS c_, vS c_]) rfl ⟨rfl, rfl, rfl, trivial⟩ Tryz.call21 ((W21n0 K w_12 (rcc [] c_11) (rcc_lt c_11 rfl) hr_5).mono ?_))
              rintro _ w_15 ⟨d6, rfl, s16⟩
              refine ⟨_, rfl, ?_⟩
              obtain ⟨c_14, s17⟩ : ∃ c_14, St [] w_12 c_11 w_15 c_14 := ⟨_, s16.mg2 (sh := 80000) rfl⟩
              refine WR.kT rfl rfl (vb_t rfl hg4) rfl rfl (OS.bin (a := vI r_5) (b := vI (1 : Int)) rfl rfl rfl bI_eql ?_)
              refine WR.k rfl rfl rfl (OS.pickT rfl (vb_t rfl hg4) rfl ?_)
              cases ht1
              refine WR.nil ?_
              exact ⟨_, h15, h16, h17, rfl, s17.mono (by decide)⟩
            · rw [if_neg (nt hg4)] at ht1
              refine WR.gF rfl rfl (vb_f rfl hg4) rfl rfl ?_
              refine WR.gF rfl rfl (vb_f rfl hg4) rfl rfl ?_
              refine WR.gF rfl rfl (vb_f rfl hg4) rfl rfl ?_
              refine WR.gF rfl rfl (vb_f rfl hg4) rfl rfl ?_
              refine WR.gF rfl rfl (vb_f rfl hg4) rfl rfl ?_
              refine WR.k rfl rfl rfl (OS.pickF rfl (vb_f rfl hg4) rfl ?_)
              cases ht1
              refine WR.nil ?_
              exact ⟨_, h15, h16, h17, rfl, St.refl.mono (by decide)⟩
          · rintro f_4 w_14 ⟨c_13, h19, h20, h21, h22, s18⟩
            refine WR.k rfl rfl rfl (OS.move (v := vB b1) rfl h22 ?_)
            obtain ⟨b2, ht2, hp⟩ := bind_some hp
            refine WR.cut2 5 (fun f_5 w_16 => ∃ (c_15 : Col), f_5 1 = vS c_ ∧ f_5 2 = p_ ∧ f_5 5 = .pointer none ∧ f_5 64 = vB b2 ∧ St [] w_14 c_13 w_16 c_15) ?_ ?_
            · rcases Bool.eq_false_or_eq_true (b1) with hg5 | hg5
              · rw [if_pos hg5] at ht2
                refine WR.kT rfl rfl (vb_t rfl hg5) rfl rfl (OS.move (v := .pointer none) rfl h21 ?_)
                refine WR.kT rfl rfl (vb_t rfl hg5) rfl rfl (OS.build (v := .agg (E47.e (⟨(⟨([] : List UInt8), ([] : List UInt8)⟩ : S_api_Owner), ([] : List UInt8), (0 : UInt8)⟩ : S_api_Consent)).toArray) [] rfl trivial (fun _ => by kernel_rfl) ?_)
                obtain ⟨r_6, hr_6, ht2⟩ := bind_some ht2
                refine WR.kT rfl rfl (vb_t rfl hg5) rfl rfl (OS.callF (vs := [.pointer none, .agg (E47.e (⟨(⟨([] : List UInt8), ([] : List UInt8)⟩ : S_api_Owner), ([] : List UInt8), (0 : UInt8)⟩ : S_api_Consent)).toArray]) rfl ⟨rfl, rfl, trivial⟩ Tryz.call22 ((W22n0 K w_14 (rcc [] c_13) (rcc_lt c_13 rfl) hr_6).mono ?_))
                rintro _ w_17 ⟨d7, rfl, s19⟩
                refine ⟨_, rfl, ?_⟩
                obtain ⟨c_16, s20⟩ : ∃ c_16, St [] w_14 c_13 w_17 c_16 := ⟨_, s19.mg2 (sh := 100000) rfl⟩
                refine WR.kT rfl rfl (vb_t rfl hg5) rfl rfl (OS.bin (a := vI r_6) (b := vI (1 : Int)) rfl rfl rfl bI_eql ?_)
                refine WR.k rfl rfl rfl (OS.pickT rfl (vb_t rfl hg5) rfl ?_)
                cases ht2
                refine WR.nil ?_
                exact ⟨_, h19, h20, h21, rfl, s20.mono (by decide)⟩
              · rw [if_neg (nt hg5)] at ht2
                refine WR.gF rfl rfl (vb_f rfl hg5) rfl rfl ?_
                refine WR.gF rfl rfl (vb_f rfl hg5) rfl rfl ?_
                refine WR.gF rfl rfl (vb_f rfl hg5) rfl rfl ?_
                refine WR.gF rfl rfl (vb_f rfl hg5) rfl rfl ?_
                refine WR.k rfl rfl rfl (OS.pickF rfl (vb_f rfl hg5) rfl ?_)
                cases ht2
                refine WR.nil ?_
                exact ⟨_, h19, h20, h21, rfl, St.refl.mono (by decide)⟩
            · rintro f_5 w_16 ⟨c_15, h23, h24, h25, h26, s21⟩
              refine WR.k rfl rfl rfl (OS.move (v := vB b2) rfl h26 ?_)
              obtain ⟨b3, ht3, hp⟩ := bind_some hp
              refine WR.cut2 6 (fun f_6 w_18 => ∃ (c_17 : Col), f_6 1 = vS c_ ∧ f_6 2 = p_ ∧ f_6 5 = .pointer none ∧ f_6 71 = vB b3 ∧ St [] w_16 c_15 w_18 c_17) ?_ ?_
              · rcases Bool.eq_false_or_eq_true (b2) with hg6 | hg6
                · rw [if_pos hg6] at ht3
                  refine WR.kT rfl rfl (vb_t rfl hg6) rfl rfl (OS.move (v := .pointer none) rfl h25 ?_)
                  have o7 := o4.keep ((((((s8.t s9).t s10).t s12).t s15).t s18).t s21) (by decide)
                  refine WR.kT rfl rfl (vb_t rfl hg6) rfl rfl (OS.ldN (us := [vS o.Tenant, vS o.User]) rfl Tryz.isAgg24 Tryz.sizeOf24 h24 o7.ldAll rfl ?_)
                  refine WR.kT rfl rfl (vb_t rfl hg6) rfl rfl (OS.move (v := vS c_) rfl h23 ?_)
                  obtain ⟨r_7, hr_7, ht3⟩ := bind_some ht3
                  refine WR.kT rfl rfl (vb_t rfl hg6) rfl rfl (OS.callF (vs := [.pointer none, .agg (E24.e o).toArray, vS c_]) rfl ⟨rfl, rfl, rfl, trivial⟩ Tryz.call23 ((W23n0 K w_16 (rcc [] c_15) (rcc_lt c_15 rfl) hr_7).mono ?_))
                  rintro _ w_19 ⟨d8, rfl, s22⟩
                  refine ⟨_, rfl, ?_⟩
                  obtain ⟨c_18, s23⟩ : ∃ c_18, St [] w_16 c_15 w_19 c_18 := ⟨_, s22.mg2 (sh := 120000) rfl⟩
                  refine WR.kT rfl rfl (vb_t rfl hg6) rfl rfl (OS.bin (a := vI r_7) (b := vI (1 : Int)) rfl rfl rfl bI_eql ?_)
                  refine WR.k rfl rfl rfl (OS.pickT rfl (vb_t rfl hg6) rfl ?_)
                  cases ht3
                  refine WR.nil ?_
                  exact ⟨_, h23, h24, h25, rfl, s23.mono (by decide)⟩
                · rw [if_neg (nt hg6)] at ht3
                  refine WR.gF rfl rfl (vb_f rfl hg6) rfl rfl ?_
                  refine WR.gF rfl rfl (vb_f rfl hg6) rfl rfl ?_
                  refine WR.gF rfl rfl (vb_f rfl hg6) rfl rfl ?_
                  refine WR.gF rfl rfl (vb_f rfl hg6) rfl rfl ?_
                  refine WR.gF rfl rfl (vb_f rfl hg6) rfl rfl ?_
                  refine WR.k rfl rfl rfl (OS.pickF rfl (vb_f rfl hg6) rfl ?_)
                  cases ht3
                  refine WR.nil ?_
                  exact ⟨_, h23, h24, h25, rfl, St.refl.mono (by decide)⟩
              · rintro f_6 w_18 ⟨c_17, h27, h28, h29, h30, s24⟩
                refine WR.k rfl rfl rfl (OS.move (v := vB b3) rfl h30 ?_)
                obtain ⟨b4, ht4, hp⟩ := bind_some hp
                refine WR.cut2 5 (fun f_7 w_20 => ∃ (c_19 : Col), f_7 1 = vS c_ ∧ f_7 2 = p_ ∧ f_7 5 = .pointer none ∧ f_7 77 = vB b4 ∧ St [] w_18 c_17 w_20 c_19) ?_ ?_
                · rcases Bool.eq_false_or_eq_true (b3) with hg7 | hg7
                  · rw [if_pos hg7] at ht4
                    refine WR.kT rfl rfl (vb_t rfl hg7) rfl rfl (OS.move (v := .pointer none) rfl h29 ?_)
                    have o8 := o4.keep (((((((s8.t s9).t s10).t s12).t s15).t s18).t s21).t s24) (by decide)
                    refine WR.kT rfl rfl (vb_t rfl hg7) rfl rfl (OS.ldN (us := [vS o.Tenant, vS o.User]) rfl Tryz.isAgg24 Tryz.sizeOf24 h28 o8.ldAll rfl ?_)
                    obtain ⟨r_8, hr_8, ht4⟩ := bind_some ht4
                    refine WR.kT rfl rfl (vb_t rfl hg7) rfl rfl (OS.callF (vs := [.pointer none, .agg (E24.e o).toArray]) rfl ⟨rfl, rfl, trivial⟩ Tryz.call24 ((W24n0 K w_18 (rcc [] c_17) (rcc_lt c_17 rfl) hr_8).mono ?_))
                    rintro _ w_21 ⟨d9, rfl, s25⟩
                    refine ⟨_, rfl, ?_⟩
                    obtain ⟨c_20, s26⟩ : ∃ c_20, St [] w_18 c_17 w_21 c_20 := ⟨_, s25.mg2 (sh := 140000) rfl⟩
                    refine WR.kT rfl rfl (vb_t rfl hg7) rfl rfl (OS.bin (a := vI r_8) (b := vI (0 : Int)) rfl rfl rfl bI_eql ?_)
                    refine WR.k rfl rfl rfl (OS.pickT rfl (vb_t rfl hg7) rfl ?_)
                    cases ht4
                    refine WR.nil ?_
                    exact ⟨_, h27, h28, h29, rfl, s26.mono (by decide)⟩
                  · rw [if_neg (nt hg7)] at ht4
                    refine WR.gF rfl rfl (vb_f rfl hg7) rfl rfl ?_
                    refine WR.gF rfl rfl (vb_f rfl hg7) rfl rfl ?_
                    refine WR.gF rfl rfl (vb_f rfl hg7) rfl rfl ?_
                    refine WR.gF rfl rfl (vb_f rfl hg7) rfl rfl ?_
                    refine WR.k rfl rfl rfl (OS.pickF rfl (vb_f rfl hg7) rfl ?_)
                    cases ht4
                    refine WR.nil ?_
                    exact ⟨_, h27, h28, h29, rfl, St.refl.mono (by decide)⟩
                · rintro f_7 w_20 ⟨c_19, h31, h32, h33, h34, s27⟩
                  refine WR.k rfl rfl rfl (OS.move (v := vB b4) rfl h34 ?_)
                  obtain ⟨b5, ht5, hp⟩ := bind_some hp
                  refine WR.cut2 7 (fun f_8 w_22 => ∃ (c_21 : Col), f_8 1 = vS c_ ∧ f_8 2 = p_ ∧ f_8 5 = .pointer none ∧ f_8 85 = vB b5 ∧ St [] w_20 c_19 w_22 c_21) ?_ ?_
                  · rcases Bool.eq_false_or_eq_true (b4) with hg8 | hg8
                    · rw [if_pos hg8] at ht5
                      refine WR.kT rfl rfl (vb_t rfl hg8) rfl rfl (OS.move (v := .pointer none) rfl h33 ?_)
                      have o9 := o4.keep ((((((((s8.t s9).t s10).t s12).t s15).t s18).t s21).t s24).t s27) (by decide)
                      refine WR.kT rfl rfl (vb_t rfl hg8) rfl rfl (OS.ldN (us := [vS o.Tenant, vS o.User]) rfl Tryz.isAgg24 Tryz.sizeOf24 h32 o9.ldAll rfl ?_)
                      refine WR.kT rfl rfl (vb_t rfl hg8) rfl rfl (OS.move (v := vS c_) rfl h31 ?_)
                      refine WR.kT rfl rfl (vb_t rfl hg8) rfl rfl (OS.move (v := vS c_) rfl h31 ?_)
                      obtain ⟨r_9, hr_9, ht5⟩ := bind_some ht5
                      refine WR.kT rfl rfl (vb_t rfl hg8) rfl rfl (OS.callF (vs := [.pointer none, .agg (E24.e o).toArray, vS c_, vS c_, vU8 (1 : UInt8)]) rfl ⟨rfl, rfl, rfl, rfl, (by kernel_rfl), trivial⟩ Tryz.call25 ((W25n0 K w_20 (rcc [] c_19) (rcc_lt c_19 rfl) hr_9).mono ?_))
                      rintro _ w_23 ⟨d10, rfl, s28⟩
                      refine ⟨_, rfl, ?_⟩
                      obtain ⟨c_22, s29⟩ : ∃ c_22, St [] w_20 c_19 w_23 c_22 := ⟨_, s28.mg2 (sh := 160000) rfl⟩
                      refine WR.kT rfl rfl (vb_t rfl hg8) rfl rfl (OS.bin (a := vI r_9) (b := vI (1 : Int)) rfl rfl rfl bI_eql ?_)
                      refine WR.k rfl rfl rfl (OS.pickT rfl (vb_t rfl hg8) rfl ?_)
                      cases ht5
                      refine WR.nil ?_
                      exact ⟨_, h31, h32, h33, rfl, s29.mono (by decide)⟩
                    · rw [if_neg (nt hg8)] at ht5
                      refine WR.gF rfl rfl (vb_f rfl hg8) rfl rfl ?_
                      refine WR.gF rfl rfl (vb_f rfl hg8) rfl rfl ?_
                      refine WR.gF rfl rfl (vb_f rfl hg8) rfl rfl ?_
                      refine WR.gF rfl rfl (vb_f rfl hg8) rfl rfl ?_
                      refine WR.gF rfl rfl (vb_f rfl hg8) rfl rfl ?_
                      refine WR.gF rfl rfl (vb_f rfl hg8) rfl rfl ?_
                      refine WR.k rfl rfl rfl (OS.pickF rfl (vb_f rfl hg8) rfl ?_)
                      cases ht5
                      refine WR.nil ?_
                      exact ⟨_, h31, h32, h33, rfl, St.refl.mono (by decide)⟩
                  · rintro f_8 w_22 ⟨c_21, h35, h36, h37, h38, s30⟩
                    refine WR.k rfl rfl rfl (OS.move (v := vB b5) rfl h38 ?_)
                    obtain ⟨b6, ht6, hp⟩ := bind_some hp
                    refine WR.cut2 6 (fun f_9 w_24 => ∃ (c_23 : Col), f_9 2 = p_ ∧ f_9 5 = .pointer none ∧ f_9 92 = vB b6 ∧ St [] w_22 c_21 w_24 c_23) ?_ ?_
                    · rcases Bool.eq_false_or_eq_true (b5) with hg9 | hg9
                      · rw [if_pos hg9] at ht6
                        refine WR.kT rfl rfl (vb_t rfl hg9) rfl rfl (OS.move (v := .pointer none) rfl h37 ?_)
                        refine WR.kT rfl rfl (vb_t rfl hg9) rfl rfl (OS.move (v := vS c_) rfl h35 ?_)
                        obtain ⟨r_10, hr_10, ht6⟩ := bind_some ht6
                        refine WR.kT rfl rfl (vb_t rfl hg9) rfl rfl (OS.callF (vs := [.pointer none, vS c_]) rfl ⟨rfl, rfl, trivial⟩ Tryz.call26 ((W26n0 K w_22 (rcc [] c_21) (rcc_lt c_21 rfl) hr_10).mono ?_))
                        rintro _ w_25 ⟨sl, d11, rfl, s31, o10⟩
                        refine ⟨_, rfl, ?_⟩
                        obtain ⟨c_24, s32, o10⟩ : ∃ c_24, St [] w_22 c_21 w_25 c_24 ∧ Ow E43 182000 w_25 c_24 sl.val r_10 := ⟨_, s31.mg2 (sh := 180000) rfl, o10.tr (mg2_back s31 rfl)⟩
                        refine WR.kT rfl rfl (vb_t rfl hg9) rfl rfl (OS.lenSl rfl Tryz.runUnderlying56 rfl o10.isSl ?_)
                        refine WR.kT rfl rfl (vb_t rfl hg9) rfl rfl (OS.bin (a := vI (r_10.length : Int)) (b := vI (0 : Int)) rfl rfl rfl bI_eql ?_)
                        refine WR.k rfl rfl rfl (OS.pickT rfl (vb_t rfl hg9) rfl ?_)
                        cases ht6
                        refine WR.nil ?_
                        exact ⟨_, h36, h37, rfl, s32.mono (by decide)⟩
                      · rw [if_neg (nt hg9)] at ht6
                        refine WR.gF rfl rfl (vb_f rfl hg9) rfl rfl ?_
                        refine WR.gF rfl rfl (vb_f rfl hg9) rfl rfl ?_
                        refine WR.gF rfl rfl (vb_f rfl hg9) rfl rfl ?_
                        refine WR.gF rfl rfl (vb_f rfl hg9) rfl rfl ?_
                        refine WR.gF rfl rfl (vb_f rfl hg9) rfl rfl ?_
                        refine WR.k rfl rfl rfl (OS.pickF rfl (vb_f rfl hg9) rfl ?_)
                        cases ht6
                        refine WR.nil ?_
                        exact ⟨_, h36, h37, rfl, St.refl.mono (by decide)⟩
                    · rintro f_9 w_24 ⟨c_23, h39, h40, h41, s33⟩
                      refine WR.k rfl rfl rfl (OS.move (v := vB b6) rfl h41 ?_)
                      obtain ⟨b7, ht7, hp⟩ := bind_some hp
                      refine WR.cut2 6 (fun f_10 w_26 => ∃ (c_25 : Col), f_10 5 = .pointer none ∧ f_10 99 = vB b7 ∧ St [] w_24 c_23 w_26 c_25) ?_ ?_
                      · rcases Bool.eq_false_or_eq_true (b6) with hg10 | hg10
                        · rw [if_pos hg10] at ht7
                          refine WR.kT rfl rfl (vb_t rfl hg10) rfl rfl (OS.move (v := .pointer none) rfl h40 ?_)
                          have o11 := o4.keep ((((((((((s8.t s9).t s10).t s12).t s15).t s18).t s21).t s24).t s27).t s30).t s33) (by decide)
                          refine WR.kT rfl rfl (vb_t rfl hg10) rfl rfl (OS.ldN (us := [vS o.Tenant, vS o.User]) rfl Tryz.isAgg24 Tryz.sizeOf24 h39 o11.ldAll rfl ?_)
                          obtain ⟨r_11, hr_11, ht7⟩ := bind_some ht7
                          refine WR.kT rfl rfl (vb_t rfl hg10) rfl rfl (OS.callF (vs := [.pointer none, .agg (E24.e o).toArray]) rfl ⟨rfl, rfl, trivial⟩ Tryz.call27 ((W27n0 K w_24 (rcc [] c_23) (rcc_lt c_23 rfl) hr_11).mono ?_))
                          rintro _ w_27 ⟨sl1, d12, rfl, s34, o12⟩
                          refine ⟨_, rfl, ?_⟩
                          obtain ⟨c_26, s35, o12⟩ : ∃ c_26, St [] w_24 c_23 w_27 c_26 ∧ Ow E47 202000 w_27 c_26 sl1.val r_11 := ⟨_, s34.mg2 (sh := 200000) rfl, o12.tr (mg2_back s34 rfl)⟩
                          refine WR.kT rfl rfl (vb_t rfl hg10) rfl rfl (OS.lenSl rfl Tryz.runUnderlying58 rfl o12.isSl ?_)
                          refine WR.kT rfl rfl (vb_t rfl hg10) rfl rfl (OS.bin (a := vI (r_11.length : Int)) (b := vI (0 : Int)) rfl rfl rfl bI_eql ?_)
                          refine WR.k rfl rfl rfl (OS.pickT rfl (vb_t rfl hg10) rfl ?_)
                          cases ht7
                          refine WR.nil ?_
                          exact ⟨_, h40, rfl, s35.mono (by decide)⟩
                        · rw [if_neg (nt hg10)] at ht7
                          refine WR.gF rfl rfl (vb_f rfl hg10) rfl rfl ?_
                          refine WR.gF rfl rfl (vb_f rfl hg10) rfl rfl ?_
                          refine WR.gF rfl rfl (vb_f rfl hg10) rfl rfl ?_
                          refine WR.gF rfl rfl (vb_f rfl hg10) rfl rfl ?_
                          refine WR.gF rfl rfl (vb_f rfl hg10) rfl rfl ?_
                          refine WR.k rfl rfl rfl (OS.pickF rfl (vb_f rfl hg10) rfl ?_)
                          cases ht7
                          refine WR.nil ?_
                          exact ⟨_, h40, rfl, St.refl.mono (by decide)⟩
                      · rintro f_10 w_26 ⟨c_25, h42, h43, s36⟩
                        refine WR.k rfl rfl rfl (OS.move (v := vB b7) rfl h43 ?_)
                        obtain ⟨b8, ht8, hp⟩ := bind_some hp
                        refine WR.cut2 5 (fun f_11 w_28 => ∃ (c_27 : Col), f_11 5 = .pointer none ∧ f_11 105 = vB b8 ∧ St [] w_26 c_25 w_28 c_27) ?_ ?_
                        · rcases Bool.eq_false_or_eq_true (b7) with hg11 | hg11
                          · rw [if_pos hg11] at ht8
                            refine WR.kT rfl rfl (vb_t rfl hg11) rfl rfl (OS.move (v := .pointer none) rfl h42 ?_)
                            obtain ⟨r_12, hr_12, ht8⟩ := bind_some ht8
                            refine WR.kT rfl rfl (vb_t rfl hg11) rfl rfl (OS.callF (vs := [.pointer none]) rfl ⟨rfl, trivial⟩ Tryz.call14 ((W14n0 K w_26 (rcc [] c_25) (rcc_lt c_25 rfl) hr_12).mono ?_))
                            rintro _ w_29 ⟨d13, rfl, s37⟩
                            refine ⟨_, rfl, ?_⟩
                            obtain ⟨c_28, s38⟩ : ∃ c_28, St [] w_26 c_25 w_29 c_28 := ⟨_, s37.mg2 (sh := 220000) rfl⟩
                            refine WR.kT rfl rfl (vb_t rfl hg11) rfl rfl (OS.lenSl rfl Tryz.runUnderlying38 rfl (.inl ⟨rfl, rfl⟩) ?_)
                            refine WR.kT rfl rfl (vb_t rfl hg11) rfl rfl (OS.bin (a := vI (0 : Int)) (b := vI (0 : Int)) rfl rfl rfl bI_eql ?_)
                            refine WR.k rfl rfl rfl (OS.pickT rfl (vb_t rfl hg11) rfl ?_)
                            cases ht8
                            refine WR.nil ?_
                            exact ⟨_, h42, rfl, s38.mono (by decide)⟩
                          · rw [if_neg (nt hg11)] at ht8
                            refine WR.gF rfl rfl (vb_f rfl hg11) rfl rfl ?_
                            refine WR.gF rfl rfl (vb_f rfl hg11) rfl rfl ?_
                            refine WR.gF rfl rfl (vb_f rfl hg11) rfl rfl ?_
                            refine WR.gF rfl rfl (vb_f rfl hg11) rfl rfl ?_
                            refine WR.k rfl rfl rfl (OS.pickF rfl (vb_f rfl hg11) rfl ?_)
                            cases ht8
                            refine WR.nil ?_
                            exact ⟨_, h42, rfl, St.refl.mono (by decide)⟩
                        · rintro f_11 w_28 ⟨c_27, h44, h45, s39⟩
                          refine WR.k rfl rfl rfl (OS.move (v := vB b8) rfl h45 ?_)
                          obtain ⟨b9, ht9, hp⟩ := bind_some hp
                          refine WR.cut2 4 (fun f_12 w_30 => ∃ (c_29 : Col), f_12 110 = vB b9 ∧ St [] w_28 c_27 w_30 c_29) ?_ ?_
                          · rcases Bool.eq_false_or_eq_true (b8) with hg12 | hg12
                            · rw [if_pos hg12] at ht9
                              refine WR.kT rfl rfl (vb_t rfl hg12) rfl rfl (OS.move (v := .pointer none) rfl h44 ?_)
                              obtain ⟨r_13, hr_13, ht9⟩ := bind_some ht9
                              refine WR.kT rfl rfl (vb_t rfl hg12) rfl rfl (OS.callF (vs := [.pointer none]) rfl ⟨rfl, trivial⟩ Tryz.call11 ((W11n0 K w_28 (rcc [] c_27) (rcc_lt c_27 rfl) hr_13).mono ?_))
                              rintro _ w_31 ⟨d14, rfl, s40⟩
                              refine ⟨_, rfl, ?_⟩
                              obtain ⟨c_30, s41⟩ : ∃ c_30, St [] w_28 c_27 w_31 c_30 := ⟨_, s40.mg2 (sh := 240000) rfl⟩
                              refine WR.kT rfl rfl (vb_t rfl hg12) rfl rfl (OS.eqPtr (a := none) rfl (.inl ⟨rfl, rfl⟩) Tryz.underlying28 rfl rfl ?_)
                              refine WR.k rfl rfl rfl (OS.pickT rfl (vb_t rfl hg12) rfl ?_)
                              cases ht9
                              refine WR.nil ?_
                              exact ⟨_, rfl, s41.mono (by decide)⟩
                            · rw [if_neg (nt hg12)] at ht9
                              refine WR.gF rfl rfl (vb_f rfl hg12) rfl rfl ?_
                              refine WR.gF rfl rfl (vb_f rfl hg12) rfl rfl ?_
                              refine WR.gF rfl rfl (vb_f rfl hg12) rfl rfl ?_
                              refine WR.k rfl rfl rfl (OS.pickF rfl (vb_f rfl hg12) rfl ?_)
                              cases ht9
                              refine WR.nil ?_
                              exact ⟨_, rfl, St.refl.mono (by decide)⟩
                          · rintro f_12 w_30 ⟨c_29, h46, s42⟩
                            refine WR.k rfl rfl rfl (OS.assign (v := vB b9) rfl h46 ?_)
                            refine WR.nil ?_
                            refine WC.ret ?_
                            repeat first | refine thenQ_ret ?_ | refine blkQ_ret ?_
                            cases hp
                            exact fnQ.l1 (fn := Tryz.f5) rfl (.inl ⟨_, rfl, rfl⟩) ⟨_, rfl, ((((((((((((((((((s.t s2).t s4).t s5).t s6).t s8).t s9).t s10).t s12).t s15).t s18).t s21).t s24).t s27).t s30).t s33).t s36).t s39).t s42).leave hcw (by decide)⟩

-- (*holdfast/grant.Store).Client
set_option maxHeartbeats 4000000 in
theorem W18 (K : Nat) (w0 : World) (cw : Col) (hcw : ∀ b, cw b < 40) {s : S_grant_Store} {tenant : List UInt8} {client : List UInt8} {r : S_api_Client × Int} (hp : grant_Store_Client K s tenant client = some r) {b : Nat} {b1 : Nat} {p_ : Value} (o : Bx 3 w0 cw p_ [(.map (some b)), (.map (some b1))]) (o1 : Mp kv74 (VR.flat vv43) 4 w0 cw (.map (some b)) s.clients) (o2 : Mp kv77 (VR.flat vv25) 5 w0 cw (.map (some b1)) s.consents) :
    Calls Tryz.prog 18 [p_, vS tenant, vS client].toArray w0 fun e w1 => ∃ (d : Col), e = .returned (.tuple #[.agg (E43.e r.1).toArray, vI r.2]) ∧ St [] w0 cw w1 d := by
  refine calls_intro Tryz.func18 rfl Tryz.ntmps18 rfl ?_
  unfold grant_Store_Client at hp
  refine WC.seq (WC.region ?_)
  refine WR.k rfl rfl rfl (OS.allocBx (us := [vS ([] : List UInt8), vS ([] : List UInt8), vS ([] : List UInt8), vU8 (0 : UInt8)]) (c := cw) 40 rfl Tryz.zeroValue43 rfl ?_); intro p_1 w_ c_ o3 s1
  refine WR.k rfl rfl rfl (OS.assign (v := vI (0 : Int)) rfl rfl ?_)
  refine WR.nil ?_
  refine WC.seq (WC.region ?_)
  refine WR.k rfl rfl rfl (OS.move (v := p_) rfl rfl ?_)
  refine WR.k rfl rfl rfl (OS.move (v := vS tenant) rfl rfl ?_)
  refine WR.k rfl rfl rfl (OS.move (v := vS client) rfl rfl ?_)
  have o4 := o.keep s1 (by decide)
  have o5 := o1.keep s1 (by decide) (by decide)
  have o6 := o2.keep s1 (by decide) (by decide)
  obtain ⟨r_, hr_, hp⟩ := bind_some hp
  refine WR.k rfl rfl rfl (OS.callF (vs := [p_, vS tenant, vS client]) rfl ⟨rfl, rfl, rfl, trivial⟩ Tryz.call39 ((W39 K w_ (rcc [3, 4, 5] c_) (rcc_lt c_ rfl) hr_ (o4.tr (rc_tr (by decide))) (o5.tr (rc_tr (by decide))) (o6.tr (rc_tr (by decide)))).mono ?_))
  rintro _ w_1 ⟨d1, rfl, s2⟩
  refine ⟨_, rfl, ?_⟩
  obtain ⟨c_1, s3⟩ : ∃ c_1, St [] w_ c_ w_1 c_1 := ⟨_, s2.mg2 (sh := 10000) rfl⟩
  refine WR.k rfl rfl rfl (OS.extract (v := .agg (E43.e r_.1).toArray) rfl rfl rfl ?_)
  refine WR.k rfl rfl rfl (OS.extract (v := vI r_.2) rfl rfl rfl ?_)
  have o7 := o3.keep s3 (by decide)
  refine WR.k0 rfl rfl (OS.stBxAll (v := .agg (E43.e r_.1).toArray) (ws := [vS r_.1.Tenant, vS r_.1.Name, vS r_.1.Redirect, vU8 r_.1.Scopes]) rfl Tryz.sizeOf43 rfl rfl rfl o7 rfl rfl (one_of rfl) ?_); intro w_2 o8 s4
  refine WR.k rfl rfl rfl (OS.assign (v := vI r_.2) rfl rfl ?_)
  refine WR.nil ?_
  refine WC.ret ?_
  repeat first | refine thenQ_ret ?_ | refine blkQ_ret ?_
  cases hp
  exact fnQ.ls (fn := Tryz.f18) (rs := [.cell 6 43, .tmp 7]) (vs := [.agg (E43.e r_.1).toArray, vI r_.2]) rfl ⟨(.inr ⟨_, _, _, _, rfl, ⟨_, rfl, Tryz.isAgg43, Tryz.sizeOf43, o8.ldAll, rfl⟩, rfl⟩), (.inl ⟨_, rfl, rfl⟩), trivial⟩ ⟨_, rfl, ((s1.t s3).t s4).leave hcw (by decide)⟩ (by simp)

-- (*holdfast/grant.Store).Drop$1
set_option maxHeartbeats 4000000 in
theorem W54 (K : Nat) (w0 : World) (cw : Col) (hcw : ∀ b, cw b < 40) {u : S_grant_use} {x_ : UInt8} {x2 : List UInt8} {x3 : List UInt8} {r : Bool} (hp : grant_Store_Drop_1 K u x_ x2 x3 = some r) {i : Nat} (hi : i ≤ 1) {p_ : Value} (o : Bx i w0 cw p_ [vS x2]) {i1 : Nat} (hi1 : i1 ≤ 1) {p_1 : Value} (o1 : Bx i1 w0 cw p_1 [vS x3]) :
    Calls Tryz.prog 54 [.agg (E77.e u).toArray, vU8 x_, p_, p_1].toArray w0 fun e w1 => ∃ (d : Col), e = .returned (vB r) ∧ St [] w0 cw w1 d := by
  refine calls_intro Tryz.func54 rfl Tryz.ntmps54 rfl ?_
  unfold grant_Store_Drop_1 at hp
  refine WC.seq (WC.region ?_)
  refine WR.k rfl rfl rfl (OS.boxBx (us := [vS u.Owner.Tenant, vS u.Owner.User, vS u.client]) (c := cw) 40 rfl rfl rfl ?_); intro p_2 w_ c_ o2 s
  refine WR.k rfl rfl rfl (OS.assign (v := vB false) rfl rfl ?_)
  refine WR.nil ?_
  refine WC.seq (WC.region ?_)
  refine WR.k rfl rfl rfl (OS.fieldAddrBx rfl Tryz.runUnderlying77 rfl Tryz.sizeOf24 rfl rfl o2 ?_); intro p_3 a1
  refine WR.k rfl rfl rfl (OS.fieldAddrP rfl Tryz.runUnderlying24 rfl Tryz.sizeOf9 rfl rfl a1 ?_); intro p_4 a2
  refine WR.k rfl rfl rfl (OS.ld1 (u := vS u.Owner.Tenant) rfl Tryz.isAgg9 rfl (o2.ldn a2 (sub_of rfl)) ?_)
  have o3 := o.keep s (nin hi (by decide))
  refine WR.k rfl rfl rfl (OS.ld1 (u := vS x2) rfl Tryz.isAgg9 rfl o3.ldAll ?_)
  refine WR.k rfl rfl rfl (OS.bin (a := vS u.Owner.Tenant) (b := vS x2) rfl rfl rfl bS_eql ?_)
  refine WR.k rfl rfl rfl (OS.move (v := vB (decide (u.Owner.Tenant = x2))) rfl rfl ?_)
  refine WR.cut2 5 (fun f_ w_1 => f_ 17 = vB ((decide (u.Owner.Tenant = x2)) && (decide (u.client = x3))) ∧ w_ = w_1) ?_ ?_
  · rcases Bool.eq_false_or_eq_true (decide (u.Owner.Tenant = x2)) with hg | hg
    · refine WR.kT rfl rfl (vb_t rfl hg) rfl rfl (OS.fieldAddrBx rfl Tryz.runUnderlying77 rfl Tryz.sizeOf9 rfl rfl o2 ?_); intro p_5 a3
      refine WR.kT rfl rfl (vb_t rfl hg) rfl rfl (OS.ld1 (u := vS u.client) rfl Tryz.isAgg9 rfl (o2.ldn a3 (sub_of rfl)) ?_)
      have o4 := o1.keep s (nin hi1 (by decide))
      refine WR.kT rfl rfl (vb_t rfl hg) rfl rfl (OS.ld1 (u := vS x3) rfl Tryz.isAgg9 rfl o4.ldAll ?_)
      refine WR.kT rfl rfl (vb_t rfl hg) rfl rfl (OS.bin (a := vS u.client) (b := vS x3) rfl rfl rfl bS_eql ?_)
      refine WR.k rfl rfl rfl (OS.pickT rfl (vb_t rfl hg) rfl ?_)
      refine WR.nil ?_
      exact ⟨(and_t hg), rfl⟩
    · refine WR.gF rfl rfl (vb_f rfl hg) rfl rfl ?_
      refine WR.gF rfl rfl (vb_f rfl hg) rfl rfl ?_
      refine WR.gF rfl rfl (vb_f rfl hg) rfl rfl ?_
      refine WR.gF rfl rfl (vb_f rfl hg) rfl rfl ?_
      refine WR.k rfl rfl rfl (OS.pickF rfl (vb_f rfl hg) rfl ?_)
      refine WR.nil ?_
      exact ⟨(and_f hg), rfl⟩
  · rintro f_ _ ⟨h, rfl⟩
    refine WR.k rfl rfl rfl (OS.assign (v := vB ((decide (u.Owner.Tenant = x2)) && (decide (u.client = x3)))) rfl h ?_)
    refine WR.nil ?_
    refine WC.ret ?_
    repeat first | refine thenQ_ret ?_ | refine blkQ_ret ?_
    cases hp
    exact fnQ.l1 (fn := Tryz.f54) rfl (.inl ⟨_, rfl, rfl⟩) ⟨_, rfl, s.leave hcw (by decide)⟩

-- maps.DeleteFunc[map[holdfast/grant.use]holdfast/api.Scopes,holdfast/grant.use,holdfast/api.Scopes]
set_option maxHeartbeats 4000000 in
theorem W53f54 (K : Nat) (w0 : World) (cw : Col) (hcw : ∀ b, cw b < 40) {m : List (S_grant_use × UInt8)} {cap : List UInt8} {cap1 : List UInt8} {r : (List (S_grant_use × UInt8))} (hp : api_Scopes_53_f54 K m cap cap1 = some r) {b : Nat} (o : Mp kv77 (VR.flat vv25) 3 w0 cw (.map (some b)) m) {i : Nat} (hi : i ≤ 1) {p_ : Value} (o1 : Bx i w0 cw p_ [vS cap]) {i1 : Nat} (hi1 : i1 ≤ 1) {p_1 : Value} (o2 : Bx i1 w0 cw p_1 [vS cap1]) :
    Calls Tryz.prog 53 [(.map (some b)), .func (.func 54) #[] [p_, p_1].toArray].toArray w0 fun e w1 => ∃ (d : Col), e = .returned (.tuple #[]) ∧ St [3] w0 cw w1 d ∧ Mp kv77 (VR.flat vv25) 3 w1 d (.map (some b)) r := by
  refine calls_intro Tryz.func53 rfl Tryz.ntmps53 rfl ?_
  unfold api_Scopes_53_f54 at hp
  refine WC.seq (WC.region ?_)
  refine WR.k rfl rfl rfl (OS.move (v := (.map (some b))) rfl rfl ?_)
  refine WR.k rfl rfl rfl (OS.range (c := cw) 40 rfl Tryz.runUnderlying67 rfl o ?_); intro p_2 w_ c_ o3 s
  refine WR.nil ?_
  obtain ⟨kf, hkf, hM⟩ := mrngK_name hp
  replace hM : Mqk (api_Scopes_53_f54.m1 K cap cap1 : S_grant_use × UInt8 → (List (S_grant_use × UInt8)) → Option (Lr Unit (List (S_grant_use × UInt8)))) m m kf := hM
  refine WC.blockJ2 (fun f_ w_1 => ∃ (m1 : List (S_grant_use × UInt8)) (c_1 : Col), kf (.go m1) ∧ f_ 0 = (.map (some b)) ∧ Mp kv77 (VR.flat vv25) 3 w_1 c_1 (.map (some b)) m1 ∧ St [3, 40, 41, 42, 43, 44] w_ c_ w_1 c_1) ?_ ?_
  · refine WC.loop (fun n => fun f_1 w_2 => ∃ (m1 : List (S_grant_use × UInt8)) (left : List (S_grant_use × UInt8)) (c_2 : Col), Mqk (api_Scopes_53_f54.m1 K cap cap1 : S_grant_use × UInt8 → (List (S_grant_use × UInt8)) → Option (Lr Unit (List (S_grant_use × UInt8)))) left m1 kf ∧ n = left.length ∧ f_1 0 = (.map (some b)) ∧ f_1 1 = .func (.func 54) #[] [p_, p_1].toArray ∧ f_1 7 = p_2 ∧ MpI kv77 (VR.flat vv25) 3 40 w_2 c_2 (.map (some b)) p_2 m1 left ∧ St [3, 40, 41, 42, 43, 44] w_ c_ w_2 c_2) m.length ⟨_, _, _, hM, rfl, rfl, rfl, rfl, o3, St.refl.mono (by decide)⟩ ?_
    rintro n f_1 w_2 ⟨m1, left, c_2, hM1, hn, h, h1, h2, o4, s1⟩
    refine WC.seq (WC.region ?_)
    refine WR.k rfl rfl rfl (OS.next rfl K77 h2 o4 (by decide) (by decide) (fun hl => ?_) (fun l k1 u l1 v_ w_3 hsp hnk hu o5 o6 s2 => ?_))
    · refine WR.k rfl rfl rfl (OS.extract (v := vB false) rfl rfl rfl ?_)
      refine WR.nil ?_
      refine WC.seq ?_
      refine WC.condF rfl ?_
      refine WC.exit ?_
      have o7 := o4.mp
      exact ⟨_, _, hM1.done hl, h, o7, s1.mono (by decide)⟩
    · obtain rfl := hu
      obtain ⟨b1, hb, hgo, hret⟩ := hM1.step hsp
      unfold api_Scopes_53_f54.m1 at hb
      dsimp only at hb
      refine WR.k rfl rfl rfl (OS.extract (v := vB true) rfl rfl rfl ?_)
      refine WR.nil ?_
      refine WC.seq ?_
      refine WC.condT rfl ?_
      refine WC.skip ?_
      refine WC.block ?_
      refine WC.seq (WC.region ?_)
      refine WR.k rfl rfl rfl (OS.entry rfl h2 o6 ?_)
      refine WR.k rfl rfl rfl (OS.extract (v := .agg (E77.e k1).toArray) rfl rfl rfl ?_)
      refine WR.k rfl rfl rfl (OS.extract (v := vU8 u) rfl rfl rfl ?_)
      refine WR.k rfl rfl rfl (OS.allocBx (us := [vS ([] : List UInt8), vS ([] : List UInt8), vS ([] : List UInt8)]) (c := c_2) 44 rfl Tryz.zeroValue77 rfl ?_); intro p_3 w_4 c_3 o8 s3
      refine WR.k0 rfl rfl (OS.stBxAll (v := .agg (E77.e k1).toArray) (ws := [vS k1.Owner.Tenant, vS k1.Owner.User, vS k1.client]) rfl Tryz.sizeOf77 rfl rfl rfl o8 rfl rfl (one_of rfl) ?_); intro w_5 o9 s4
      refine WR.k rfl rfl rfl (OS.assign (v := vU8 u) rfl rfl ?_)
      refine WR.nil ?_
      refine WC.seq (WC.region ?_)
      refine WR.k rfl rfl rfl (OS.move (v := .func (.func 54) #[] [p_, p_1].toArray) rfl h1 ?_)
      refine WR.k rfl rfl rfl (OS.ldN (us := [vS k1.Owner.Tenant, vS k1.Owner.User, vS k1.client]) rfl Tryz.isAgg77 Tryz.sizeOf77 rfl o9.ldAll rfl ?_)
      refine WR.k rfl rfl rfl (OS.move (v := vU8 u) rfl rfl ?_)
      have o10 := o1.keep ((((s.t s1).t s2).t s3).t s4) (nin hi (by decide))
      have o11 := o2.keep ((((s.t s1).t s2).t s3).t s4) (nin hi1 (by decide))
      obtain ⟨r_, hr_, hb⟩ := bind_some hb
      refine WR.k rfl rfl rfl (OS.callClo (vs := [.agg (E77.e k1).toArray, vU8 u]) (cs := [p_, p_1]) rfl rfl ⟨rfl, rfl, trivial⟩ Tryz.call54 ((W54 (i := i) (i1 := i1) K w_5 (rcc [] c_3) (rcc_lt c_3 rfl) hr_ hi (o10.tr (rc_tr (rc_low hi rfl))) hi1 (o11.tr (rc_tr (rc_low hi1 rfl)))).mono ?_))
      rintro _ w_6 ⟨d1, rfl, s5⟩
      refine ⟨_, rfl, ?_⟩
      obtain ⟨c_4, s6⟩ : ∃ c_4, St [] w_5 c_3 w_6 c_4 := ⟨_, s5.mg2 (sh := 40000) rfl⟩
      refine WR.nil ?_
      refine WC.cond (r_) rfl (fun hb1 => ?_) (fun hb1 => ?_)
      · rw [if_pos hb1] at hb
        refine WC.region ?_
        refine WR.k rfl rfl rfl (OS.move (v := (.map (some b))) rfl h ?_)
        have o12 := o9.keep s6 (by decide)
        refine WR.k rfl rfl rfl (OS.ldN (us := [vS k1.Owner.Tenant, vS k1.Owner.User, vS k1.client]) rfl Tryz.isAgg77 Tryz.sizeOf77 rfl o12.ldAll rfl ?_)
        have o13 := o5.keep ((s3.t s4).t s6) (by decide) (by decide) (by decide)
        obtain ⟨m2, hm2, hb⟩ := bind_some hb
        replace hm2 := (Option.some.inj hm2).symm
        refine WR.k0 rfl rfl (OS.mapDelI (a := k1) rfl K77 Tryz.underlying67 rfl rfl o13 hnk (by decide) (by decide) ?_); intro w_7 o14 s7
        replace o14 : MpI kv77 (VR.flat vv25) 3 40 w_7 c_4 (.map (some b)) p_2 m2 (l ++ l1) := by rw [hm2]; exact o14
        refine WR.nil ?_
        cases hb
        exact ⟨(l ++ l1).length, (by rw [hn, hsp]; simp only [List.length_append, List.length_cons]; omega), ⟨_, _, _, hgo _ rfl, rfl, h, h1, h2, o14, (((((s1.t s2).t s3).t s4).t s6).t s7).mono (by decide)⟩⟩
      · rw [if_neg (nt hb1)] at hb
        refine WC.skip ?_
        cases hb
        have o15 := o5.keep ((s3.t s4).t s6) (by decide) (by decide) (by decide)
        exact ⟨(l ++ l1).length, (by rw [hn, hsp]; simp only [List.length_append, List.length_cons]; omega), ⟨_, _, _, hgo _ rfl, rfl, h, h1, h2, o15, ((((s1.t s2).t s3).t s4).t s6).mono (by decide)⟩⟩
  · rintro f_ w_1 ⟨m1, c_1, hq, h3, o4, s8⟩
    replace hp := hkf _ hq; simp only [lrc] at hp
    cases hp
    exact fnQ.lsN (fn := Tryz.f53) rfl ⟨_, rfl, (s.t s8).leave hcw (by decide), o4⟩
end Go.Proofs.YtjgbakieogadfaaGreatDoor
