/-
  The rows of a store, in plain words. Plain Lean.
-/
import Derived.Test.YtjgbakieogadfaaGreatDoorGrantS
import Derived.Test.YtjgbakieogadfaaGreatDoorSrt
namespace Go.Proofs.YtjgbakieogadfaaGreatDoor
open Go L Go.Sort
/-! keys are names -/
structure NmS (s : S_grant_Store) : Prop where
  c : ∀ k ∈ s.clients.map (·.1), nameS k.tenant = true ∧ nameS k.name = true
  u : ∀ k ∈ s.consents.map (·.1), nameS k.Owner.Tenant = true ∧ nameS k.Owner.User = true ∧ nameS k.client = true
theorem mset_keys_sub {κ β : Type} [DecidableEq κ] {m : List (κ × β)} {a : κ} {v : β} {k : κ} (h : k ∈ (mset m a v).map (·.1)) : k = a ∨ k ∈ m.map (·.1) := by
  rw [mset_keys] at h
  split at h
  · exact .inr h
  · rcases List.mem_append.1 h with h | h
    · exact .inr h
    · exact .inl (by simpa using h)
theorem filter_keys_sub {κ β : Type} {m : List (κ × β)} {p : κ × β → Bool} {k : κ} (h : k ∈ (m.filter p).map (·.1)) : k ∈ m.map (·.1) := by
  obtain ⟨x, hx, rfl⟩ := List.mem_map.1 h
  exact List.mem_map.2 ⟨x, (List.mem_filter.1 hx).1, rfl⟩
theorem mdel_keys_sub {κ β : Type} [DecidableEq κ] {m : List (κ × β)} (hn : NDK m) {a k : κ} (h : k ∈ (mdel m a).map (·.1)) : k ∈ m.map (·.1) := by
  rw [mdel_eq hn] at h; exact filter_keys_sub h
theorem nms_reg {s : S_grant_Store} (h : NmS s) (c : S_api_Client) : NmS (regS s c).2 := by
  unfold regS
  split
  · exact h
  · rename_i h1
    simp only [Bool.or_eq_true, Bool.not_eq_true', not_or, Bool.not_eq_false] at h1
    split
    · exact h
    · split
      · exact h
      · split
        · exact h
        · refine ⟨fun k hk => ?_, h.u⟩
          rcases mset_keys_sub hk with rfl | hk
          · exact h1
          · exact h.c k hk
theorem look_key {s : S_grant_Store} (h : NmS s) {t n : List UInt8} (hl : (lookS s t n).2 = 0) : nameS t = true ∧ nameS n = true := by
  unfold lookS at hl
  cases hm : mget s.clients ⟨t, n⟩ with
  | none => rw [hm] at hl; simp at hl
  | some c => exact h.c ⟨t, n⟩ (List.mem_map.2 ⟨_, mget_mem hm, rfl⟩)
theorem nms_allow {s : S_grant_Store} (h : NmS s) (c : S_api_Consent) : NmS (allowS s c).2 := by
  unfold allowS
  split
  · exact h
  · rename_i h1
    simp only [Bool.or_eq_true, Bool.not_eq_true', not_or, Bool.not_eq_false] at h1
    split
    · exact h
    · rename_i h2
      split
      · exact h
      · split
        · exact h
        · refine ⟨h.c, fun k hk => ?_⟩
          rcases mset_keys_sub hk with rfl | hk
          · exact ⟨h1.1, h1.2, (look_key h (Decidable.not_not.1 h2)).2⟩
          · exact h.u k hk
theorem nms_nar {s : S_grant_Store} (h : NmS s) (t n : List UInt8) (sc : UInt8) : NmS (narS s t n sc).2.2 := by
  unfold narS
  cases hm : mget s.clients ⟨t, n⟩ with
  | none => exact h
  | some c =>
    refine ⟨fun k hk => ?_, fun k hk => ?_⟩
    · rcases mset_keys_sub hk with rfl | hk
      · exact h.c ⟨t, n⟩ (List.mem_map.2 ⟨_, mget_mem hm, rfl⟩)
      · exact h.c k hk
    · rw [nar_keys] at hk; exact h.u k hk
theorem nms_drop {n : Nat} {s : S_grant_Store} (h : NmS s) (i : Inv n s) (t m : List UInt8) : NmS (dropS s t m).2 := by
  unfold dropS
  split
  · exact ⟨fun k hk => h.c k (mdel_keys_sub i.nc hk), fun k hk => h.u k (filter_keys_sub hk)⟩
  · exact h
theorem nms_with {n : Nat} {s : S_grant_Store} (h : NmS s) (i : Inv n s) (o : S_api_Owner) (c : List UInt8) : NmS (withS s o c).2 := by
  unfold withS
  split
  · exact ⟨h.c, fun k hk => h.u k (mdel_keys_sub i.ns hk)⟩
  · exact h
theorem nms_dropUser {s : S_grant_Store} (h : NmS s) (o : S_api_Owner) : NmS (dropUserS s o).2 := ⟨h.c, fun k hk => h.u k (filter_keys_sub hk)⟩
/-! numbers of eight bits -/
def num8 (x : UInt8) : List UInt8 := (grant_number 1200 x).getD []
theorem num_all (k : Nat) : ((List.range 256).all fun n => decide (grant_number (k + 1200) (UInt8.ofNat n) = some (num8 (UInt8.ofNat n)))) = true := by kernel_rfl
theorem number_eq (k : Nat) (x : UInt8) : grant_number (k + 1200) x = some (num8 x) := by
  have h := List.all_eq_true.1 (num_all k) x.toNat (List.mem_range.2 x.toNat_lt)
  simpa using h
theorem num8_len : ((List.range 256).all fun n => decide ((num8 (UInt8.ofNat n)).length ≤ 3)) = true := by kernel_rfl
/-! keys of rows -/
def keyC (k : S_grant_name) : List UInt8 := (k.tenant ++ [47]) ++ k.name
def keyU (k : S_grant_use) : List UInt8 := (((k.Owner.Tenant ++ [47]) ++ k.Owner.User) ++ [47]) ++ k.client
theorem name47 {s : List UInt8} (h : nameS s = true) : (47 : UInt8) ∉ s ∧ s.length ≤ 9 := by
  unfold nameS at h
  simp only [Bool.and_eq_true, decide_eq_true_eq, List.all_eq_true] at h
  refine ⟨fun hm => ?_, h.1.2⟩
  have := h.2 47 hm
  revert this; decide
theorem keyC_inj {k k' : S_grant_name} (h : nameS k.tenant = true) (h' : nameS k'.tenant = true) (e : keyC k = keyC k') : k = k' := by
  obtain ⟨e1, e2⟩ := cut_inj (name47 h).1 (name47 h').1 e
  cases k; cases k'; simp_all
theorem keyU_inj {k k' : S_grant_use} (h : nameS k.Owner.Tenant = true ∧ nameS k.Owner.User = true) (h' : nameS k'.Owner.Tenant = true ∧ nameS k'.Owner.User = true) (e : keyU k = keyU k') : k = k' := by
  have e0 : (k.Owner.Tenant ++ [47]) ++ ((k.Owner.User ++ [47]) ++ k.client) = (k'.Owner.Tenant ++ [47]) ++ ((k'.Owner.User ++ [47]) ++ k'.client) := by simpa [keyU] using e
  obtain ⟨e1, e2⟩ := cut_inj (name47 h.1).1 (name47 h'.1).1 e0
  obtain ⟨e3, e4⟩ := cut_inj (name47 h.2).1 (name47 h'.2).1 e2
  obtain ⟨⟨_, _⟩, _⟩ := k; obtain ⟨⟨_, _⟩, _⟩ := k'; simp_all
theorem keyCU {k : S_grant_name} {u : S_grant_use} (h : nameS k.tenant = true ∧ nameS k.name = true) (h' : nameS u.Owner.Tenant = true) (e : keyC k = keyU u) : False := by
  have e0 : (k.tenant ++ [47]) ++ k.name = (u.Owner.Tenant ++ [47]) ++ ((u.Owner.User ++ [47]) ++ u.client) := by simpa [keyU, keyC] using e
  obtain ⟨_, e2⟩ := cut_inj (name47 h.1).1 (name47 h').1 e0
  exact (name47 h.2).1 (by rw [e2]; simp)
/-! rows -/
def rowC (x : S_grant_name × S_api_Client) : S_api_Row := ⟨keyC x.1, [x.2.Redirect, num8 x.2.Scopes]⟩
def rowU (x : S_grant_use × UInt8) : S_api_Row := ⟨keyU x.1, [num8 x.2]⟩
noncomputable def rowsS (s : S_grant_Store) : List S_api_Row := sortS (fun (a b : S_api_Row) => cmpS a.Key b.Key) (s.clients.map rowC ++ s.consents.map rowU)
theorem rowC_fold (k : Nat) : ∀ (l : List (S_grant_name × S_api_Client)) (out : List S_api_Row), (∀ x ∈ l, nameS x.1.tenant = true ∧ nameS x.1.name = true) → out.length + l.length ≤ 3518437208883 →
    mfold (grant_Store_Rows.m1 (k + 1200)) l out = some (.go (out ++ l.map rowC))
  | [], out, _, _ => by simp [mfold]
  | y :: l, out, hn, hl => by
    have hy := hn y List.mem_cons_self
    have l1 := (name47 hy.1).2; have l2 := (name47 hy.2).2
    simp only [List.length_cons] at hl
    have a1 : app 9223372036854775807 y.1.tenant ([47] : List UInt8) = some (y.1.tenant ++ [47]) := by unfold app; rw [if_pos (by simp only [List.length_cons, List.length_nil]; omega)]
    have a2 : app 9223372036854775807 (y.1.tenant ++ [47]) y.1.name = some ((y.1.tenant ++ [47]) ++ y.1.name) := by unfold app; rw [if_pos (by simp only [List.length_append, List.length_cons, List.length_nil]; omega)]
    have a3 : app 3518437208883 out ([rowC y] : List S_api_Row) = some (out ++ [rowC y]) := by unfold app; rw [if_pos (by simp only [List.length_cons, List.length_nil]; omega)]
    have hB : grant_Store_Rows.m1 (k + 1200) y out = some (.go (out ++ [rowC y])) := by
      unfold grant_Store_Rows.m1
      simp only [a1, a2, number_eq, Option.bind_some]
      exact congrArg (fun z => Option.bind z _) a3 |>.trans rfl
    simp only [mfold, hB, Option.bind_some, lrc]
    rw [rowC_fold k l _ (fun x hx => hn x (List.mem_cons_of_mem _ hx)) (by simp only [List.length_append, List.length_cons, List.length_nil]; omega), List.map_cons, List.append_assoc]; rfl
theorem rowU_fold (k : Nat) : ∀ (l : List (S_grant_use × UInt8)) (out : List S_api_Row), (∀ x ∈ l, nameS x.1.Owner.Tenant = true ∧ nameS x.1.Owner.User = true ∧ nameS x.1.client = true) → out.length + l.length ≤ 3518437208883 →
    mfold (grant_Store_Rows.m2 (k + 1200)) l out = some (.go (out ++ l.map rowU))
  | [], out, _, _ => by simp [mfold]
  | y :: l, out, hn, hl => by
    have hy := hn y List.mem_cons_self
    have l1 := (name47 hy.1).2; have l2 := (name47 hy.2.1).2; have l3 := (name47 hy.2.2).2
    simp only [List.length_cons] at hl
    have a1 : app 9223372036854775807 y.1.Owner.Tenant ([47] : List UInt8) = some (y.1.Owner.Tenant ++ [47]) := by unfold app; rw [if_pos (by simp only [List.length_cons, List.length_nil]; omega)]
    have a2 : app 9223372036854775807 (y.1.Owner.Tenant ++ [47]) y.1.Owner.User = some ((y.1.Owner.Tenant ++ [47]) ++ y.1.Owner.User) := by unfold app; rw [if_pos (by simp only [List.length_append, List.length_cons, List.length_nil]; omega)]
    have a4 : app 9223372036854775807 ((y.1.Owner.Tenant ++ [47]) ++ y.1.Owner.User) ([47] : List UInt8) = some (((y.1.Owner.Tenant ++ [47]) ++ y.1.Owner.User) ++ [47]) := by unfold app; rw [if_pos (by simp only [List.length_append, List.length_cons, List.length_nil]; omega)]
    have a5 : app 9223372036854775807 (((y.1.Owner.Tenant ++ [47]) ++ y.1.Owner.User) ++ [47]) y.1.client = some (keyU y.1) := by unfold app keyU; rw [if_pos (by simp only [List.length_append, List.length_cons, List.length_nil]; omega)]
    have a3 : app 3518437208883 out ([rowU y] : List S_api_Row) = some (out ++ [rowU y]) := by unfold app; rw [if_pos (by simp only [List.length_cons, List.length_nil]; omega)]
    have hB : grant_Store_Rows.m2 (k + 1200) y out = some (.go (out ++ [rowU y])) := by
      unfold grant_Store_Rows.m2
      simp only [a1, a2, a4, a5, number_eq, Option.bind_some]
      exact congrArg (fun z => Option.bind z _) a3 |>.trans rfl
    simp only [mfold, hB, Option.bind_some, lrc]
    rw [rowU_fold k l _ (fun x hx => hn x (List.mem_cons_of_mem _ hx)) (by simp only [List.length_append, List.length_cons, List.length_nil]; omega), List.map_cons, List.append_assoc]; rfl
theorem rows_nd {s : S_grant_Store} (hc : NDK s.clients) (hu : NDK s.consents) (h : NmS s) : ((s.clients.map rowC ++ s.consents.map rowU).map (·.Key)).Nodup := by
  rw [List.map_append, List.map_map, List.map_map]
  rw [show (fun x : S_api_Row => x.Key) ∘ rowC = keyC ∘ (·.1) from rfl, show (fun x : S_api_Row => x.Key) ∘ rowU = keyU ∘ (·.1) from rfl, ← List.map_map, ← List.map_map]
  rw [List.nodup_append]
  refine ⟨nodup_map hc fun a ha b hb => keyC_inj (h.c a ha).1 (h.c b hb).1, nodup_map hu fun a ha b hb => keyU_inj ⟨(h.u a ha).1, (h.u a ha).2.1⟩ ⟨(h.u b hb).1, (h.u b hb).2.1⟩, fun a ha b hb e => ?_⟩
  obtain ⟨k, hk, rfl⟩ := List.mem_map.1 ha
  obtain ⟨u, hu, rfl⟩ := List.mem_map.1 hb
  exact keyCU (h.c k hk) (h.u u hu).1 e
theorem key_inj' {xs : List S_api_Row} (hn : (xs.map (·.Key)).Nodup) : ∀ a b, a ∈ xs → b ∈ xs → ltOf (fun (a b : S_api_Row) => cmpS a.Key b.Key) b a = false → ltOf (fun (a b : S_api_Row) => cmpS a.Key b.Key) a b = false → a = b :=
  fun a b ha hb h1 h2 => key_inj (key := fun x : S_api_Row => x.Key) hn a b ha hb (cmpS_eq h1 h2)
theorem Rows_eq (k : Nat) (s : S_grant_Store) (hc : NDK s.clients) (hu : NDK s.consents) (h : NmS s) (l1 : s.clients.length ≤ 1000) (l2 : s.consents.length ≤ 1000) : grant_Store_Rows (k + 1200) s = some (rowsS s) := by
  unfold grant_Store_Rows
  have hm : ∀ {κ β : Type} {l m : List (κ × β)}, l.Perm m → ∀ x ∈ l, x.1 ∈ m.map (·.1) := fun hp x hx => List.mem_map.2 ⟨x, hp.mem_iff.1 hx, rfl⟩
  refine mrngK_eq fun l hp => ?_
  rw [rowC_fold k l [] (fun x hx => h.c x.1 (hm hp x hx)) (by have := hp.length_eq; simp only [List.length_nil]; omega)]
  simp only [Option.bind_some, lrc, List.nil_append]
  refine mrngK_eq fun l' hp' => ?_
  rw [rowU_fold k l' _ (fun x hx => h.u x.1 (hm hp' x hx)) (by have := hp'.length_eq; have := hp.length_eq; simp only [List.length_map]; omega)]
  simp only [Option.bind_some]
  have hP : (s.clients.map rowC ++ s.consents.map rowU).Perm (l.map rowC ++ l'.map rowU) := (hp.symm.map _).append (hp'.symm.map _)
  have hN := rows_nd hc hu h
  unfold api_Row_42_f43
  rw [if_pos ⟨by rw [← hP.length_eq]; simp only [List.length_append, List.length_map]; omega, (hP.map _).nodup_iff.1 hN⟩]
  unfold rowsS
  rw [sortS_eq _ (swo_str fun a : S_api_Row => a.Key) hP (key_inj' hN)]; rfl
/-! the same rows -/
end Go.Proofs.YtjgbakieogadfaaGreatDoor
