/-
  Clients and consents are just what the document says: the law, by plain functions. Plain Lean.
-/
import Derived.Test.YtjgbakieogadfaaGreatDoorGrantT
import Derived.Test.YtjgbakieogadfaaGreatDoorOpen
namespace Go.Proofs.YtjgbakieogadfaaGreatDoor
open Go L Go.Sort
variable {n : Nat} {s : GS} {r : RS} {K : Nat}
theorem num11_all (k : Nat) : ((List.range 256).all fun n => decide (holdfastref11_Num (k + 1200) (((UInt8.ofNat n).toNat : Nat) : Int) = some (num8 (UInt8.ofNat n)))) = true := by kernel_rfl
theorem num11 (k : Nat) (x : UInt8) : holdfastref11_Num (k + 1200) (x.toNat : Int) = some (num8 x) := by
  have h := List.all_eq_true.1 (num11_all k) x.toNat (List.mem_range.2 x.toNat_lt)
  simpa using h
def rowC' (x : S_api_Client) : S_api_Row := ⟨keyC (kN x), [x.Redirect, num8 x.Scopes]⟩
def rowU' (x : S_api_Consent) : S_api_Row := ⟨keyU (kU x), [num8 x.Scopes]⟩
theorem rr1 (k : Nat) (r : RS) (hw : ∀ p ∈ r.c_, nameS p.Tenant = true ∧ nameS p.Name = true) (hl : r.c_.length ≤ 1000) : ∀ (d m i : Nat) (out : List S_api_Row), i + d = r.c_.length → d < m → out.length + d ≤ 3000 → holdfastref13_Store_Rows.l1 (k + 1200) m r out (i : Int) = some (out ++ (r.c_.drop i).map rowC')
  | 0, m + 1, i, out, h1, h2, h3 => by
    rw [holdfastref13_Store_Rows.l1, if_neg (by simp <;> omega), List.drop_eq_nil_of_le (by omega)]; simp
  | d + 1, m + 1, i, out, h1, h2, h3 => by
    have hi : i < r.c_.length := by omega
    obtain ⟨w1, w2⟩ := hw r.c_[i] (List.getElem_mem hi)
    have l1 := (name47 w1).2; have l2 := (name47 w2).2
    simp only [holdfastref13_Store_Rows.l1, gtn hi, Option.bind_some, num11]
    rw [if_pos (by simp <;> omega), appn (by simp only [List.length_cons, List.length_nil]; omega), Option.bind_some, appn (by simp only [List.length_append, List.length_cons, List.length_nil]; omega), Option.bind_some,
      show (⟨(r.c_[i].Tenant ++ [47]) ++ r.c_[i].Name, [r.c_[i].Redirect, num8 r.c_[i].Scopes]⟩ : S_api_Row) = rowC' r.c_[i] from rfl, appn (by simp only [List.length_cons, List.length_nil]; omega), Option.bind_some, wsucc (by omega),
      rr1 k r hw hl d m (i + 1) _ (by omega) (by omega) (by simp only [List.length_append, List.length_cons, List.length_nil]; omega), List.drop_eq_getElem_cons hi, List.map_cons, List.append_assoc]; rfl
theorem rr2 (k : Nat) (r : RS) (hw : ∀ p ∈ r.a, nameS p.Owner.Tenant = true ∧ nameS p.Owner.User = true ∧ nameS p.Client = true) (hl : r.a.length ≤ 1000) : ∀ (d m i : Nat) (out : List S_api_Row), i + d = r.a.length → d < m → out.length + d ≤ 3000 → holdfastref13_Store_Rows.l2 (k + 1200) m r out (i : Int) = some (out ++ (r.a.drop i).map rowU')
  | 0, m + 1, i, out, h1, h2, h3 => by
    rw [holdfastref13_Store_Rows.l2, if_neg (by simp <;> omega), List.drop_eq_nil_of_le (by omega)]; simp
  | d + 1, m + 1, i, out, h1, h2, h3 => by
    have hi : i < r.a.length := by omega
    obtain ⟨w1, w2, w3⟩ := hw r.a[i] (List.getElem_mem hi)
    have l1 := (name47 w1).2; have l2 := (name47 w2).2; have l3 := (name47 w3).2
    simp only [holdfastref13_Store_Rows.l2, gtn hi, Option.bind_some, num11]
    rw [if_pos (by simp <;> omega), appn (by simp only [List.length_cons, List.length_nil]; omega), Option.bind_some, appn (by simp only [List.length_append, List.length_cons, List.length_nil]; omega), Option.bind_some,
      appn (by simp only [List.length_append, List.length_cons, List.length_nil]; omega), Option.bind_some, appn (by simp only [List.length_append, List.length_cons, List.length_nil]; omega), Option.bind_some,
      show (⟨(((r.a[i].Owner.Tenant ++ [47]) ++ r.a[i].Owner.User) ++ [47]) ++ r.a[i].Client, [num8 r.a[i].Scopes]⟩ : S_api_Row) = rowU' r.a[i] from rfl, appn (by simp only [List.length_cons, List.length_nil]; omega), Option.bind_some, wsucc (by omega),
      rr2 k r hw hl d m (i + 1) _ (by omega) (by omega) (by simp only [List.length_append, List.length_cons, List.length_nil]; omega), List.drop_eq_getElem_cons hi, List.map_cons, List.append_assoc]; rfl
theorem rRows_eq (k : Nat) (h : Rel n s r) (hn : n ≤ 500) : holdfastref13_Store_Rows (k + 1200) r = some (rowsS s) := by
  have hl := h.cl; have hl2 := h.al
  have l1 := h.inv.lc; have l2 := h.inv.ls
  unfold holdfastref13_Store_Rows
  rw [show holdfastref13_Store_Rows.l1 (k + 1200) (k + 1200) r [] 0 = some ([] ++ (r.c_.drop 0).map rowC') from rr1 k r (fun p hp => by
    rw [h.c] at hp; obtain ⟨q, hq, rfl⟩ := List.mem_map.1 hp
    have := h.nm.c q.1 (List.mem_map.2 ⟨q, hq, rfl⟩); rw [h.kv q hq] at this; exact this) (by omega) r.c_.length _ 0 [] (by omega) (by omega) (by simp only [List.length_nil]; omega), Option.bind_some,
    show holdfastref13_Store_Rows.l2 (k + 1200) (k + 1200) r _ 0 = _ from rr2 k r (fun p hp => by
    obtain ⟨q, hq, rfl⟩ := List.mem_map.1 (h.a.mem_iff.1 hp)
    exact h.nm.u q.1 (List.mem_map.2 ⟨q, hq, rfl⟩)) (by omega) r.a.length _ 0 _ (by omega) (by omega) (by simp only [List.length_append, List.length_nil, List.length_map, List.length_drop]; omega), Option.bind_some]
  have hP : (s.clients.map rowC ++ s.consents.map rowU).Perm ([] ++ (r.c_.drop 0).map rowC' ++ (r.a.drop 0).map rowU') := by
    rw [List.nil_append, List.drop_zero, List.drop_zero, h.c, List.map_map]
    refine List.Perm.append (List.Perm.of_eq (List.map_congr_left fun x hx => ?_)) ?_
    · simp only [Function.comp, rowC, rowC']; rw [h.kv x hx]
    · have := (h.a.map rowU').symm
      rw [List.map_map] at this; exact this
  have hN := rows_nd h.inv.nc h.inv.ns h.nm
  rw [Sorted_eq _ _ (by rw [← hP.length_eq]; simp only [List.length_append, List.length_map]; omega) (by rw [← hP.length_eq]; simp only [List.length_append, List.length_map]; omega) ((hP.map _).nodup_iff.1 hN), Option.bind_some]
  exact congrArg some (sortS_eq cfR swoR hP (key_injR hN)).symm
theorem rowsS_small {s : GS} : (rowsS s).length = s.clients.length + s.consents.length ∧ ∀ x ∈ rowsS s, x.Columns.length ≤ 2 := by
  have p := (sortS_sorted _ (swo_str fun a : S_api_Row => a.Key) (s.clients.map rowC ++ s.consents.map rowU)).1
  refine ⟨p.length_eq.trans (by simp), fun x hx => ?_⟩
  rcases List.mem_append.1 (p.mem_iff.1 hx) with h | h
  · obtain ⟨y, _, rfl⟩ := List.mem_map.1 h; exact Nat.le_refl _
  · obtain ⟨y, _, rfl⟩ := List.mem_map.1 h; exact Nat.le_succ _
theorem same_rowsS (k : Nat) (h : Rel n s r) (hn : n ≤ 500) : holdfastref06_SameRows (k + 1200) (rowsS s) (rowsS s) = some true := by
  obtain ⟨h1, h2⟩ := rowsS_small (s := s)
  have l1 := h.inv.lc; have l2 := h.inv.ls
  exact rows_same _ _ (by omega) (by omega) fun x hx => ⟨by have := h2 x hx; omega, by have := h2 x hx; omega⟩
theorem rows_both (k : Nat) (h : Rel n s r) (hn : n ≤ 500) : grant_Store_Rows (k + 1200) s = some (rowsS s) ∧ holdfastref13_Store_Rows (k + 1200) r = some (rowsS s) :=
  ⟨Rows_eq k s h.inv.nc h.inv.ns h.nm (Nat.le_trans h.inv.lc (by omega)) (Nat.le_trans h.inv.ls (by omega)), rRows_eq k h hn⟩
theorem rel0 : Rel 0 ⟨[], []⟩ ⟨[], []⟩ :=
  ⟨⟨List.nodup_nil, List.nodup_nil, Nat.le_refl _, Nat.le_refl _, fun u x h => by simp [mget] at h⟩, ⟨fun k hk => (by cases hk), fun k hk => (by cases hk)⟩, rfl, fun x hx => (by cases hx), List.Perm.refl _⟩
theorem plays_loop (K : Nat) (hK : 1000 < K) (l : List S_holdfastlaw13_Deed) (hl : ∀ x ∈ l, NmD K x) : ∀ (k i : Nat) (s : GS) (r : RS) (g : GS) (h : RS),
    i ≤ 80 → 80 < i + k → Rel i s r → Rel 80 g h → ∃ s' r' g' h', holdfastlaw13_GrantPlays.l1 K k l s.clients s.consents r.c_ r.a g.clients g.consents h.c_ h.a (i : Int) = some (.go (s'.clients, s'.consents, r'.c_, r'.a, g'.clients, g'.consents, h'.c_, h'.a)) ∧ Rel 80 s' r' ∧ Rel 80 g' h'
  | 0, i, _, _, _, _, h1, h2, _, _ => by omega
  | k + 1, i, s, r, g, h, h1, h2, h3, h4 => by
    unfold holdfastlaw13_GrantPlays.l1
    by_cases hc : (decide ((i : Int) < (l.length : Int)) && decide ((i : Int) < 80)) = true
    · rw [if_pos hc]
      simp only [Bool.and_eq_true, decide_eq_true_eq] at hc
      have hi : i < l.length := by omega
      have hj : ∀ (g : GS) (h : RS), Rel 80 g h → ∃ s' r' g' h', holdfastlaw13_GrantPlays.j1 K (holdfastlaw13_GrantPlays.l1 K k l) l (i : Int) s.clients s.consents r.c_ r.a g.clients g.consents h.c_ h.a = some (.go (s'.clients, s'.consents, r'.c_, r'.a, g'.clients, g'.consents, h'.c_, h'.a)) ∧ Rel 80 s' r' ∧ Rel 80 g' h' := by
        intro g h h4
        obtain ⟨s1, r1, e1, e2⟩ := do_eq h3 (by omega) hK l[i] (hl _ (List.getElem_mem _))
        unfold holdfastlaw13_GrantPlays.j1
        rw [gtn hi, Option.bind_some, show holdfastlaw13_do K ⟨s.clients, s.consents⟩ ⟨r.c_, r.a⟩ l[i] = _ from e1, Option.bind_some, if_neg (by simp), Option.bind_some, show holdfastlaw13_same K ⟨s1.clients, s1.consents⟩ ⟨r1.c_, r1.a⟩ l[i] = _ from same_eq e2 (by omega) hK _, Option.bind_some, Option.bind_some, if_neg (by simp), wsucc (by omega)]
        exact plays_loop K hK l hl k (i + 1) s1 r1 g h (by omega) (by omega) e2 h4
      split
      · show ∃ s' r' g' h', ((some s).bind fun r_5 => (some r).bind fun r_6 => holdfastlaw13_GrantPlays.j1 K (holdfastlaw13_GrantPlays.l1 K k l) l (i : Int) s.clients s.consents r.c_ r.a r_5.clients r_5.consents r_6.c_ r_6.a) = _ ∧ _
        exact hj s r (h3.mono h1)
      · exact hj g h h4
    · rw [if_neg hc]; exact ⟨s, r, g, h, rfl, h3.mono h1, h4⟩
theorem law_plays (k : Nat) (l : List S_holdfastlaw13_Deed) (hl : ∀ y ∈ l, NmD (k + 1200) y) : holdfastlaw13_GrantPlays (k + 1200) l = some true := by
  unfold holdfastlaw13_GrantPlays grant_New holdfastref13_New
  simp only [Option.bind_some, live_eq, Bool.not_true, Bool.false_eq_true, if_false]
  obtain ⟨s, r, g, h, e, h1, h2⟩ := plays_loop (k + 1200) (by omega) l hl (k + 1200) 0 ⟨[], []⟩ ⟨[], []⟩ ⟨[], []⟩ ⟨[], []⟩ (by omega) (by omega) rel0 (rel0.mono (by decide))
  show ((holdfastlaw13_GrantPlays.l1 (k + 1200) (k + 1200) l [] [] [] [] [] [] [] [] 0).bind _) = _
  rw [show holdfastlaw13_GrantPlays.l1 (k + 1200) (k + 1200) l [] [] [] [] [] [] [] [] 0 = _ from e, Option.bind_some]
  obtain ⟨a1, a2⟩ := rows_both k h1 (by decide)
  obtain ⟨b1, b2⟩ := rows_both k h2 (by decide)
  simp only [lrc, show grant_Store_Rows (k + 1200) ⟨s.clients, s.consents⟩ = _ from a1, show holdfastref13_Store_Rows (k + 1200) ⟨r.c_, r.a⟩ = _ from a2, show grant_Store_Rows (k + 1200) ⟨g.clients, g.consents⟩ = _ from b1, show holdfastref13_Store_Rows (k + 1200) ⟨h.c_, h.a⟩ = _ from b2,
    Option.bind_some, same_rowsS k h1 (by decide), same_rowsS k h2 (by decide), if_true]
theorem nmd_of {K : Nat} (hK : 9223372036854775807 < K) {x : S_holdfastlaw13_Deed} (h : ok27 x) : NmD K x := by
  obtain ⟨_, h2, h3, _⟩ := h
  exact ⟨⟨Nat.lt_of_le_of_lt h2.1 hK, h2.1⟩, ⟨Nat.lt_of_le_of_lt h2.2 hK, h2.2⟩, ⟨Nat.lt_of_le_of_lt h3 hK, h3⟩⟩
theorem row_plays (l : List S_holdfastlaw13_Deed) (hl : ∀ a ∈ l, ok27 a) : ∃ K, holdfastlaw13_GrantPlays K l = some true :=
  ⟨9223372036854775808 + 1200, law_plays _ l fun y hy => nmd_of (by decide) (hl y hy)⟩
end Go.Proofs.YtjgbakieogadfaaGreatDoor
