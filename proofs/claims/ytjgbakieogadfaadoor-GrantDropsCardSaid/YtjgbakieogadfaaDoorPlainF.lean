import Derived.Test.YtjgbakieogadfaaDoorPlainE
import Derived.Test.YtjgbakieogadfaaDoorPlainR
namespace Go.Proofs.YtjgbakieogadfaaDoor
open Go L Go.Sort
theorem inv0 : Inv 0 ⟨[], []⟩ := ⟨List.nodup_nil, List.nodup_nil, Nat.le_refl _, Nat.le_refl _, fun u x h => by simp [mget] at h⟩
theorem law_narrow (K : Nat) (hK : 1000 < K) (l : List S_holdfastlaw13_Deed) (x : S_holdfastlaw13_Deed) (hl : ∀ y ∈ l, NmD K y) : holdfastlaw13_GrantNarrow K l x = some true := by
  unfold holdfastlaw13_GrantNarrow grant_New holdfastref13_New
  simp only [Option.bind_some, live_eq, Bool.not_true, Bool.false_eq_true, if_false]
  obtain ⟨q, h1, h2⟩ := nar_loop K hK l hl K 0 [] [] [] [] (by omega) (by omega) inv0 ⟨Nat.le_refl _, Nat.le_refl _⟩
  rw [show holdfastlaw13_GrantNarrow.l1 K K l [] [] [] [] 0 = some q from h1]
  simp only [Option.bind_some]
  generalize hs : (⟨q.1, q.2⟩ : S_grant_Store) = s at h2
  rw [Consent_eq, Client_eq, May_eq]
  simp only [Option.bind_some]
  cases hc : mget s.consents ⟨x.Owner, x.Client⟩ with
  | none =>
    have e1 : conS s x.Owner x.Client = (⟨⟨[], []⟩, [], 0⟩, 4) := by unfold conS; rw [hc]
    have e2 : mayS s x.Owner x.Client x.Redirect x.Scopes ≠ 0 := by
      unfold mayS; rw [e1]
      split
      · assumption
      · simp
    simp [e1, e2]
  | some a =>
    obtain ⟨c, hg, ha⟩ := h2.nar _ a hc
    have e1 : conS s x.Owner x.Client = (⟨x.Owner, x.Client, a⟩, 0) := by unfold conS; rw [hc]
    have e2 : lookS s x.Owner.Tenant x.Client = (c, 0) := by unfold lookS; rw [hg]
    rw [if_neg (by simp [e1, e2, ha])]
    congr 1
    by_cases h3 : mayS s x.Owner x.Client x.Redirect x.Scopes = 0
    · unfold mayS at h3
      rw [e1, e2] at h3
      by_cases h4 : c.Redirect = x.Redirect
      · by_cases h5 : x.Scopes &&& ~~~a = 0
        · have h6 := and_not h5
          have h7 := and_trans8 h6 ha
          simp [e1, e2, h6, h7, h4]
        · simp [h4, h5] at h3
      · simp [h4] at h3
    · simp [h3]
theorem law_drops (K : Nat) (hK : 1000 < K) (l : List S_holdfastlaw13_Deed) (x : S_holdfastlaw13_Deed) (other : List UInt8) (hl : ∀ y ∈ l, NmD K y) : holdfastlaw13_GrantDrops K l x other = some true := by
  unfold holdfastlaw13_GrantDrops grant_New holdfastref13_New
  simp only [Option.bind_some, live_eq, Bool.not_true, Bool.false_eq_true, if_false]
  obtain ⟨q, h1, h2⟩ := drp_loop K hK l hl K 0 [] [] [] [] (by omega) (by omega) inv0 ⟨Nat.le_refl _, Nat.le_refl _⟩
  rw [show holdfastlaw13_GrantDrops.l1 K K l [] [] [] [] 0 = some q from h1]
  simp only [Option.bind_some]
  generalize hs : (⟨q.1, q.2⟩ : S_grant_Store) = s at h2
  have h3 := inv_drop h2 x.Owner.Tenant x.Client
  rw [Consent_eq, Drop_eq K s _ _ h2.ns]
  simp only [Option.bind_some, Consent_eq, Client_eq]
  rw [Drop_eq K ⟨(dropS s x.Owner.Tenant x.Client).2.clients, (dropS s x.Owner.Tenant x.Client).2.consents⟩ _ _ h3.ns]
  simp only [Option.bind_some]
  cases hg : mget s.clients ⟨x.Owner.Tenant, x.Client⟩ with
  | none =>
    have e : dropS s x.Owner.Tenant x.Client = (4, s) := by unfold dropS; rw [hg]
    rw [if_pos (by rw [e]; rfl)]
  | some c =>
    have e : dropS s x.Owner.Tenant x.Client = (0, ⟨mdel s.clients ⟨x.Owner.Tenant, x.Client⟩, s.consents.filter fun q => !hit x.Owner.Tenant x.Client q.1⟩) := by unfold dropS; rw [hg]
    rw [if_neg (by rw [e]; simp)]
    have hh : hit x.Owner.Tenant x.Client ⟨x.Owner, x.Client⟩ = true := by unfold hit; simp
    have e4 : (conS ⟨(dropS s x.Owner.Tenant x.Client).2.clients, (dropS s x.Owner.Tenant x.Client).2.consents⟩ x.Owner x.Client).2 = 4 := by
      rw [e]; unfold conS; simp only [mget_hits, hh, if_true]
    have e5 : (lookS ⟨(dropS s x.Owner.Tenant x.Client).2.clients, (dropS s x.Owner.Tenant x.Client).2.consents⟩ x.Owner.Tenant x.Client).2 = 4 := by
      rw [e]; unfold lookS; simp only [mget_mdel h2.nc, if_true]
    have e6 : (dropS ⟨(dropS s x.Owner.Tenant x.Client).2.clients, (dropS s x.Owner.Tenant x.Client).2.consents⟩ x.Owner.Tenant x.Client).1 = 4 := by
      rw [e]; conv => lhs; unfold dropS
      simp only [mget_mdel h2.nc, if_true]
    rw [if_pos (by rw [e4, e5]; rfl)]
    simp only [Option.bind_some, e6]
    congr 1
    by_cases ho : other = x.Client
    · simp [ho]
    · have hn : ¬ hit x.Owner.Tenant x.Client ⟨x.Owner, other⟩ = true := by unfold hit; simp [ho]
      have e7 : conS ⟨(dropS s x.Owner.Tenant x.Client).2.clients, (dropS s x.Owner.Tenant x.Client).2.consents⟩ x.Owner other = conS s x.Owner other := by
        rw [e]; unfold conS; simp only [mget_hits, hn, if_false, Bool.false_eq_true]
      simp [e7]
end Go.Proofs.YtjgbakieogadfaaDoor
