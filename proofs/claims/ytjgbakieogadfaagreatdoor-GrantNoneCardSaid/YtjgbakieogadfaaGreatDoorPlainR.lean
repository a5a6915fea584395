import Derived.Test.YtjgbakieogadfaaGreatDoorPlainC
namespace Go.Proofs.YtjgbakieogadfaaGreatDoor
open Go L Go.Sort
def colC (t : List UInt8) (m : List (S_grant_name × S_api_Client)) : List S_api_Client := m.filterMap fun x => if x.1.tenant = t then some x.2 else none
def KV (m : List (S_grant_name × S_api_Client)) : Prop := ∀ x ∈ m, x.2.Tenant = x.1.tenant ∧ x.2.Name = x.1.name
theorem colC_len (t : List UInt8) (m : List (S_grant_name × S_api_Client)) : (colC t m).length ≤ m.length := List.length_filterMap_le _ _
instance {κ β : Type} [DecidableEq κ] (m : List (κ × β)) : Decidable (NDK m) := inferInstanceAs (Decidable (m.map (·.1)).Nodup)
theorem colC_fold (K : Nat) (t : List UInt8) : ∀ (l : List (S_grant_name × S_api_Client)) (out : List S_api_Client), out.length + l.length ≤ 2513169434916 → mfold (grant_Store_Clients.m1 K t) l out = some (.go (out ++ colC t l))
  | [], out, _ => by simp [mfold, colC]
  | x :: l, out, h => by
    simp only [List.length_cons] at h
    simp only [mfold, grant_Store_Clients.m1]
    by_cases hx : x.1.tenant = t
    · rw [if_pos (by simpa using hx)]
      have : app 2513169434916 out [x.2] = some (out ++ [x.2]) := by unfold app; rw [if_pos (by simp; omega)]
      simp only [Option.bind_some, this, lrc]
      rw [colC_fold K t l _ (by simp; omega)]
      simp [colC, hx]
    · rw [if_neg (by simpa using hx)]
      simp only [Option.bind_some, lrc]
      rw [colC_fold K t l _ (by omega)]
      simp [colC, hx]
theorem Clients_eq (K : Nat) (s : S_grant_Store) (t : List UInt8) (hn : NDK s.clients) (hk : KV s.clients) (hl : s.clients.length ≤ 1000) :
    grant_Store_Clients K s t = some (sortS (fun (a b : S_api_Client) => cmpS a.Name b.Name) (colC t s.clients)) := by
  unfold grant_Store_Clients
  refine mrngK_eq fun l hp => ?_
  have hll := hp.length_eq
  rw [colC_fold K t l [] (by simp; omega)]
  simp only [Option.bind_some, lrc, List.nil_append]
  unfold api_Client_56_f57
  rw [if_pos (Nat.lt_of_le_of_lt (colC_len t l) (by omega))]
  simp only [Option.bind_some]
  congr 1
  refine sortS_eq _ (swo_str fun a : S_api_Client => a.Name) (hp.filterMap _) fun a b ha hb h1 h2 => ?_
  unfold ltOf at h1 h2; rw [cmpS_dec] at h1 h2
  have hc : a.Name = b.Name := ltS_tri _ _ h2 h1
  obtain ⟨x, hx, hxe⟩ := List.mem_filterMap.1 ha
  obtain ⟨y, hy, hye⟩ := List.mem_filterMap.1 hb
  split at hxe
  · split at hye
    · rename_i ho1 ho2
      cases hxe; cases hye
      have kx := hk x (hp.mem_iff.1 hx)
      have ky := hk y (hp.mem_iff.1 hy)
      have hkk : x.1 = y.1 := by
        obtain ⟨⟨xo, xc⟩, xv⟩ := x; obtain ⟨⟨yo, yc⟩, yv⟩ := y
        simp only at ho1 ho2 kx ky hc; rw [kx.2, ky.2] at hc; subst hc; rw [ho1, ho2]
      have h3 := mem_mget hn (a := x.1) (v := x.2) (hp.mem_iff.1 hx)
      have h4 := mem_mget hn (a := y.1) (v := y.2) (hp.mem_iff.1 hy)
      rw [hkk] at h3; rw [h3] at h4
      exact Option.some.inj h4
    · cases hye
  · cases hxe
theorem live_eq (K : Nat) : holdfastlaw13_live K = some true := by
  unfold holdfastlaw13_live grant_New
  simp only [Option.bind_some]
  rw [Register_eq _ _ _ (by decide +kernel)]
  simp only [Option.bind_some]
  rw [Allow_eq _ _ _ (by decide +kernel) (by decide +kernel)]
  simp only [Option.bind_some]
  rw [May_eq]
  simp only [Option.bind_some]
  rw [Narrow_eq _ _ _ _ _ (by decide +kernel)]
  simp only [Option.bind_some]
  rw [May_eq]
  rfl
end Go.Proofs.YtjgbakieogadfaaGreatDoor
