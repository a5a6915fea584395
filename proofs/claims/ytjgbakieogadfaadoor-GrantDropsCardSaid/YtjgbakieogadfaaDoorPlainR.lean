import Derived.Test.YtjgbakieogadfaaDoorPlainC
namespace Go.Proofs.YtjgbakieogadfaaDoor
open Go L Go.Sort
def colC (t : List UInt8) (m : List (S_grant_name × S_api_Client)) : List S_api_Client := m.filterMap fun x => if x.1.tenant = t then some x.2 else none
def KV (m : List (S_grant_name × S_api_Client)) : Prop := ∀ x ∈ m, x.2.Tenant = x.1.tenant ∧ x.2.Name = x.1.name
theorem colC_len (t : List UInt8) (m : List (S_grant_name × S_api_Client)) : (colC t m).length ≤ m.length := List.length_filterMap_le _ _
instance {κ β : Type} [DecidableEq κ] (m : List (κ × β)) : Decidable (NDK m) := inferInstanceAs (Decidable (m.map (·.1)).Nodup)
theorem colC_fold (K : Nat) (t : List UInt8) : ∀ (l : List (S_grant_name × S_api_Client)) (out : List S_api_Client), out.length + l.length ≤ 2513169434916 → mfold (grant_Store_Clients.m1 K t) l out = some (.go (out ++ colC t l))
  | [], out, _ => by simp [mfold, colC]
  | x :: l, out, h => by
    simp only [List.length_cons] at h
    simp only [mfold, grant_Store_Clients.m1]
    by_cases hx : x.1.tenant = t
    · rw [if_pos (by simpa using hx)]
      have : app 2513169434916 out [x.2] = some (out ++ [x.2]) := by unfold app; rw [if_pos (by simp; omega)]
      simp only [Option.bind_some, this, lrc]
      rw [colC_fold K t l _ (by simp; omega)]
      simp [colC, hx]
    · rw [if_neg (by simpa using hx)]
      simp only [Option.bind_some, lrc]
      rw [colC_fold K t l _ (by omega)]
      simp [colC, hx]
theorem Clients_eq (K : Nat) (s : S_grant_Store) (t : List UInt8) (hn : NDK s.clients) (hk : KV s.clients) (hl : s.clients.length ≤ 1000) :
    grant_Store_Clients K s t = some (sortS (fun (a b : S_api_Client) => cmpS a.Name b.Name) (colC t s.clients)) := by
  unfold grant_Store_Clients
  refine mrngK_eq fun l hp => ?_
  have hll := hp.length_eq
  rw [colC_fold K t l [] (by simp; omega)]
  simp only [Option.bind_some, lrc, List.nil_append]
  unfold api_Client_23_f24
  rw [if_pos (Nat.lt_of_le_of_lt (colC_len t l) (by omega))]
  simp only [Option.bind_some]
  congr 1
  refine sortS_eq _ (swo_str fun a : S_api_Client => a.Name) (hp.filterMap _) fun a b ha hb h1 h2 => ?_
  unfold ltOf at h1 h2; rw [cmpS_dec] at h1 h2
  have hc : a.Name = b.Name := ltS_tri _ _ h2 h1
  obtain ⟨x, hx, hxe⟩ := List.mem_filterMap.1 ha
  obtain ⟨y, hy, hye⟩ := List.mem_filterMap.1 hb
  split at hxe
  · split at hye
    · rename_i ho1 ho2
      cases hxe; cases hye
      have kx := hk x (hp.mem_iff.1 hx)
      have ky := hk y (hp.mem_iff.1 hy)
      have hkk : x.1 = y.1 := by
        obtain ⟨⟨xo, xc⟩, xv⟩ := x; obtain ⟨⟨yo, yc⟩, yv⟩ := y
        simp only at ho1 ho2 kx ky hc; rw [kx.2, ky.2] at hc; subst hc; rw [ho1, ho2]
      have h3 := mem_mget hn (a := x.1) (v := x.2) (hp.mem_iff.1 hx)
      have h4 := mem_mget hn (a := y.1) (v := y.2) (hp.mem_iff.1 hy)
      rw [hkk] at h3; rw [h3] at h4
      exact Option.some.inj h4
    · cases hye
  · cases hxe
theorem live_eq (K : Nat) : holdfastlaw13_live K = some true := by
  unfold holdfastlaw13_live grant_New
  simp only [Option.bind_some]
  rw [Register_eq _ _ _ (by decide +kernel)]
  simp only [Option.bind_some]
  rw [Allow_eq _ _ _ (by decide +kernel) (by decide +kernel)]
  simp only [Option.bind_some]
  rw [May_eq]
  simp only [Option.bind_some]
  rw [Narrow_eq _ _ _ _ _ (by decide +kernel)]
  simp only [Option.bind_some]
  rw [May_eq]
  rfl
def rmStep (i : Nat) (s : S_grant_Store) : Int × Int × S_grant_Store :=
  let e := regS s ⟨[116], [iU8 (W ((97 : Int) + (i : Int)))], [], 1⟩
  let f := allowS e.2 ⟨⟨[116], [117]⟩, [iU8 (W ((97 : Int) + (i : Int)))], 1⟩
  (e.1, f.1, f.2)
def rmS : Nat → S_grant_Store
  | 0 => ⟨[], []⟩
  | i + 1 => (rmStep i (rmS i)).2.2
def rmOk (i : Nat) : Bool :=
  let s := rmS i
  let e := regS s ⟨[116], [iU8 (W ((97 : Int) + (i : Int)))], [], 1⟩
  let f := allowS e.2 ⟨⟨[116], [117]⟩, [iU8 (W ((97 : Int) + (i : Int)))], 1⟩
  decide (s.clients.length ≤ 1000) && decide (e.2.consents.length ≤ 1000) && decide ((e.2.consents.map (·.1)).Nodup) &&
  !((((!decide (decide (e.1 = (0 : Int)) = decide ((i : Int) < (4 : Int)))) || ((!decide (e.1 = (0 : Int))) && (!decide (e.1 = (24 : Int))))) || (!decide (decide (f.1 = (0 : Int)) = decide ((i : Int) < (4 : Int))))) || ((!decide (f.1 = (0 : Int))) && (!decide (f.1 = (4 : Int)))))
def rmEnd (i : Nat) : Bool :=
  let s := rmS i
  decide ((s.clients.map (·.1)).Nodup) && (s.clients.all fun x => decide (x.2.Tenant = x.1.tenant) && decide (x.2.Name = x.1.name)) && decide (s.clients.length ≤ 1000) && decide ((s.consents.map (·.1)).Nodup) && decide (s.consents.length ≤ 1000) &&
  decide ((colC [116] s.clients).length = (col ⟨[116], [117]⟩ s.consents).length) && decide ((dropUserS s ⟨[116], [117]⟩).1 ≤ 4) && decide ((col ⟨[116], [117]⟩ (dropUserS s ⟨[116], [117]⟩).2.consents).length = 0)
theorem rm_all : ((List.range 8).all fun i => rmOk i && rmEnd i) = true := by decide +kernel
theorem rm_loop (K : Nat) (n : UInt8) : ∀ (d i k : Nat), i + d = n.toNat % 8 → d < k → holdfastlaw13_GrantRooms.l1 K k n (rmS i).clients (rmS i).consents (i : Int) = some (.go ((rmS (i + d)).clients, (rmS (i + d)).consents))
  | d, i, 0, _, h => by omega
  | 0, i, k + 1, h, _ => by
    have ht : (n.toNat : Int).tmod 8 = ((n.toNat % 8 : Nat) : Int) := by rw [Int.tmod_eq_emod_of_nonneg (by omega)]; omega
    unfold holdfastlaw13_GrantRooms.l1
    rw [if_neg (by rw [ht]; simp; omega)]; rfl
  | d + 1, i, k + 1, h, hk => by
    have ht : (n.toNat : Int).tmod 8 = ((n.toNat % 8 : Nat) : Int) := by rw [Int.tmod_eq_emod_of_nonneg (by omega)]; omega
    have hi : i < 8 := by omega
    have ho := (List.all_eq_true.1 rm_all) i (by simpa using hi)
    rw [Bool.and_eq_true] at ho
    have ho := ho.1
    unfold rmOk at ho
    simp only [Bool.and_eq_true, decide_eq_true_eq, Bool.not_eq_true'] at ho
    obtain ⟨⟨⟨h1, h2⟩, h3⟩, h4⟩ := ho
    have ih := rm_loop K n d (i + 1) k (by omega) (by omega)
    have hw : W ((i : Int) + 1) = ((i + 1 : Nat) : Int) := by rw [W_id (by omega)]; omega
    unfold holdfastlaw13_GrantRooms.l1
    rw [if_pos (by rw [ht]; simp; omega)]
    simp only [Option.bind_some]
    rw [Register_eq K ⟨(rmS i).clients, (rmS i).consents⟩ _ h1]
    simp only [Option.bind_some]
    rw [Allow_eq K ⟨(regS ⟨(rmS i).clients, (rmS i).consents⟩ _).2.clients, (regS ⟨(rmS i).clients, (rmS i).consents⟩ _).2.consents⟩ _ h3 h2]
    simp only [Option.bind_some]
    rw [if_neg (by rw [Bool.not_eq_true]; exact h4), hw]
    have e : i + (d + 1) = i + 1 + d := by omega
    rw [e]
    exact ih
theorem law_rooms (K : Nat) (hK : 8 ≤ K) (n : UInt8) : holdfastlaw13_GrantRooms K n = some true := by
  unfold holdfastlaw13_GrantRooms grant_New
  simp only [Option.bind_some, live_eq, Bool.not_true, Bool.false_eq_true, if_false]
  have hl := rm_loop K n (n.toNat % 8) 0 K (by omega) (by omega)
  have he := (List.all_eq_true.1 rm_all) (n.toNat % 8) (by simp; omega)
  rw [Bool.and_eq_true] at he
  have he := he.2
  rw [Nat.zero_add] at hl
  generalize n.toNat % 8 = m at hl he
  rw [show holdfastlaw13_GrantRooms.l1 K K n [] [] 0 = some (.go ((rmS m).clients, (rmS m).consents)) from hl]
  simp only [Option.bind_some, lrc]
  unfold rmEnd at he
  generalize rmS m = s at he
  simp only [Bool.and_eq_true, decide_eq_true_eq] at he
  obtain ⟨⟨⟨⟨⟨⟨⟨h1, h2⟩, h3⟩, h4⟩, h5⟩, h6⟩, h7⟩, h8⟩ := he
  have hk : KV s.clients := fun x hx => by
    have := (List.all_eq_true.1 h2) x hx
    simpa using this
  have hn8 : NDK (dropUserS s ⟨[116], [117]⟩).2.consents := filter_nd _ h4
  have hl8 : (dropUserS s ⟨[116], [117]⟩).2.consents.length ≤ 1000 := Nat.le_trans (List.length_filter_le _ _) h5
  rw [Clients_eq K ⟨s.clients, s.consents⟩ [116] h1 hk h3]
  simp only [Option.bind_some]
  rw [Consents_eq K ⟨s.clients, s.consents⟩ ⟨[116], [117]⟩ h4 h5]
  simp only [Option.bind_some]
  have e1 : (sortS (fun (a b : S_api_Client) => cmpS a.Name b.Name) (colC [116] s.clients)).length = (colC [116] s.clients).length := (sortS_sorted _ (swo_str fun a : S_api_Client => a.Name) _).1.length_eq
  rw [if_pos (by simp only [decide_eq_true_eq]; rw [e1, sortCol_len]; omega)]
  rw [DropUser_eq K ⟨s.clients, s.consents⟩ ⟨[116], [117]⟩ h4 h5]
  simp only [Option.bind_some]
  rw [if_pos (by simpa using h7)]
  rw [Consents_eq K ⟨(dropUserS ⟨s.clients, s.consents⟩ ⟨[116], [117]⟩).2.clients, (dropUserS ⟨s.clients, s.consents⟩ ⟨[116], [117]⟩).2.consents⟩ ⟨[116], [117]⟩ hn8 hl8]
  simp only [Option.bind_some, sortCol_len]
  congr 1
  simp only [decide_eq_true_eq]
  have h9 : (col ⟨[116], [117]⟩ (dropUserS ⟨s.clients, s.consents⟩ ⟨[116], [117]⟩).2.consents).length = 0 := h8
  omega
end Go.Proofs.YtjgbakieogadfaaDoor
