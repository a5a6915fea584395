/-
  Keys: what is rotated is rotated alone; what is sealed anew is sealed by the current version. Plain Lean.
-/
import Derived.Test.YtjgbakieogadfabGreatDoorKeyP
namespace Go.Proofs.YtjgbakieogadfabGreatDoor
open Go L Go.Sort
variable {t : PT} {r : RT}
theorem copy_eq (K : Nat) (b : List UInt8) (h : b.length ≤ 140737488355328) : holdfastref01_Copy K b = some b := by
  unfold holdfastref01_Copy; rw [app_ok (by simpa using h)]; rfl
theorem rotTS_sealed (t : PT) (a b : List UInt8) : (rotTS t a b).2.2.sealed = t.sealed := by unfold rotTS; split; rfl; split <;> rfl
theorem desTS_sealed (t : PT) (a : List UInt8) : (desTS t a).2.sealed = t.sealed := by unfold desTS; split; rfl; split; rfl; split <;> rfl
theorem sealTS_sealed (t : PT) (h0 : 0 ≤ t.sealed) (a b p : List UInt8) : (sealTS t a b p).2.2.sealed ≤ t.sealed + 1 := by
  unfold sealTS; split
  · simp only; omega
  · split
    · simp only; omega
    · split
      · simp only; omega
      · simp only; rw [L.W_id (by omega) (by omega)]; exact Int.le_refl _
theorem reseTS_sealed (t : PT) (h0 : 0 ≤ t.sealed) (a b s : List UInt8) : (reseTS t a b s).2.2.2.sealed ≤ t.sealed + 1 := by
  unfold reseTS; split
  · simp only; omega
  · split
    · simp only; omega
    · exact sealTS_sealed t h0 a b _
theorem play_step (k : Nat) (lk) (e : S_holdfastlaw09_Deed) (hB : Bd2 (k + 1200) e.Tenant e.Purpose) (b : List UInt8) (hb1 : b.length ≤ 140737488355328) (hb2 : b.length + 1100 < k + 1200) (h : Rel t r) (last : List UInt8) (hl : last.length ≤ 1049) (i1 : Int) :
    ∃ t' r' last', Rel t' r' ∧ last'.length ≤ 1049 ∧ t'.sealed ≤ t.sealed + 1 ∧
      holdfastlaw09_play.j1 (k + 1200) lk e t.root t.sealed t.gone t.at_ r.root r.sealed r.gone r.l last i1 b = lk t'.root t'.sealed t'.gone t'.at_ r'.root r'.sealed r'.gone r'.l last' (W (i1 + 1)) := by
  unfold holdfastlaw09_play.j1
  rw [show (⟨t.root, t.sealed, t.gone, t.at_⟩ : PT) = t from rfl, show (⟨r.root, r.sealed, r.gone, r.l⟩ : RT) = r from rfl]
  by_cases h0 : e.Kind = 0
  · rw [if_pos (by simpa using h0), rot_eq _ t h.wf, Option.bind_some, h.rrot (k + 1200) _ _ (by omega) hB.la hB.lb hB.ba hB.bb, Option.bind_some]
    obtain ⟨e1, e2, e3⟩ := h.rot e.Tenant e.Purpose
    rw [if_neg (by rw [e1, e2]; simp)]
    exact ⟨_, _, last, e3, hl, by rw [rotTS_sealed]; omega, rfl⟩
  rw [if_neg (by simpa using h0)]
  by_cases h1 : e.Kind = 1
  · rw [if_pos (by simpa using h1), des_eq _ t h.an, Option.bind_some, h.rdes (k + 1200) _ (by omega) hB.la hB.ba, Option.bind_some]
    obtain ⟨e1, e3⟩ := h.des e.Tenant
    rw [if_neg (by rw [e1]; simp)]
    exact ⟨_, _, last, e3, hl, by rw [desTS_sealed]; omega, rfl⟩
  rw [if_neg (by simpa using h1)]
  by_cases h2 : e.Kind = 2
  · obtain ⟨r', e1, e3⟩ := h.rseal k e.Tenant e.Purpose hB b
    have hs := sealTS_len t e.Tenant e.Purpose b
    rw [if_pos (by simpa using h2), sealT_eq k t h.len h.wf, Option.bind_some, e1, Option.bind_some, same_dec _ _ _ (by omega) (by omega), Option.bind_some, if_neg (by simp)]
    exact ⟨_, _, _, e3, hs, sealTS_sealed t h.s0 _ _ _, rfl⟩
  rw [if_neg (by simpa using h2)]
  by_cases h3 : e.Kind = 3
  · have hs := openTS_len t e.Tenant e.Purpose b
    rw [if_pos (by simpa using h3), openT_eq k t h.len h.wf _ _ _ (by omega), Option.bind_some, h.ropen k e.Tenant e.Purpose hB b (by omega), Option.bind_some, same_dec _ _ _ (by omega) (by omega), Option.bind_some, if_neg (by simp)]
    exact ⟨t, r, last, h, hl, by omega, rfl⟩
  rw [if_neg (by simpa using h3)]
  by_cases h4 : e.Kind = 4
  · obtain ⟨r', e1, e3⟩ := h.rrese k e.Tenant e.Purpose hB b hb1
    have hs := reseTS_len t e.Tenant e.Purpose b
    rw [if_pos (by simpa using h4), rese_eq k t h.len h.wf _ _ _ hb1, Option.bind_some, e1, Option.bind_some, same_dec _ _ _ (by omega) (by omega), Option.bind_some, if_neg (by simp)]
    exact ⟨_, _, last, e3, hl, reseTS_sealed t h.s0 _ _ _, rfl⟩
  rw [if_neg (by simpa using h4), keyA_eq k t h.len h.wf, Option.bind_some, h.rkey k e.Tenant e.Purpose hB, Option.bind_some, cur_eq, Option.bind_some, h.rcur (k + 1200) _ _ (by omega) hB.la hB.lb hB.ba hB.bb, Option.bind_some, if_neg (by simp)]
  exact ⟨t, r, last, h, hl, by omega, rfl⟩
/-- what is asked of a deed's texts -/
structure DB (K : Nat) (x : S_holdfastlaw09_Deed) : Prop where
  b : Bd2 K x.Tenant x.Purpose
  b1 : x.Bytes.length ≤ 140737488355328
  b2 : x.Bytes.length + 1100 < K
theorem play_l1 (k : Nat) (hk : 1200 ≤ k) (l : List S_holdfastlaw09_Deed) (hB : ∀ x, x ∈ l → DB (k + 1200) x) (hl : l.length < 4611686018427387904) : ∀ (n i m : Nat) (t : PT) (r : RT) (last : List UInt8), i + n = min l.length 60 → n < m → Rel t r → last.length ≤ 1049 →
    ∃ t' r', Rel t' r' ∧ t'.sealed ≤ t.sealed + n ∧ holdfastlaw09_play.l1 (k + 1200) m l t.root t.sealed t.gone t.at_ r.root r.sealed r.gone r.l last (i : Int) = some (.go (t'.root, t'.sealed, t'.gone, t'.at_, r'.root, r'.sealed, r'.gone, r'.l))
  | 0, i, m + 1, t, r, last, h1, _, h, _ => ⟨t, r, h, by omega, by
    rw [holdfastlaw09_play.l1, if_neg (by simp only [Bool.and_eq_true, decide_eq_true_eq]; omega)]⟩
  | n + 1, i, m + 1, t, r, last, h1, h2, h, hla => by
    have hi : i < l.length := by omega
    have hm : l.getD i default ∈ l := by rw [List.getD_eq_getElem?_getD, List.getElem?_eq_getElem hi]; exact List.getElem_mem hi
    have hD := hB _ hm
    rw [holdfastlaw09_play.l1, if_pos (by simp only [Bool.and_eq_true, decide_eq_true_eq]; omega), gt_nat default hi, Option.bind_some, copy_eq _ _ hD.b1, Option.bind_some]
    have fin : ∀ b : List UInt8, b.length ≤ 140737488355328 → b.length + 1100 < k + 1200 → ∃ t' r', Rel t' r' ∧ t'.sealed ≤ t.sealed + ((n + 1 : Nat) : Int) ∧
        holdfastlaw09_play.j1 (k + 1200) (holdfastlaw09_play.l1 (k + 1200) m l) (l.getD i default) t.root t.sealed t.gone t.at_ r.root r.sealed r.gone r.l last (i : Int) b = some (.go (t'.root, t'.sealed, t'.gone, t'.at_, r'.root, r'.sealed, r'.gone, r'.l)) := by
      intro b hb1 hb2
      obtain ⟨t1, r1, la1, g1, g2, g3, g4⟩ := play_step k (holdfastlaw09_play.l1 (k + 1200) m l) (l.getD i default) hD.b b hb1 hb2 h last hla (i : Int)
      obtain ⟨t', r', k1, k2, k3⟩ := play_l1 k hk l hB hl n (i + 1) m t1 r1 la1 (by omega) (by omega) g1 g2
      refine ⟨t', r', k1, by omega, ?_⟩
      rw [g4, W_succ (by omega), k3]
    by_cases hL : (l.getD i default).Last = true
    · rw [if_pos hL, copy_eq _ _ (by omega), Option.bind_some]
      exact fin last (by omega) (by omega)
    · rw [if_neg hL]
      exact fin _ hD.b1 hD.b2
theorem play_eq (k : Nat) (hk : 1200 ≤ k) (l : List S_holdfastlaw09_Deed) (hB : ∀ x, x ∈ l → DB (k + 1200) x) (hl : l.length < 4611686018427387904) (h : Rel t r) :
    ∃ t' r', Rel t' r' ∧ t'.sealed ≤ t.sealed + 60 ∧ holdfastlaw09_play (k + 1200) t r l = some (true, t', r') := by
  obtain ⟨t', r', h1, h2, h3⟩ := play_l1 k hk l hB hl (min l.length 60) 0 (k + 1200) t r [] (by omega) (by omega) h (by simp)
  refine ⟨t', r', h1, by omega, ?_⟩
  unfold holdfastlaw09_play
  rw [show (0 : Int) = ((0 : Nat) : Int) from rfl, h3]; rfl
theorem rel0 (root : List UInt8) (hr : root.length = 32) : Rel ⟨root, 0, [], []⟩ ⟨root, 0, [], []⟩ :=
  ⟨rfl, hr, rfl, (show (0 : Int) ≤ 0 by decide), (show (0 : Int) ≤ 1099511627776 by decide), rfl, (fun p hp => by cases hp), List.nodup_nil, (show (0 : Nat) ≤ 16 by decide), List.nodup_nil, (show (0 : Nat) ≤ 16 by decide), (fun p hp => by cases hp), List.Perm.refl _⟩
/-! what is rotated is rotated alone -/
def nC : List UInt8 := [99]
def nO : List UInt8 := [111, 116, 104, 101, 114]
theorem cur_rot (t : PT) {a b c d : List UInt8} (hne : (⟨c, d⟩ : S_keys_purpose) ≠ ⟨a, b⟩) : curS (rotTS t a b).2.2 c d = curS t c d := by
  unfold rotTS
  split
  · rfl
  · split
    · rfl
    · unfold curS; simp only [mget_mset, if_neg hne]
theorem cur_des (t : PT) {a c d : List UInt8} (hne : c ≠ a) : curS (desTS t a).2 c d = curS t c d := by
  unfold desTS
  split
  · rfl
  · split
    · rfl
    · split
      · rfl
      · unfold curS
        have e : mget (t.at_.filter fun p => !decide (p.1.tenant = a)) (⟨c, d⟩ : S_keys_purpose) = mget t.at_ ⟨c, d⟩ := by
          have := mget_filter (m := t.at_) (fun k : S_keys_purpose => !decide (k.tenant = a)) ⟨c, d⟩
          rw [this, if_pos (by simpa using hne)]
        simp only [e, mget_mset, if_neg hne]
theorem rotTS_root (t : PT) (a b : List UInt8) : (rotTS t a b).2.2.root = t.root := by unfold rotTS; split; rfl; split <;> rfl
theorem desTS_root (t : PT) (a : List UInt8) : (desTS t a).2.root = t.root := by unfold desTS; split; rfl; split; rfl; split <;> rfl
theorem keyAS_congr {t u : PT} {a b : List UInt8} (h1 : u.root = t.root) (h2 : curS u a b = curS t a b) (n : Int) : keyAS u a b n = keyAS t a b n := by unfold keyAS; rw [h1, h2]
theorem law_apart (root : List UInt8) (l : List S_holdfastlaw09_Deed) (x : S_holdfastlaw09_Deed) (hr : root.length = 32) (k : Nat) (hk : 1200 ≤ k) (hB : ∀ x, x ∈ l → DB (k + 1200) x) (hl : l.length < 4611686018427387904) :
    holdfastlaw09_KeysApart (k + 1200) root l x = some true := by
  unfold holdfastlaw09_KeysApart keys_New holdfastref09_New
  rw [Option.bind_some, Option.bind_some, live_true k, Option.bind_some, if_neg (by simp)]
  obtain ⟨t, r, h, _, hp⟩ := play_eq k hk l hB hl (rel0 root hr)
  show (((holdfastlaw09_play (k + 1200) (⟨root, 0, [], []⟩ : PT) (⟨root, 0, [], []⟩ : RT) l).bind fun r_3 => some (!r_3.1, r_3.2.1.root, r_3.2.1.sealed, r_3.2.1.gone, r_3.2.1.at_)).bind _) = _
  rw [hp, Option.bind_some, Option.bind_some, if_neg (by simp)]
  show ((keys_Tree_Current (k + 1200) t nC nO).bind fun r_4 => (keys_Tree_Key (k + 1200) t nC nO r_4.1).bind fun r_5 => if (decide (x.Tenant = nC) && decide (x.Purpose = nO)) = true then some true else (keys_Tree_Rotate (k + 1200) t x.Tenant x.Purpose).bind fun r_6 =>
    if (decide (x.Kind = 1) && !decide (x.Tenant = nC)) = true then (keys_Tree_Destroy (k + 1200) r_6.2.2 x.Tenant).bind fun r_7 => holdfastlaw09_KeysApart.j1 (k + 1200) r_4 r_5 r_7.2.root r_7.2.sealed r_7.2.gone r_7.2.at_
    else holdfastlaw09_KeysApart.j1 (k + 1200) r_4 r_5 r_6.2.2.root r_6.2.2.sealed r_6.2.2.gone r_6.2.2.at_) = _
  rw [cur_eq, Option.bind_some, keyA_eq k t h.len h.wf, Option.bind_some]
  by_cases hx : x.Tenant = nC ∧ x.Purpose = nO
  · rw [if_pos (by simpa using hx)]
  · rw [if_neg (by simpa using hx), rot_eq _ t h.wf, Option.bind_some]
    obtain ⟨_, _, h2⟩ := h.rot x.Tenant x.Purpose
    have hc : curS (rotTS t x.Tenant x.Purpose).2.2 nC nO = curS t nC nO := cur_rot t (fun e => hx (by
      simp only [S_keys_purpose.mk.injEq] at e; exact ⟨e.1.symm, e.2.symm⟩))
    have fin : ∀ u : PT, ∀ s : RT, Rel u s → u.root = t.root → curS u nC nO = curS t nC nO →
        holdfastlaw09_KeysApart.j1 (k + 1200) (curS t nC nO) (keyAS t nC nO (curS t nC nO).1) u.root u.sealed u.gone u.at_ = some true := by
      intro u s hu h3 h4
      unfold holdfastlaw09_KeysApart.j1
      show ((keys_Tree_Current (k + 1200) u nC nO).bind fun r_8 => (keys_Tree_Key (k + 1200) u nC nO r_8.1).bind _) = _
      rw [cur_eq, Option.bind_some, keyA_eq k u hu.len hu.wf, Option.bind_some, h4, keyAS_congr h3 h4]
      simp
    by_cases hd : x.Kind = 1 ∧ ¬ x.Tenant = nC
    · rw [if_pos (by simpa using hd), des_eq _ _ h2.an, Option.bind_some]
      obtain ⟨_, h3⟩ := h2.des x.Tenant
      exact fin _ _ h3 (by rw [desTS_root, rotTS_root]) (by rw [cur_des _ (fun e => hd.2 e.symm), hc])
    · rw [if_neg (by simpa using hd)]
      exact fin _ _ h2 (rotTS_root _ _ _) hc
/-! what is sealed anew -/
theorem rot_cur (h : Rel t r) (a b : List UInt8) (hc : (curS t a b).2 = 0) : (curS (rotTS t a b).2.2 a b).2 = 0 ∧ ((curS (rotTS t a b).2.2 a b).1 = (curS t a b).1 ∨ (curS (rotTS t a b).2.2 a b).1 = (curS t a b).1 + 1) := by
  obtain ⟨ha, hb, hg, h1, h16⟩ := cur_ok h.wf hc
  unfold rotTS
  rw [if_neg (show ¬ (curS t a b).2 ≠ 0 by simp [hc])]
  split
  · exact ⟨hc, .inl rfl⟩
  · have e : curS (⟨t.root, t.sealed, t.gone, mset t.at_ ⟨a, b⟩ ((curS t a b).1 + 1)⟩ : PT) a b = ((curS t a b).1 + 1, 0) := by
      rw [curS, if_neg (by simp [ha, hb]), if_neg (by simp [hg])]
      simp only [mget_mset, if_true, Option.getD_some, maxI]
      rw [if_neg (by omega)]
    show (curS (⟨t.root, t.sealed, t.gone, mset t.at_ ⟨a, b⟩ ((curS t a b).1 + 1)⟩ : PT) a b).2 = 0 ∧ _
    exact ⟨by rw [e], .inr (by show (curS (⟨t.root, t.sealed, t.gone, mset t.at_ ⟨a, b⟩ ((curS t a b).1 + 1)⟩ : PT) a b).1 = _; rw [e])⟩
theorem seal_parts {t : PT} {a b p : List UInt8} (h : (sealTS t a b p).2.1 = 0) : (curS t a b).2 = 0 ∧ p.length ≤ 1024 ∧ t.sealed < 1099511627776 := by
  unfold sealTS at h
  split at h
  · exact absurd h ‹_›
  · rename_i h0
    split at h
    · exact absurd h ‹_›
    · rename_i h2
      split at h
      · cases h
      · rename_i h3
        refine ⟨by simpa using h0, ?_, by omega⟩
        unfold sealA at h2
        by_cases hp : p.length ≤ 1024
        · exact hp
        · rw [if_neg hp] at h2; exact absurd (by decide) h2
theorem iU8_ver {v : Int} (h1 : 1 ≤ v) (h2 : v ≤ 16) : ((iU8 v).toNat : Int) = v := by unfold iU8; rw [UInt8.toNat_ofNat']; omega
/-- a text of the current version is sealed anew as itself -/
theorem rese_same {t : PT} {a b s p : List UInt8} {v : Int} (ho : openTS t a b s = (p, v, 0)) (hv : (curS t a b).1 = v) : reseTS t a b s = (s, false, 0, t) := by
  unfold reseTS; rw [ho, if_neg (show ¬ (0 : Int) ≠ 0 by simp), if_pos hv]
theorem law_lazy (root : List UInt8) (l : List S_holdfastlaw09_Deed) (p : List UInt8) (hr : root.length = 32) (k : Nat) (hk : 1200 ≤ k) (hB : ∀ x, x ∈ l → DB (k + 1200) x) (hl : l.length < 4611686018427387904) :
    holdfastlaw09_KeysLazy (k + 1200) root l p = some true := by
  unfold holdfastlaw09_KeysLazy keys_New holdfastref09_New
  rw [Option.bind_some, Option.bind_some, live_true k, Option.bind_some, if_neg (by simp)]
  obtain ⟨t, r, h, hs60, hp⟩ := play_eq k hk l hB hl (rel0 root hr)
  show (((holdfastlaw09_play (k + 1200) (⟨root, 0, [], []⟩ : PT) (⟨root, 0, [], []⟩ : RT) l).bind fun r_3 => some (!r_3.1, r_3.2.1.root, r_3.2.1.sealed, r_3.2.1.gone, r_3.2.1.at_)).bind _) = _
  rw [hp, Option.bind_some, Option.bind_some, if_neg (by simp)]
  show ((keys_Tree_Seal (k + 1200) t nA nB p).bind _) = _
  rw [sealT_eq k t h.len h.wf, Option.bind_some]
  by_cases he : (sealTS t nA nB p).2.1 = 0
  · rw [if_neg (by simp [he])]
    obtain ⟨c0, lp, ls⟩ := seal_parts he
    have hs60' : t.sealed ≤ 60 := by simpa using hs60
    obtain ⟨_, _, _, v1, v16⟩ := cur_ok h.wf c0
    have hBd : Bd2 (k + 1200) nA nB := ⟨by show 1 < _; omega, by show 1 < _; omega, by show 1 < 4611686018427387904; omega, by show 1 < 4611686018427387904; omega⟩
    obtain ⟨r1, _, h1⟩ := h.rseal k nA nB hBd p
    have e0 := seal_ok (t := t) (a := nA) (b := nB) (p := p) c0 lp ls
    have hw1 : W (t.sealed + 1) = t.sealed + 1 := L.W_id (by have := h.s0; omega) (by omega)
    have hc1 : curS (sealTS t nA nB p).2.2 nA nB = curS t nA nB := by rw [e0]; rfl
    have hsl := sealTS_len t nA nB p
    generalize hst : sealTS t nA nB p = st at *
    rw [rot_eq _ _ h1.wf]
    show ((some (rotTS st.2.2 nA nB)).bind _) = _
    rw [Option.bind_some]
    obtain ⟨_, _, h2⟩ := h1.rot nA nB
    obtain ⟨c2, hv⟩ := rot_cur h1 nA nB (by rw [hc1]; exact c0)
    rw [hc1] at hv
    have hroot : (rotTS st.2.2 nA nB).2.2.root = t.root := by rw [rotTS_root, e0]
    have hsea : (rotTS st.2.2 nA nB).2.2.sealed = t.sealed + 1 := by rw [rotTS_sealed, e0]; exact hw1
    generalize hrt : (rotTS st.2.2 nA nB).2.2 = t2 at *
    have o2 : openTS t2 nA nB st.1 = (p, (curS t nA nB).1, 0) := by
      have := open_seal (t := t) (t' := t2) h.wf (a := nA) (b := nB) (p := p) (by rw [hst]; exact he) hroot c2 (by rcases hv with e | e <;> omega)
      rwa [hst] at this
    have hst1 : st.1 = iU8 (curS t nA nB).1 :: sealS (keyS t.root nA nB (curS t nA nB).1.toNat) (iU64 t.sealed) p := by rw [e0]
    have g1 : gt st.1 (0 : Int) = some (iU8 (curS t nA nB).1) := by rw [hst1]; rfl
    show ((keys_Tree_Reseal (k + 1200) t2 nA nB st.1).bind _) = _
    rw [rese_eq k t2 h2.len h2.wf _ _ _ (by omega), Option.bind_some]
    rcases hv with hv | hv
    · have q1 := rese_same o2 hv
      rw [q1]
      show ((keys_Tree_Reseal (k + 1200) t2 nA nB st.1).bind _) = _
      rw [rese_eq k t2 h2.len h2.wf _ _ _ (by omega), Option.bind_some, q1]
      show ((keys_Tree_Current (k + 1200) t2 nA nB).bind _) = _
      rw [cur_eq, Option.bind_some]
      simp only [same_dec (k + 1200) st.1 st.1 (by omega) (by omega), g1, Option.bind_some, hv, iU8_ver v1 v16]
      simp
    · have ho : (openTS t2 nA nB st.1).2.2 = 0 := by rw [o2]
      have s3 := seal_ok (t := t2) (a := nA) (b := nB) (p := p) c2 lp (by omega)
      have he3 : (sealTS t2 nA nB p).2.1 = 0 := by rw [s3]
      have q1 : reseTS t2 nA nB st.1 = ((sealTS t2 nA nB p).1, true, 0, (sealTS t2 nA nB p).2.2) := by
        unfold reseTS; rw [o2, if_neg (show ¬ (0 : Int) ≠ 0 by simp), if_neg (by show ¬ (curS t2 nA nB).1 = (curS t nA nB).1; omega)]
        simp only [he3, decide_true]
      obtain ⟨r3, _, h3⟩ := h2.rseal k nA nB hBd p
      have hc3 : curS (sealTS t2 nA nB p).2.2 nA nB = curS t2 nA nB := by rw [s3]; rfl
      have o3 := open_seal (t := t2) (t' := (sealTS t2 nA nB p).2.2) h2.wf (a := nA) (b := nB) (p := p) he3 (by rw [s3]) (by rw [hc3]; exact c2) (by rw [hc3]; exact Int.le_refl _)
      have q2 := rese_same o3 (by rw [hc3])
      have hl3 := sealTS_len t2 nA nB p
      obtain ⟨_, _, _, w1, w16⟩ := cur_ok h2.wf c2
      have g3 : gt (sealTS t2 nA nB p).1 (0 : Int) = some (iU8 (curS t2 nA nB).1) := by rw [s3]; rfl
      rw [q1]
      show ((keys_Tree_Reseal (k + 1200) (sealTS t2 nA nB p).2.2 nA nB (sealTS t2 nA nB p).1).bind _) = _
      rw [rese_eq k _ h3.len h3.wf _ _ _ (by omega), Option.bind_some, q2]
      show ((keys_Tree_Current (k + 1200) (sealTS t2 nA nB p).2.2 nA nB).bind _) = _
      rw [cur_eq, Option.bind_some, hc3]
      simp only [same_dec (k + 1200) (sealTS t2 nA nB p).1 (sealTS t2 nA nB p).1 (by omega) (by omega), g1, g3, Option.bind_some, iU8_ver v1 v16, iU8_ver w1 w16]
      simp
      omega
  · rw [if_pos (by simpa using he)]
end Go.Proofs.YtjgbakieogadfabGreatDoor
