/-
  Joined by strip.py from plain texts of another seat.
-/
import Derived.Test.YtjgbakieogadfabGreatDoorKeyLive
import Derived.Test.YtjgbakieogadfabGreatDoorKeyW
namespace Go.Proofs.YtjgbakieogadfabGreatDoor
open Go L Go.Sort
/-! names -/
def chS (c : UInt8) : Bool := ((decide ((97 : UInt8) ≤ c) && decide (c ≤ (122 : UInt8))) || (decide ((48 : UInt8) ≤ c) && decide (c ≤ (57 : UInt8)))) || decide (c = (45 : UInt8))
theorem chS_eq : ∀ c : UInt8, chS c = (([97, 98, 99, 100, 101, 102, 103, 104, 105, 106, 107, 108, 109, 110, 111, 112, 113, 114, 115, 116, 117, 118, 119, 120, 121, 122, 48, 49, 50, 51, 52, 53, 54, 55, 56, 57, 45] : List UInt8)).contains c := by
  have h : ∀ n : Fin 256, chS (UInt8.ofNat n.val) = (([97, 98, 99, 100, 101, 102, 103, 104, 105, 106, 107, 108, 109, 110, 111, 112, 113, 114, 115, 116, 117, 118, 119, 120, 121, 122, 48, 49, 50, 51, 52, 53, 54, 55, 56, 57, 45] : List UInt8)).contains (UInt8.ofNat n.val) := by decide +kernel
  intro c
  have := h ⟨c.toNat, c.toNat_lt⟩
  simpa using this
/-! what is gone -/
/-! versions -/
/-! keys -/
open Go L Go.Sort
abbrev PT := S_keys_Tree
/-! Rotate -/
def rotTS (t : PT) (a b : List UInt8) : Int × Int × PT :=
  if (curS t a b).2 ≠ 0 then (0, (curS t a b).2, t)
  else if 16 ≤ (curS t a b).1 ∨ (curS t a b).1 = 1 ∧ 16 ≤ (t.at_.length : Int) then (0, 7, t)
  else ((curS t a b).1 + 1, 0, ⟨t.root, t.sealed, t.gone, mset t.at_ ⟨a, b⟩ ((curS t a b).1 + 1)⟩)
theorem rot_eq (K : Nat) (t : PT) (hw : WF t) (a b : List UInt8) : keys_Tree_Rotate K t a b = some (rotTS t a b) := by
  unfold keys_Tree_Rotate rotTS
  rw [show (⟨t.root, t.sealed, t.gone, t.at_⟩ : S_keys_Tree) = t from rfl, cur_eq, Option.bind_some]
  by_cases h : (curS t a b).2 = 0
  · obtain ⟨_, _, _, h1, h16⟩ := cur_ok hw h
    rw [if_neg (show ¬ (curS t a b).2 ≠ 0 by simp [h]), if_neg (show ¬ (!decide ((curS t a b).2 = 0)) = true by simp [h])]
    by_cases h2 : 16 ≤ (curS t a b).1 ∨ (curS t a b).1 = 1 ∧ 16 ≤ (t.at_.length : Int)
    · rw [if_pos h2, if_pos (by simpa using h2)]
    · rw [if_neg h2, if_neg (by simpa using h2), Option.bind_some, show W ((curS t a b).1 + 1) = (curS t a b).1 + 1 from L.W_id (by omega) (by omega)]
  · rw [if_pos (show (curS t a b).2 ≠ 0 from h), if_pos (by simpa using h)]
theorem mset_perm {κ β : Type} [DecidableEq κ] {m : List (κ × β)} (k : κ) (v : β) (h : NDK m) : (mset m k v).Perm (m.filter (fun p => decide (p.1 ≠ k)) ++ [(k, v)]) := by
  induction m with
  | nil => exact List.Perm.refl _
  | cons x m ih =>
    unfold NDK at h; rw [List.map_cons, List.nodup_cons] at h
    simp only [mset]
    split
    · rename_i hx
      have e : m.filter (fun p => decide (p.1 ≠ k)) = m := List.filter_eq_self.2 fun p hp => by
        simp only [ne_eq, decide_not, Bool.not_eq_true', decide_eq_false_iff_not]
        exact fun e => h.1 (List.mem_map.2 ⟨p, hp, by rw [e, hx]⟩)
      rw [List.filter_cons_of_neg (by simp [hx]), e]
      subst hx
      exact (List.perm_append_singleton (x.1, v) m).symm
    · rename_i hx
      rw [List.filter_cons_of_pos (by simpa using hx)]
      exact (ih h.2).cons x
theorem mset_mem {κ β : Type} [DecidableEq κ] {m : List (κ × β)} {k : κ} {v : β} (h : NDK m) {p : κ × β} (hp : p ∈ mset m k v) : p = (k, v) ∨ p ∈ m ∧ p.1 ≠ k := by
  have := (mset_perm k v h).mem_iff.1 hp
  rcases List.mem_append.1 this with h1 | h1
  · rw [List.mem_filter] at h1; exact .inr ⟨h1.1, by simpa using h1.2⟩
  · exact .inl (by simpa using h1)
theorem mset_len_old {κ β : Type} [DecidableEq κ] {m : List (κ × β)} {k : κ} {v w : β} (h : mget m k = some w) : (mset m k v).length = m.length := by
  have h1 := congrArg List.length (mset_keys m k v)
  rw [if_pos (List.mem_map.2 ⟨_, mget_mem h, rfl⟩)] at h1
  simpa using h1
open Go L Go.Sort
/-! Destroy -/
def reseTS (t : PT) (a b s : List UInt8) : List UInt8 × Bool × Int × PT :=
  if (openTS t a b s).2.2 ≠ 0 then ([], false, (openTS t a b s).2.2, t) else if (curS t a b).1 = (openTS t a b s).2.1 then (s, false, 0, t)
  else ((sealTS t a b (openTS t a b s).1).1, decide ((sealTS t a b (openTS t a b s).1).2.1 = 0), (sealTS t a b (openTS t a b s).1).2.1, (sealTS t a b (openTS t a b s).1).2.2)
theorem rese_eq (k : Nat) (t : PT) (hr : t.root.length = 32) (hw : WF t) (a b s : List UInt8) (hs : s.length ≤ 140737488355328) : keys_Tree_Reseal (k + 1200) t a b s = some (reseTS t a b s) := by
  unfold keys_Tree_Reseal reseTS
  rw [show (⟨t.root, t.sealed, t.gone, t.at_⟩ : S_keys_Tree) = t from rfl, openT_eq k t hr hw a b s (by omega), Option.bind_some]
  by_cases h1 : (openTS t a b s).2.2 = 0
  · rw [if_neg (show ¬ (openTS t a b s).2.2 ≠ 0 by simp [h1]), if_neg (by simp [h1]), cur_eq, Option.bind_some]
    by_cases h2 : (curS t a b).1 = (openTS t a b s).2.1
    · rw [if_pos h2, if_pos (by simpa using h2)]
      unfold bytes_Clone
      rw [app_ok (by simpa using hs), Option.bind_some]; rfl
    · rw [if_neg h2, if_neg (by simpa using h2), sealT_eq k t hr hw, Option.bind_some]
  · rw [if_pos (show (openTS t a b s).2.2 ≠ 0 from h1), if_pos (by simpa using h1)]
/-! lengths -/
theorem sealTS_len (t : PT) (a b p : List UInt8) : (sealTS t a b p).1.length ≤ 1049 := by
  unfold sealTS
  split
  · simp
  · split
    · simp
    · split
      · simp
      · have := sealA_len (keyS t.root a b (curS t a b).1.toNat) (iU64 t.sealed) p
        simp only [List.length_cons]; omega
theorem openTS_len (t : PT) (a b s : List UInt8) : (openTS t a b s).1.length ≤ 1024 := by
  unfold openTS
  split
  · simp
  · split
    · simp
    · split
      · simp
      · split
        · simp
        · exact openS_len _ _
theorem reseTS_len (t : PT) (a b s : List UInt8) : (reseTS t a b s).1.length ≤ s.length + 1049 := by
  unfold reseTS
  split
  · simp
  · split
    · simp
    · have := sealTS_len t a b (openTS t a b s).1
      simp only; omega
open Go L Go.Sort
theorem rotTS_sealed (t : PT) (a b : List UInt8) : (rotTS t a b).2.2.sealed = t.sealed := by unfold rotTS; split; rfl; split <;> rfl
theorem sealTS_sealed (t : PT) (h0 : 0 ≤ t.sealed) (a b p : List UInt8) : (sealTS t a b p).2.2.sealed ≤ t.sealed + 1 := by
  unfold sealTS; split
  · simp only; omega
  · split
    · simp only; omega
    · split
      · simp only; omega
      · simp only; rw [L.W_id (by omega) (by omega)]; exact Int.le_refl _
theorem reseTS_sealed (t : PT) (h0 : 0 ≤ t.sealed) (a b s : List UInt8) : (reseTS t a b s).2.2.2.sealed ≤ t.sealed + 1 := by
  unfold reseTS; split
  · simp only; omega
  · split
    · simp only; omega
    · exact sealTS_sealed t h0 a b _
/-! what is rotated is rotated alone -/
def nC : List UInt8 := [99]
def nO : List UInt8 := [111, 116, 104, 101, 114]
theorem cur_rot (t : PT) {a b c d : List UInt8} (hne : (⟨c, d⟩ : S_keys_purpose) ≠ ⟨a, b⟩) : curS (rotTS t a b).2.2 c d = curS t c d := by
  unfold rotTS
  split
  · rfl
  · split
    · rfl
    · unfold curS; simp only [mget_mset, if_neg hne]
theorem rotTS_root (t : PT) (a b : List UInt8) : (rotTS t a b).2.2.root = t.root := by unfold rotTS; split; rfl; split <;> rfl
theorem keyAS_congr {t u : PT} {a b : List UInt8} (h1 : u.root = t.root) (h2 : curS u a b = curS t a b) (n : Int) : keyAS u a b n = keyAS t a b n := by unfold keyAS; rw [h1, h2]
/-! what is sealed anew -/
theorem seal_parts {t : PT} {a b p : List UInt8} (h : (sealTS t a b p).2.1 = 0) : (curS t a b).2 = 0 ∧ p.length ≤ 1024 ∧ t.sealed < 1099511627776 := by
  unfold sealTS at h
  split at h
  · exact absurd h ‹_›
  · rename_i h0
    split at h
    · exact absurd h ‹_›
    · rename_i h2
      split at h
      · cases h
      · rename_i h3
        refine ⟨by simpa using h0, ?_, by omega⟩
        unfold sealA at h2
        by_cases hp : p.length ≤ 1024
        · exact hp
        · rw [if_neg hp] at h2; exact absurd (by decide) h2
theorem iU8_ver {v : Int} (h1 : 1 ≤ v) (h2 : v ≤ 16) : ((iU8 v).toNat : Int) = v := by unfold iU8; rw [UInt8.toNat_ofNat']; omega
/-- a text of the current version is sealed anew as itself -/
theorem rese_same {t : PT} {a b s p : List UInt8} {v : Int} (ho : openTS t a b s = (p, v, 0)) (hv : (curS t a b).1 = v) : reseTS t a b s = (s, false, 0, t) := by
  unfold reseTS; rw [ho, if_neg (show ¬ (0 : Int) ≠ 0 by simp), if_pos hv]
open Go L Go.Sort
def pAM : S_keys_purpose := ⟨nA, nM⟩
def atA : Nat → List (S_keys_purpose × Int)
  | 0 => []
  | i + 1 => [(pAM, ((i + 2 : Nat) : Int))]
def tA (root : List UInt8) (s : Int) (i : Nat) : PT := ⟨root, s, [], atA i⟩
theorem curA (root : List UInt8) (s : Int) : ∀ i, curS (tA root s i) nA nM = (((i + 1 : Nat) : Int), 0)
  | 0 => rfl
  | _ + 1 => rfl
theorem wfA (root : List UInt8) (s : Int) : ∀ i, i ≤ 15 → WF (tA root s i)
  | 0, _ => fun p hp => by cases hp
  | i + 1, h => fun p hp => by
    have : p = (pAM, ((i + 2 : Nat) : Int)) := by simpa [tA, atA] using hp
    subst this; exact ⟨by simp only; omega, by simp only; omega⟩
theorem rotA (root : List UInt8) (s : Int) (i : Nat) (h : i < 15) : rotTS (tA root s i) nA nM = (((i + 2 : Nat) : Int), 0, tA root s (i + 1)) := by
  unfold rotTS
  rw [curA, if_neg (show ¬ (0 : Int) ≠ 0 by simp)]
  rw [if_neg]
  · have e : ((i + 1 : Nat) : Int) + 1 = ((i + 2 : Nat) : Int) := by omega
    simp only [e]
    cases i with
    | zero => rfl
    | succ i => simp only [tA, atA, mset, pAM, if_true]
  · rintro (h1 | ⟨_, h2⟩)
    · simp only at h1; omega
    · cases i <;> simp [tA, atA] at h2
theorem back_l1 (k : Nat) (n : UInt8) (root : List UInt8) (s : Int) : ∀ (d m i : Nat), i + d = n.toNat % 16 → d < m →
    holdfastlaw09_KeysBack.l1 (k + 1200) m n root s [] (atA i) (i : Int) = some (.go (root, s, [], atA (n.toNat % 16)))
  | 0, m + 1, i, h1, _ => by
    have e : (n.toNat : Int).tmod 16 = ((n.toNat % 16 : Nat) : Int) := by rw [Int.tmod_eq_emod_of_nonneg (by omega)]; omega
    rw [holdfastlaw09_KeysBack.l1, e, if_neg (by simp <;> omega), show i = n.toNat % 16 by omega]
  | d + 1, m + 1, i, h1, h2 => by
    have e : (n.toNat : Int).tmod 16 = ((n.toNat % 16 : Nat) : Int) := by rw [Int.tmod_eq_emod_of_nonneg (by omega)]; omega
    have hr := rot_eq (k + 1200) (tA root s i) (wfA root s i (by omega)) nA nM
    rw [rotA root s i (by omega)] at hr
    rw [holdfastlaw09_KeysBack.l1, e, if_pos (by simp <;> omega)]
    rw [show keys_Tree_Rotate (k + 1200) ⟨root, s, [], atA i⟩ [97] [109, 97, 105, 108] = _ from hr, Option.bind_some, if_neg (by simp), wsucc (by omega)]
    exact back_l1 k n root s d m (i + 1) (by omega) (by omega)
theorem take_num (k : Nat) (root : List UInt8) : ∀ s : Nat, 1 ≤ s → s ≤ 2 → keys_Tree_take (k + 1200) ⟨root, 0, [], []⟩ ⟨[35], [numN s]⟩ = some (true, ⟨root, (s : Int), [], []⟩)
  | 0, h, _ => by omega
  | 1, _, _ => by kernel_rfl
  | 2, _, _ => by kernel_rfl
  | s + 3, _, h => by omega
theorem take_ver (k : Nat) (root : List UInt8) (s : Int) : ∀ i : Nat, 2 ≤ i → i ≤ 16 → keys_Tree_take (k + 1200) ⟨root, s, [], []⟩ ⟨keyV pAM, [numN i]⟩ = some (true, ⟨root, s, [], [(pAM, (i : Int))]⟩)
  | 0, h, _ => by omega
  | 1, h, _ => by omega
  | 2, _, _ => by kernel_rfl
  | 3, _, _ => by kernel_rfl
  | 4, _, _ => by kernel_rfl
  | 5, _, _ => by kernel_rfl
  | 6, _, _ => by kernel_rfl
  | 7, _, _ => by kernel_rfl
  | 8, _, _ => by kernel_rfl
  | 9, _, _ => by kernel_rfl
  | 10, _, _ => by kernel_rfl
  | 11, _, _ => by kernel_rfl
  | 12, _, _ => by kernel_rfl
  | 13, _, _ => by kernel_rfl
  | 14, _, _ => by kernel_rfl
  | 15, _, _ => by kernel_rfl
  | 16, _, _ => by kernel_rfl
  | i + 17, _, h => by omega
theorem rows_sorted (root : List UInt8) (s : Nat) : ∀ i : Nat, sortS cfR (rowsK (tA root s i)) = rowsK (tA root s i)
  | 0 => by
    refine (sd_sortS cfR swoR ?_ (List.Perm.refl _) (key_injR ?_)).symm
    · exact List.pairwise_singleton _ _
    · simp [rowsK, rowN, tA, atA]
  | i + 1 => by
    refine (sd_sortS cfR swoR ?_ (List.Perm.refl _) (key_injR ?_)).symm
    · refine List.Pairwise.cons (fun y hy => ?_) (List.pairwise_singleton _ _)
      have : y = rowV (pAM, ((i + 2 : Nat) : Int)) := by simpa [tA, atA] using hy
      subst this; rw [ltR]; rfl
    · show (List.map _ [rowN _, rowV _]).Nodup
      simp [rowN, rowV, keyV, pAM, nA]
theorem loadA (k : Nat) (root : List UInt8) (s : Nat) (h1 : 1 ≤ s) (h2 : s ≤ 2) (i : Nat) (hi : i ≤ 15) : keys_Load (k + 1200) root (rowsK (tA root s i)) = some (some (tA root s i), 0) := by
  unfold keys_Load keys_New
  have hf : ∀ (l : List (S_keys_purpose × Int)), mfold (keys_Load.m2 (k + 1200) []) l () = some (.go ()) := by
    intro l
    induction l with
    | nil => rfl
    | cons y l ih => simp only [mfold, keys_Load.m2, mget]; exact ih
  have t1 := take_num k root s h1 h2
  have hl : ∃ z, keys_Load.l1 (k + 1200) (k + 1200) (rowsK (tA root s i)) root 0 [] [] 0 = some (.go (root, (s : Int), [], atA i)) ∧ z = 0 := by
    refine ⟨0, ?_, rfl⟩
    rw [keys_Load.l1]
    have g0 : gt (rowsK (tA root s i)) (0 : Int) = some (rowN (tA root s i)) := by unfold rowsK; exact gtn (i := 0) (by simp)
    rw [if_pos (by simp [rowsK] <;> omega), g0, Option.bind_some, if_neg (by simp)]
    rw [show keys_Tree_take (k + 1200) ⟨root, 0, [], []⟩ ⟨(rowN (tA root s i)).Key, (rowN (tA root s i)).Columns⟩ = some (true, ⟨root, (s : Int), [], []⟩) from by
      simpa [rowN, tA] using t1, Option.bind_some, if_neg (by simp), show W ((0 : Int) + 1) = ((1 : Nat) : Int) from rfl]
    cases i with
    | zero =>
      rw [keys_Load.l1, if_neg (by simp [rowsK, tA, atA])]; rfl
    | succ i =>
      have g1 : gt (rowsK (tA root s (i + 1))) ((1 : Nat) : Int) = some (rowV (pAM, ((i + 2 : Nat) : Int))) := rfl
      have t2 := take_ver k root s (i + 2) (by omega) (by omega)
      rw [keys_Load.l1, if_pos (by simp [rowsK, tA, atA]), g1, Option.bind_some, if_pos (by simp), show W (((1 : Nat) : Int) - 1) = 0 from rfl, g0, Option.bind_some, if_neg (by rw [show (!ltS (rowN (tA root s (i + 1))).Key (rowV (pAM, ((i + 2 : Nat) : Int))).Key) = false from rfl]; simp)]
      rw [show keys_Tree_take (k + 1200) ⟨root, (s : Int), [], []⟩ ⟨(rowV (pAM, ((i + 2 : Nat) : Int))).Key, (rowV (pAM, ((i + 2 : Nat) : Int))).Columns⟩ = some (true, ⟨root, (s : Int), [], [(pAM, ((i + 2 : Nat) : Int))]⟩) from by
        show keys_Tree_take (k + 1200) ⟨root, (s : Int), [], []⟩ ⟨keyV pAM, [numN (((i + 2 : Nat) : Int)).toNat]⟩ = _
        rw [Int.toNat_natCast]; exact t2, Option.bind_some, if_neg (by simp), show W (((1 : Nat) : Int) + 1) = ((2 : Nat) : Int) from rfl]
      rw [keys_Load.l1, if_neg (by simp [rowsK, tA, atA])]; rfl
  obtain ⟨_, hl, _⟩ := hl
  rw [Option.bind_some]
  show ((keys_Load.l1 (k + 1200) (k + 1200) (rowsK (tA root s i)) root 0 [] [] 0).bind _) = _
  rw [hl, Option.bind_some]
  show mrngK _ (atA i) () _ = _
  refine mrngK_eq fun l hp => ?_
  rw [show mfold _ l () = some (.go ()) from hf l]
  simp only [Option.bind_some, lrc]
  cases i with
  | zero => rfl
  | succ i => rfl
theorem law_back (k : Nat) (root plain : List UInt8) (n : UInt8) (hr : root.length = 32) : holdfastlaw09_KeysBack (k + 1200) root plain n = some true := by
  unfold holdfastlaw09_KeysBack keys_New
  have w0 : WF (tA root 0 0) := wfA root 0 0 (by omega)
  have c0 : curS (tA root 0 0) nA nM = (1, 0) := curA root 0 0
  rw [Option.bind_some]
  rw [show keys_Tree_Seal (k + 1200) ⟨root, 0, [], []⟩ [97] [109, 97, 105, 108] plain = _ from sealT_eq k (tA root 0 0) hr w0 nA nM plain, Option.bind_some]
  by_cases hp : plain.length ≤ 1024
  · have s0 := seal_ok (t := tA root 0 0) (a := nA) (b := nM) (p := plain) (by rw [c0]) hp (by show (0 : Int) < _; decide)
    have he0 : (sealTS (tA root 0 0) nA nM plain).2.1 = 0 := by rw [s0]
    have ht0 : (sealTS (tA root 0 0) nA nM plain).2.2 = tA root 1 0 := by rw [s0]; rfl
    have hln := sealTS_len (tA root 0 0) nA nM plain
    rw [if_neg (by simp [he0]), ht0]
    have hl := back_l1 k n root 1 (n.toNat % 16) (k + 1200) 0 (by omega) (by omega)
    show ((holdfastlaw09_KeysBack.l1 (k + 1200) (k + 1200) n root 1 [] (atA 0) ((0 : Nat) : Int)).bind _) = _
    rw [hl, Option.bind_some]
    generalize hi : n.toNat % 16 = i at hl
    have hi15 : i ≤ 15 := by omega
    have em : (n.toNat : Int).tmod 16 = (i : Int) := by rw [Int.tmod_eq_emod_of_nonneg (by omega)]; omega
    simp only [lrc]
    have wi := wfA root 1 i hi15
    have o1 := open_seal (t := tA root 0 0) (t' := tA root 1 i) w0 (a := nA) (b := nM) (p := plain) he0 rfl (by rw [curA]) (by rw [c0, curA]; simp only; omega)
    rw [c0] at o1
    generalize hb : (sealTS (tA root 0 0) nA nM plain).1 = b at *
    rw [show keys_Tree_Open (k + 1200) ⟨root, 1, [], atA i⟩ [97] [109, 97, 105, 108] b = _ from openT_eq k (tA root 1 i) hr wi nA nM b (by omega), Option.bind_some]
    rw [show keys_Tree_Reseal (k + 1200) ⟨root, 1, [], atA i⟩ [97] [109, 97, 105, 108] b = _ from rese_eq k (tA root 1 i) hr wi nA nM b (by omega), Option.bind_some, o1]
    -- sealed anew
    obtain ⟨c, s, q1, h1, h2, o3, hc⟩ : ∃ (c : List UInt8) (s : Nat), reseTS (tA root 1 i) nA nM b = (c, decide (0 < i), 0, tA root s i) ∧ 1 ≤ s ∧ s ≤ 2 ∧ openTS (tA root s i) nA nM c = (plain, ((i + 1 : Nat) : Int), 0) ∧ c.length ≤ 1049 := by
      cases i with
      | zero => exact ⟨b, 1, by rw [rese_same o1 (by rw [curA]; rfl)]; rfl, Nat.le_refl _, by omega, o1, hln⟩
      | succ i =>
        have s3 := seal_ok (t := tA root 1 (i + 1)) (a := nA) (b := nM) (p := plain) (by rw [curA]) hp (by show (1 : Int) < _; decide)
        have he3 : (sealTS (tA root 1 (i + 1)) nA nM plain).2.1 = 0 := by rw [s3]
        have ht3 : (sealTS (tA root 1 (i + 1)) nA nM plain).2.2 = tA root ((2 : Nat) : Int) (i + 1) := by rw [s3]; rfl
        have o4 := open_seal (t := tA root 1 (i + 1)) (t' := tA root ((2 : Nat) : Int) (i + 1)) wi (a := nA) (b := nM) (p := plain) he3 rfl (by rw [curA]) (by rw [curA, curA]; exact Int.le_refl _)
        rw [curA] at o4
        refine ⟨_, 2, ?_, by omega, Nat.le_refl _, o4, sealTS_len _ _ _ _⟩
        unfold reseTS
        rw [o1, if_neg (show ¬ (0 : Int) ≠ 0 by simp), curA, if_neg (by simp only; omega)]
        simp only [he3, ht3, decide_true]
        simp
    rw [q1]
    have hR : RelA (tA root s i) := by
      refine ⟨by show (0 : Int) ≤ (s : Int); omega, fun p hp => (by cases hp), List.nodup_nil, by show (0 : Nat) ≤ 16; omega, ?_, ?_, ?_⟩
      · cases i with
        | zero => exact List.nodup_nil
        | succ i => simp [NDK, tA, atA]
      · cases i <;> simp [tA, atA]
      · cases i with
        | zero => intro p hp; cases hp
        | succ i =>
          intro p hp
          have : p = (pAM, ((i + 2 : Nat) : Int)) := by simpa [tA, atA] using hp
          subst this; exact ⟨by simp only; omega, by simp only; omega, nA_ok, nM_ok⟩
    show ((keys_Tree_Rows (k + 1200) (tA root s i)).bind _) = _
    rw [rowsA k hR (by show (s : Int) < 100; omega), Option.bind_some, rows_sorted, loadA k root s h1 h2 i hi15, Option.bind_some]
    show ((keys_Tree_Open (k + 1200) (tA root s i) nA nM c).bind _) = _
    rw [openT_eq k (tA root s i) hr (wfA root s i hi15) nA nM c (by omega), Option.bind_some, o3, live_true k, Option.bind_some]
    have sm := same_dec (k + 1200) plain plain (by omega) (by omega)
    rw [decide_eq_true rfl] at sm
    simp only [em, sm, Option.bind_some, decide_true, Bool.true_and, Bool.and_true, if_true]
    have e1 : W ((i : Int) + 1) = ((i + 1 : Nat) : Int) := wsucc (by omega)
    rw [e1]
    simp
  · have s0 := seal_long_ (t := tA root 0 0) (a := nA) (b := nM) (p := plain) (by rw [c0]) (by omega)
    rw [s0, if_pos (by simp), live_true k]; rfl
end Go.Proofs.YtjgbakieogadfabGreatDoor
