/-
  Keys: what is rotated is rotated alone;what is sealed anew is sealed by the current version. Plain Lean.
-/
import Derived.Test.YtjgbakieogadfabGreatDoorKeyP
namespace Go.Proofs.YtjgbakieogadfabGreatDoor
open Go L Go.Sort
variable {t : PT} {r : RT}
theorem copy_eq (K : Nat) (b : List UInt8) (h : b.length ≤ 140737488355328) : holdfastref01_Copy K b = some b := by
  unfold holdfastref01_Copy;rw [app_ok (by simpa using h)];rfl
theorem rotTS_sealed (t : PT) (a b : List UInt8) : (rotTS t a b).2.2.sealed = t.sealed := by unfold rotTS; split; rfl; split <;> rfl
theorem desTS_sealed (t : PT) (a : List UInt8) : (desTS t a).2.sealed = t.sealed := by unfold desTS; split; rfl; split; rfl; split <;> rfl
theorem sealTS_sealed (t : PT) (h0 : 0 ≤ t.sealed) (a b p : List UInt8) : (sealTS t a b p).2.2.sealed ≤ t.sealed + 1 := by
  unfold sealTS;split
  · simp only;omega
  · split
    · simp only;omega
    · split
      · simp only;omega
      · simp only;rw [L.W_id (by omega) (by omega)];exact Int.le_refl _
theorem reseTS_sealed (t : PT) (h0 : 0 ≤ t.sealed) (a b s : List UInt8) : (reseTS t a b s).2.2.2.sealed ≤ t.sealed + 1 := by
  unfold reseTS;split
  · simp only;omega
  · split
    · simp only;omega
    · exact sealTS_sealed t h0 a b _
theorem play_step (k : Nat) (lk) (e : S_holdfastlaw09_Deed) (hB : Bd2 (k + 1200) e.Tenant e.Purpose) (b : List UInt8) (hb1 : b.length ≤ 140737488355328) (hb2 : b.length + 1100 < k + 1200) (h : Rel t r) (last : List UInt8) (hl : last.length ≤ 1049) (i1 : Int) :
    ∃ t' r' last',Rel t' r'∧last'.length≤1049∧t'.sealed≤t.sealed + 1 ∧
      holdfastlaw09_play.j1 (k + 1200) lk e t.root t.sealed t.gone t.at_ r.root r.sealed r.gone r.l last i1 b=lk t'.root t'.sealed t'.gone t'.at_ r'.root r'.sealed r'.gone r'.l last' (W (i1 + 1)):=by
  unfold holdfastlaw09_play.j1
  rw [show (⟨t.root,t.sealed,t.gone,t.at_⟩ : PT)=t from rfl,show (⟨r.root,r.sealed,r.gone,r.l⟩ : RT)=r from rfl]
  by_cases h0:e.Kind=0
  · rw [if_pos (by simpa using h0),rot_eq _ t h.wf,Option.bind_some,h.rrot (k + 1200) _ _ (by omega) hB.la hB.lb hB.ba hB.bb,Option.bind_some]
    obtain ⟨e1,e2,e3⟩:=h.rot e.Tenant e.Purpose
    rw [if_neg (by rw [e1,e2];simp)]
    exact ⟨_,_,last,e3,hl,by rw [rotTS_sealed];omega,rfl⟩
  rw [if_neg (by simpa using h0)]
  by_cases h1:e.Kind=1
  · rw [if_pos (by simpa using h1),des_eq _ t h.an,Option.bind_some,h.rdes (k + 1200) _ (by omega) hB.la hB.ba,Option.bind_some]
    obtain ⟨e1,e3⟩:=h.des e.Tenant
    rw [if_neg (by rw [e1];simp)]
    exact ⟨_,_,last,e3,hl,by rw [desTS_sealed];omega,rfl⟩
  rw [if_neg (by simpa using h1)]
  by_cases h2:e.Kind=2
  · obtain ⟨r',e1,e3⟩:=h.rseal k e.Tenant e.Purpose hB b
    have hs:=sealTS_len t e.Tenant e.Purpose b
    rw [if_pos (by simpa using h2),sealT_eq k t h.len h.wf,Option.bind_some,e1,Option.bind_some,same_dec _ _ _ (by omega) (by omega),Option.bind_some,if_neg (by simp)]
    exact ⟨_,_,_,e3,hs,sealTS_sealed t h.s0 _ _ _,rfl⟩
  rw [if_neg (by simpa using h2)]
  by_cases h3:e.Kind=3
  · have hs:=openTS_len t e.Tenant e.Purpose b
    rw [if_pos (by simpa using h3),openT_eq k t h.len h.wf _ _ _ (by omega),Option.bind_some,h.ropen k e.Tenant e.Purpose hB b (by omega),Option.bind_some,same_dec _ _ _ (by omega) (by omega),Option.bind_some,if_neg (by simp)]
    exact ⟨t,r,last,h,hl,by omega,rfl⟩
  rw [if_neg (by simpa using h3)]
  by_cases h4:e.Kind=4
  · obtain ⟨r',e1,e3⟩:=h.rrese k e.Tenant e.Purpose hB b hb1
    have hs:=reseTS_len t e.Tenant e.Purpose b
    rw [if_pos (by simpa using h4),rese_eq k t h.len h.wf _ _ _ hb1,Option.bind_some,e1,Option.bind_some,same_dec _ _ _ (by omega) (by omega),Option.bind_some,if_neg (by simp)]
    exact ⟨_,_,last,e3,hl,reseTS_sealed t h.s0 _ _ _,rfl⟩
  rw [if_neg (by simpa using h4),keyA_eq k t h.len h.wf,Option.bind_some,h.rkey k e.Tenant e.Purpose hB,Option.bind_some,cur_eq,Option.bind_some,h.rcur (k + 1200) _ _ (by omega) hB.la hB.lb hB.ba hB.bb,Option.bind_some,if_neg (by simp)]
  exact ⟨t,r,last,h,hl,by omega,rfl⟩
structure DB (K : Nat) (x : S_holdfastlaw09_Deed) : Prop where
  b:Bd2 K x.Tenant x.Purpose
  b1:x.Bytes.length≤140737488355328
  b2:x.Bytes.length + 1100 < K
theorem play_l1 (k : Nat) (hk : 1200 ≤ k) (l : List S_holdfastlaw09_Deed) (hB : ∀ x, x ∈ l → DB (k + 1200) x) (hl : l.length < 4611686018427387904) : ∀ (n i m : Nat) (t : PT) (r : RT) (last : List UInt8), i + n = min l.length 60 → n < m → Rel t r → last.length ≤ 1049 →
    ∃ t' r',Rel t' r'∧t'.sealed≤t.sealed + n∧holdfastlaw09_play.l1 (k + 1200) m l t.root t.sealed t.gone t.at_ r.root r.sealed r.gone r.l last (i:Int)=some (.go (t'.root,t'.sealed,t'.gone,t'.at_,r'.root,r'.sealed,r'.gone,r'.l))
  | 0,i,m + 1,t,r,last,h1,_,h,_=>⟨t,r,h,by omega,by
    rw [holdfastlaw09_play.l1,if_neg (by simp only [Bool.and_eq_true,decide_eq_true_eq];omega)]⟩
  | n + 1,i,m + 1,t,r,last,h1,h2,h,hla=>by
    have hi:i < l.length:=by omega
    have hm:l.getD i default ∈ l:=by rw [List.getD_eq_getElem?_getD,List.getElem?_eq_getElem hi];exact List.getElem_mem hi
    have hD:=hB _ hm
    rw [holdfastlaw09_play.l1,if_pos (by simp only [Bool.and_eq_true,decide_eq_true_eq];omega),gt_nat default hi,Option.bind_some,copy_eq _ _ hD.b1,Option.bind_some]
    have fin:∀ b:List UInt8,b.length≤140737488355328→b.length + 1100 < k + 1200→∃ t' r',Rel t' r'∧t'.sealed≤t.sealed + ((n + 1:Nat):Int) ∧
        holdfastlaw09_play.j1 (k + 1200) (holdfastlaw09_play.l1 (k + 1200) m l) (l.getD i default) t.root t.sealed t.gone t.at_ r.root r.sealed r.gone r.l last (i:Int) b=some (.go (t'.root,t'.sealed,t'.gone,t'.at_,r'.root,r'.sealed,r'.gone,r'.l)):=by
      intro b hb1 hb2
      obtain ⟨t1,r1,la1,g1,g2,g3,g4⟩:=play_step k (holdfastlaw09_play.l1 (k + 1200) m l) (l.getD i default) hD.b b hb1 hb2 h last hla (i:Int)
      obtain ⟨t',r',k1,k2,k3⟩:=play_l1 k hk l hB hl n (i + 1) m t1 r1 la1 (by omega) (by omega) g1 g2
      refine ⟨t',r',k1,by omega,?_⟩
      rw [g4,W_succ (by omega),k3]
    by_cases hL:(l.getD i default).Last=true
    · rw [if_pos hL,copy_eq _ _ (by omega),Option.bind_some]
      exact fin last (by omega) (by omega)
    · rw [if_neg hL]
      exact fin _ hD.b1 hD.b2
theorem play_eq (k : Nat) (hk : 1200 ≤ k) (l : List S_holdfastlaw09_Deed) (hB : ∀ x, x ∈ l → DB (k + 1200) x) (hl : l.length < 4611686018427387904) (h : Rel t r) :
    ∃ t' r',Rel t' r'∧t'.sealed≤t.sealed + 60∧holdfastlaw09_play (k + 1200) t r l=some (true,t',r'):=by
  obtain ⟨t',r',h1,h2,h3⟩:=play_l1 k hk l hB hl (min l.length 60) 0 (k + 1200) t r [] (by omega) (by omega) h (by simp)
  refine ⟨t',r',h1,by omega,?_⟩
  unfold holdfastlaw09_play
  rw [show (0:Int)=((0:Nat):Int) from rfl,h3];rfl
theorem rel0 (root : List UInt8) (hr : root.length = 32) : Rel ⟨root, 0, [], []⟩ ⟨root, 0, [], []⟩ :=
  ⟨rfl,hr,rfl,(show (0:Int)≤0 by decide),(show (0:Int)≤1099511627776 by decide),rfl,(fun p hp=>by cases hp),List.nodup_nil,(show (0:Nat)≤16 by decide),List.nodup_nil,(show (0:Nat)≤16 by decide),(fun p hp=>by cases hp),List.Perm.refl _⟩
/-! what is rotated is rotated alone -/
/-! what is sealed anew -/
end Go.Proofs.YtjgbakieogadfabGreatDoor
