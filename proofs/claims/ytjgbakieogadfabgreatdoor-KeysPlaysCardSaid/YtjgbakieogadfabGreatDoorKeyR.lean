/-
  Keys: the document's tree tells the same,by plain functions. Plain Lean.
-/
import Derived.Test.YtjgbakieogadfabGreatDoorKeyLive
namespace Go.Proofs.YtjgbakieogadfabGreatDoor
open Go L Go.Sort
/-! names -/
def chS (c : UInt8) : Bool := ((decide ((97 : UInt8) ≤ c) && decide (c ≤ (122 : UInt8))) || (decide ((48 : UInt8) ≤ c) && decide (c ≤ (57 : UInt8)))) || decide (c = (45 : UInt8))
theorem chS_eq : ∀ c : UInt8, chS c = (([97, 98, 99, 100, 101, 102, 103, 104, 105, 106, 107, 108, 109, 110, 111, 112, 113, 114, 115, 116, 117, 118, 119, 120, 121, 122, 48, 49, 50, 51, 52, 53, 54, 55, 56, 57, 45] : List UInt8)).contains c := by
  have h:∀ n:Fin 256,chS (UInt8.ofNat n.val)=(([97,98,99,100,101,102,103,104,105,106,107,108,109,110,111,112,113,114,115,116,117,118,119,120,121,122,48,49,50,51,52,53,54,55,56,57,45] : List UInt8)).contains (UInt8.ofNat n.val):=by decide +kernel
  intro c
  have:=h ⟨c.toNat,c.toNat_lt⟩
  simpa using this
theorem refIsName_l1 (s : List UInt8) : ∀ (n i k : Nat), i + n = s.length → n < k → s.length < 4611686018427387904 →
    holdfastref02_IsName.l1 k s (i:Int)=some (if (s.drop i).all chS=true then .go () else .ret false)
  | 0,i,k + 1,h,_,_=>by
    rw [holdfastref02_IsName.l1,if_neg (by simp;omega),List.drop_of_length_le (by omega)];rfl
  | n + 1,i,k + 1,h,hk,hb=>by
    rw [holdfastref02_IsName.l1,if_pos (by simp;omega),gt_nat 0 (by omega),Option.bind_some]
    have hd:s.drop i=s.getD i 0 :: s.drop (i + 1):=drop_succ' 0 (by omega)
    rw [hd,List.all_cons]
    show (if (!chS (s.getD i 0))=true then _ else _)=_
    cases hc:chS (s.getD i 0) with
    | false=>simp
    | true =>
      rw [W_succ (by omega),refIsName_l1 s n (i + 1) k (by omega) (by omega) hb]
      simp
theorem refIsName_eq (K : Nat) (s : List UInt8) (hK : s.length < K) (hb : s.length < 4611686018427387904) : holdfastref02_IsName K s = some (nameS s) := by
  unfold holdfastref02_IsName
  rw [show (0:Int)=((0:Nat):Int) from rfl,refIsName_l1 s s.length 0 K (by omega) hK hb,Option.bind_some,List.drop_zero]
  unfold nameS
  have e:(s.all fun c=>(([97,98,99,100,101,102,103,104,105,106,107,108,109,110,111,112,113,114,115,116,117,118,119,120,121,122,48,49,50,51,52,53,54,55,56,57,45] : List UInt8)).contains c)=s.all chS:=by
    congr 1;funext c;exact (chS_eq c).symm
  rw [e]
  cases h:s.all chS with
  | false=>simp [lrc]
  | true =>
    simp only [if_true,lrc,Option.some.injEq,Bool.and_true]
    rw [Bool.eq_iff_iff]
    simp only [Bool.and_eq_true,decide_eq_true_eq,Bool.not_eq_true',decide_eq_false_iff_not]
    constructor
    · rintro ⟨h1,h2⟩;exact ⟨fun e=>by subst e;simp at h1,by omega⟩
    · rintro ⟨h1,h2⟩;exact ⟨by have:=List.length_pos_iff.2 h1;omega,by omega⟩
/-! what is gone -/
theorem isGone_l1 (r : S_holdfastref09_Tree) (a : List UInt8) (hb : r.gone.length < 1000000) : ∀ (n i k : Nat), i + n = r.gone.length → n < k →
    holdfastref09_Tree_isGone.l1 k r a (i:Int)=some (if a ∈ r.gone.drop i then .ret true else .go ())
  | 0,i,k + 1,h,_=>by
    rw [holdfastref09_Tree_isGone.l1,if_neg (by simp;omega),List.drop_of_length_le (by omega)];simp
  | n + 1,i,k + 1,h,hk=>by
    rw [holdfastref09_Tree_isGone.l1,if_pos (by simp;omega),gt_nat [] (by omega),Option.bind_some]
    have hd:r.gone.drop i=r.gone.getD i [] :: r.gone.drop (i + 1):=drop_succ' [] (by omega)
    rw [hd]
    by_cases he:r.gone.getD i []=a
    · rw [if_pos (by simp only [decide_eq_true_eq];exact he),if_pos (by rw [he];exact List.mem_cons_self)]
    · rw [if_neg (by simp only [decide_eq_true_eq];exact he),W_succ (by omega),isGone_l1 r a hb n (i + 1) k (by omega) (by omega)]
      congr 1
      by_cases hm:a ∈ r.gone.drop (i + 1)
      · rw [if_pos hm,if_pos (List.mem_cons_of_mem _ hm)]
      · rw [if_neg hm,if_neg (by rw [List.mem_cons];rintro (e | e);exact he e.symm;exact hm e)]
theorem isGone_eq (K : Nat) (r : S_holdfastref09_Tree) (a : List UInt8) (hK : r.gone.length < K) (hb : r.gone.length < 1000000) : holdfastref09_Tree_isGone K r a = some (decide (a ∈ r.gone)) := by
  unfold holdfastref09_Tree_isGone
  rw [show (0:Int)=((0:Nat):Int) from rfl,isGone_l1 r a hb r.gone.length 0 K (by omega) hK,Option.bind_some,List.drop_zero]
  by_cases h:a ∈ r.gone
  · rw [if_pos h];simp [lrc,h]
  · rw [if_neg h];simp [lrc,h]
/-! versions -/
def rgetS (l : List S_holdfastref09_version) (a b : List UInt8) : Option Int := (l.find? fun v => decide (v.tenant = a) && decide (v.purpose = b)).map (·.n)
theorem cur_l1 (r : S_holdfastref09_Tree) (a b : List UInt8) (hb : r.l.length < 1000000) : ∀ (n i k : Nat), i + n = r.l.length → n < k →
    holdfastref09_Tree_Current.l1 k r a b (i:Int)=some (match rgetS (r.l.drop i) a b with | some v => .ret (v,0) | none => .go ())
  | 0,i,k + 1,h,_=>by
    rw [holdfastref09_Tree_Current.l1,if_neg (by simp;omega),List.drop_of_length_le (by omega)];rfl
  | n + 1,i,k + 1,h,hk=>by
    have hd:r.l.drop i=r.l.getD i default :: r.l.drop (i + 1):=drop_succ' default (by omega)
    rw [holdfastref09_Tree_Current.l1,if_pos (by simp;omega)]
    simp only [gt_nat (xs:=r.l) (i:=i) default (by omega),Option.bind_some]
    rw [hd]
    unfold rgetS
    by_cases h1:(r.l.getD i default).tenant=a
    · rw [if_pos (by simp only [decide_eq_true_eq];exact h1),Option.bind_some]
      by_cases h2:(r.l.getD i default).purpose=b
      · rw [if_pos (by simp only [decide_eq_true_eq];exact h2),List.find?_cons_of_pos (by simp only [h1,h2,decide_true,Bool.and_self])];rfl
      · rw [if_neg (by simp only [decide_eq_true_eq];exact h2),List.find?_cons_of_neg (by simp only [h1,h2,decide_true,decide_false,Bool.and_false];simp),W_succ (by omega),cur_l1 r a b hb n (i + 1) k (by omega) (by omega)];rfl
    · rw [if_neg (by simp only [decide_eq_true_eq];exact h1),Option.bind_some,if_neg (by simp),List.find?_cons_of_neg (by simp only [h1,decide_false,Bool.false_and];simp),W_succ (by omega),cur_l1 r a b hb n (i + 1) k (by omega) (by omega)];rfl
def rcurS (r : S_holdfastref09_Tree) (a b : List UInt8) : Int × Int :=
  if (!nameS a || !nameS b)=true then (0,8) else if a ∈ r.gone then (0,12) else ((rgetS r.l a b).getD 1,0)
theorem rcur_eq (K : Nat) (r : S_holdfastref09_Tree) (a b : List UInt8) (ha : a.length < K) (hb : b.length < K) (hg : r.gone.length < K) (hl : r.l.length < K) (ba : a.length < 4611686018427387904) (bb : b.length < 4611686018427387904)
    (bg:r.gone.length < 1000000) (bl:r.l.length < 1000000):holdfastref09_Tree_Current K r a b=some (rcurS r a b):=by
  unfold holdfastref09_Tree_Current rcurS
  rw [refIsName_eq K a ha ba,refIsName_eq K b hb bb,Option.bind_some]
  simp only [Option.bind_some]
  have key:((holdfastref09_Tree_isGone K (⟨r.root,r.sealed,r.gone,r.l⟩ : S_holdfastref09_Tree) a).bind fun r_2=>if r_2=true then some ((0:Int),(12:Int)) else (holdfastref09_Tree_Current.l1 K r a b (0:Int)).bind fun q=>lrc q (fun a=>some a) fun _=>some ((1:Int),(0:Int))) =
      some (if a ∈ r.gone then (0,12) else ((rgetS r.l a b).getD 1,0)):=by
    rw [show (⟨r.root,r.sealed,r.gone,r.l⟩ : S_holdfastref09_Tree)=r from rfl,isGone_eq K r a hg bg,Option.bind_some]
    by_cases h:a ∈ r.gone
    · rw [if_pos (by simpa using h),if_pos h]
    · rw [if_neg (by simpa using h),if_neg h,show (0:Int)=((0:Nat):Int) from rfl,cur_l1 r a b bl r.l.length 0 K (by omega) hl,Option.bind_some,List.drop_zero]
      cases rgetS r.l a b <;> rfl
  cases nameS a <;> cases nameS b <;> first | rfl | exact key
/-! keys -/
theorem refkey_l2 (parts : List (List UInt8)) (j : Int) (p : List UInt8) (hg : gt parts j = some p) (hz : ∀ x ∈ p, x ≠ 0) (hp : p.length ≤ 20) : ∀ (n i k : Nat) (out : List UInt8), i + n = p.length → n < k → out.length + n ≤ 200 →
    holdfastref02_Key.l2 k parts j out (i:Int)=some (out++p.drop i)
  | 0,i,k + 1,out,h,_,_=>by
    rw [holdfastref02_Key.l2,hg,Option.bind_some,if_neg (by simp;omega),List.drop_of_length_le (by omega),List.append_nil]
  | n + 1,i,k + 1,out,h,hk,ho=>by
    have hd:p.drop i=p.getD i 0 :: p.drop (i + 1):=drop_succ' 0 (by omega)
    have hm:p.getD i 0 ∈ p:=List.mem_of_mem_drop (i:=i) (by rw [hd];exact List.mem_cons_self)
    rw [holdfastref02_Key.l2,hg,Option.bind_some,if_pos (by simp;omega)]
    simp only [Option.bind_some,gt_nat (xs:=p) (i:=i) 0 (by omega)]
    rw [app_ok (by simp;omega),Option.bind_some,if_neg (by simp only [decide_eq_true_eq];exact hz _ hm),W_succ (by omega),
      refkey_l2 parts j p hg hz hp n (i + 1) k (out++[p.getD i 0]) (by omega) (by omega) (by simp;omega),hd,List.append_assoc];rfl
theorem refkey3 (k : Nat) (a b c : List UInt8) (ha : ∀ x ∈ a, x ≠ 0) (hb : ∀ x ∈ b, x ≠ 0) (hc : ∀ x ∈ c, x ≠ 0) (la : a.length ≤ 9) (lb : b.length ≤ 9) (lc : c.length ≤ 17) :
    holdfastref02_Key (k + 30) [a,b,c]=some (a++[0,1]++(b++[0,1])++(c++[0,1]),0):=by
  unfold holdfastref02_Key
  have e0:(decide ((([a,b,c] : List (List UInt8)).length:Int) < (1:Int)) || decide ((8:Int) < (([a,b,c] : List (List UInt8)).length:Int)))=false:=by simp
  rw [if_neg (by rw [e0];simp)]
  have g0:gt [a,b,c] (0:Int)=some a:=rfl
  have g1:gt [a,b,c] (1:Int)=some b:=rfl
  have g2:gt [a,b,c] (2:Int)=some c:=rfl
  have w1:W ((0:Int) + 1)=1:=rfl
  have w2:W ((1:Int) + 1)=2:=rfl
  have w3:W ((2:Int) + 1)=3:=rfl
  have step:∀ (m:Nat) (i:Int) (out p:List UInt8),i < 3→gt [a,b,c] i=some p→(∀ x ∈ p,x ≠ 0)→p.length≤17→out.length≤100 →
      holdfastref02_Key.l1 (k + 30) (m + 1) [a,b,c] out i=holdfastref02_Key.l1 (k + 30) m [a,b,c] (out++(p++[0,1])) (W (i + 1)):=by
    intro m i out p hi hg hz hl ho
    rw [holdfastref02_Key.l1.eq_2]
    rw [if_pos (by simpa using hi),hg,Option.bind_some,if_neg (by simp only [decide_eq_true_eq];omega),show (0:Int)=((0:Nat):Int) from rfl,
      refkey_l2 [a,b,c] i p hg hz (by omega) p.length 0 (k + 30) out (by omega) (by omega) (by omega),Option.bind_some,List.drop_zero,Option.bind_some,
      app_ok (by simp only [List.length_append,List.length_cons,List.length_nil];omega),Option.bind_some,List.append_assoc]
  rw [show k + 30=(k + 29) + 1 from rfl] at *
  rw [step (k + 29) 0 [] a (by omega) g0 ha (by omega) (by simp),w1,show k + 29=(k + 28) + 1 from rfl,step (k + 28) 1 _ b (by omega) g1 hb (by omega) (by simp;omega),w2,
    show k + 28=(k + 27) + 1 from rfl,step (k + 27) 2 _ c (by omega) g2 hc (by omega) (by simp;omega),w3]
  rw [show k + 27=(k + 26) + 1 from rfl,holdfastref02_Key.l1.eq_2,if_neg (by simp)]
  simp only [Option.bind_some,lrc,List.nil_append]
  rw [if_neg (by simp only [decide_eq_true_eq,List.length_append,List.length_cons,List.length_nil];omega)]
theorem refnum_v (k : Nat) : ∀ n : Nat, 1 ≤ n → n ≤ 16 → holdfastref02_Number (k + 20) (n : Int) = some (numV n, 0)
  | 0,h,_=>by omega
  | 1,_,_=>by kernel_rfl
  | 2,_,_=>by kernel_rfl
  | 3,_,_=>by kernel_rfl
  | 4,_,_=>by kernel_rfl
  | 5,_,_=>by kernel_rfl
  | 6,_,_=>by kernel_rfl
  | 7,_,_=>by kernel_rfl
  | 8,_,_=>by kernel_rfl
  | 9,_,_=>by kernel_rfl
  | 10,_,_=>by kernel_rfl
  | 11,_,_=>by kernel_rfl
  | 12,_,_=>by kernel_rfl
  | 13,_,_=>by kernel_rfl
  | 14,_,_=>by kernel_rfl
  | 15,_,_=>by kernel_rfl
  | 16,_,_=>by kernel_rfl
  | n + 17,_,h=>by omega
theorem refderive_eq (k : Nat) (root a b : List UInt8) (n : Nat) (hr : root.length = 32) (ha : nameS a = true) (hb : nameS b = true) (h1 : 1 ≤ n) (h16 : n ≤ 16) :
    holdfastref07_Derive (k + 1200) root [a,b,numV n]=some (keyS root a b n,0):=by
  obtain ⟨a1,a2,_⟩:=name_nz ha
  obtain ⟨b1,b2,_⟩:=name_nz hb
  obtain ⟨_,n1,n2⟩:=num_v 0 n h1 h16
  unfold holdfastref07_Derive
  rw [show k + 1200=(k + 1170) + 30 from rfl,refkey3 (k + 1170) a b (numV n) a1 b1 n1 a2 b2 n2,Option.bind_some,if_neg (by simp)]
  rw [ref_bytes _ root hr (by omega),Option.bind_some,reftag_eq _ root _ (by omega) (by simp;omega) (by omega) (by simp;omega)]
  rfl
end Go.Proofs.YtjgbakieogadfabGreatDoor
