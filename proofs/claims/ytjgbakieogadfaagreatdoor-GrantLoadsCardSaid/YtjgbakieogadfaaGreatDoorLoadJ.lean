/-
  Joined by strip.py from plain texts of another seat.
-/
import Derived.Test.YtjgbakieogadfaaGreatDoorNum
import Derived.Test.YtjgbakieogadfaaGreatDoorGrantJ
import Derived.Test.YtjgbakieogadfaaGreatDoorLib13
namespace Go.Proofs.YtjgbakieogadfaaGreatDoor
open Go L Go.Sort
/-! a text cut at its first slash -/
def cutS : List UInt8 → List UInt8 × List UInt8 × Bool
  | []=>([],[],false)
  | c :: s=>if c=47 then ([],s,true) else (c :: (cutS s).1,(cutS s).2.1,(cutS s).2.2)
theorem cut_yes : ∀ {s : List UInt8}, (cutS s).2.2 = true → s = ((cutS s).1 ++ [47]) ++ (cutS s).2.1
  | [],h=>by cases h
  | c :: s,h=>by
    unfold cutS at h ⊢
    by_cases hc:c=47
    · rw [if_pos hc];subst hc;rfl
    · rw [if_neg hc] at h ⊢
      have:=cut_yes (s:=s) h
      simp only [List.cons_append]
      exact congrArg _ this
theorem cut_no : ∀ {s : List UInt8}, (cutS s).2.2 = false → cutS s = (s, [], false)
  | [],_=>rfl
  | c :: s,h=>by
    unfold cutS at h ⊢
    by_cases hc:c=47
    · rw [if_pos hc] at h;cases h
    · rw [if_neg hc] at h ⊢;rw [cut_no (s:=s) h]
theorem cut_len (s : List UInt8) : (cutS s).1.length + (cutS s).2.1.length ≤ s.length := by
  cases h:(cutS s).2.2 with
  | false=>rw [cut_no h];simp
  | true=>have:=congrArg List.length (cut_yes h);simp only [List.length_append,List.length_cons,List.length_nil] at this;omega
theorem cut_lt {s : List UInt8} (h : (cutS s).2.2 = true) : (cutS s).1.length + 1 + (cutS s).2.1.length = s.length := by
  have:=congrArg List.length (cut_yes h);simp only [List.length_append,List.length_cons,List.length_nil] at this;omega
theorem cut_take {s : List UInt8} (h : (cutS s).2.2 = true) : s.take (cutS s).1.length = (cutS s).1 ∧ s.drop ((cutS s).1.length + 1) = (cutS s).2.1 := by
  have e:=cut_yes h
  rw [List.append_assoc] at e
  refine ⟨?_,?_⟩
  · conv=>lhs;arg 2;rw [e]
    exact List.take_left
  · conv=>lhs;arg 2;rw [e]
    rw [← List.append_assoc,show (cutS s).1.length + 1=((cutS s).1++[47]).length by simp];exact List.drop_left
theorem split_l1 (s : List UInt8) (hs : s.length < 9223372036854775807) : ∀ (d k i : Nat), i + d = s.length → d < k →
    holdfastref09_Split.l1 k s (i:Int)=some (if (cutS (s.drop i)).2.2=true then .ret (s.take i++(cutS (s.drop i)).1,(cutS (s.drop i)).2.1,true) else .go ())
  | 0,k,i,h1,h2=>by
    obtain ⟨k,rfl⟩ : ∃ k',k=k' + 1:=⟨k - 1,by omega⟩
    rw [holdfastref09_Split.l1,if_neg (by simp <;> omega),List.drop_eq_nil_of_le (by omega)];rfl
  | d + 1,k,i,h1,h2=>by
    obtain ⟨k,rfl⟩ : ∃ k',k=k' + 1:=⟨k - 1,by omega⟩
    have hi:i < s.length:=by omega
    rw [holdfastref09_Split.l1,if_pos (by simp <;> omega),gtn hi,Option.bind_some,List.drop_eq_getElem_cons hi]
    unfold cutS
    by_cases hc:s[i]=47
    · rw [if_pos (by simpa using hc),show sub s (0:Int) (i:Int)=some ((s.take i).drop 0) from subn (Nat.zero_le _) (by omega),Option.bind_some,wsucc (by omega),subn (by omega) (Nat.le_refl _),Option.bind_some,if_pos hc,if_pos rfl,List.take_length,List.drop_zero];simp
    · rw [if_neg (by simpa using hc),wsucc (by omega),split_l1 s hs d k (i + 1) (by omega) (by omega),if_neg hc]
      have e:s.take (i + 1)=s.take i++[s[i]]:=by rw [List.take_add_one,List.getElem?_eq_getElem hi];rfl
      rw [e,List.append_assoc];rfl
theorem Split_eq (K : Nat) (s : List UInt8) (hs : s.length < 9223372036854775807) (hK : s.length < K) : holdfastref09_Split K s = some (cutS s) := by
  unfold holdfastref09_Split
  rw [show holdfastref09_Split.l1 K s 0=_ from split_l1 s hs s.length K 0 (by omega) hK,List.drop_zero,Option.bind_some]
  cases h:(cutS s).2.2 with
  | true =>
    rw [if_pos rfl]
    show some _=some _
    rw [List.take_zero,List.nil_append,← h]
  | false=>rw [if_neg (by decide),cut_no h];rfl
/-! the program's pieces of a text -/
theorem index_cut : ∀ s : List UInt8, Go.Lib.indexByte s 47 = if (cutS s).2.2 = true then ((cutS s).1.length : Int) else -1
  | []=>rfl
  | c :: s=>by
    unfold Go.Lib.indexByte cutS
    by_cases hc:c=47
    · rw [if_pos hc,if_pos (by simpa using hc)];rfl
    · rw [if_neg hc,if_neg (by simpa using hc),index_cut s]
      cases h:(cutS s).2.2 with
      | false=>rfl
      | true =>
        rw [if_pos rfl,if_pos rfl,if_neg,List.length_cons];· omega
        · rw [beq_iff_eq];omega
theorem idx_eq (K : Nat) (s : List UInt8) : strings_Index K s [47] = some (if (cutS s).2.2 = true then ((cutS s).1.length : Int) else -1) := by
  unfold strings_Index stringslite_Index stringslite_IndexByte
  by_cases h:s=[47]
  · subst h;rfl
  · rw [if_neg (by simpa using fun e=>h e.symm),if_pos (by rfl),show gt ([47] : List UInt8) (0:Int)=some 47 from rfl,Option.bind_some,Option.bind_some,Option.bind_some,index_cut]
def splS (s : List UInt8) : List (List UInt8) :=
  if (cutS s).2.2=true then (if (cutS (cutS s).2.1).2.2=true then [(cutS s).1,(cutS (cutS s).2.1).1,(cutS (cutS s).2.1).2.1] else [(cutS s).1,(cutS (cutS s).2.1).1]) else [s]
section
variable (K k : Nat) (s : List UInt8)
def nOf : Int := W ((minI (3 : Int) (W ((s.length : Int) + (1 : Int)))) - (1 : Int))
theorem gs_end {s5 : List UInt8} {a : List (List UInt8)} {i : Int} (h : ¬ i < nOf s) : strings_genSplit.l1 K (k + 1) 3 s [47] 0 s5 a i = some (s5, a, i) := by
  rw [strings_genSplit.l1,if_neg];exact fun h2=>h (of_decide_eq_true h2)
theorem gs_no {s5 : List UInt8} {a : List (List UInt8)} {i : Int} (hc : (cutS s5).2.2 = false) : strings_genSplit.l1 K (k + 1) 3 s [47] 0 s5 a i = some (s5, a, i) := by
  rw [strings_genSplit.l1]
  split
  · rw [idx_eq,Option.bind_some,hc];rfl
  · rfl
theorem gs_yes {s5 : List UInt8} {a : List (List UInt8)} {i : Nat} (h : (i : Int) < nOf s) (hl : s5.length < 9223372036854775807) (hi : i < a.length) (hi2 : i < 9223372036854775807) (hc : (cutS s5).2.2 = true) :
    strings_genSplit.l1 K (k + 1) 3 s [47] 0 s5 a (i:Int)=strings_genSplit.l1 K k 3 s [47] 0 (cutS s5).2.1 (a.set i (cutS s5).1) ((i + 1:Nat):Int):=by
  have h1:=cut_lt hc
  obtain ⟨e1,e2⟩:=cut_take hc
  rw [strings_genSplit.l1,if_pos (show decide ((i:Int) < W ((minI (3:Int) (W ((s.length:Int) + (1:Int)))) - (1:Int)))=true from decide_eq_true h),idx_eq,Option.bind_some,if_pos hc,if_neg (by simp <;> omega),wid (by omega),
    show sub s5 (0:Int) (((cutS s5).1.length:Int) + 0)=some ((s5.take (cutS s5).1.length).drop 0) from by rw [Int.add_zero];exact subn (Nat.zero_le _) (by omega),Option.bind_some,List.drop_zero,e1,
    req_ok ⟨by omega,by omega⟩,Option.bind_some,Option.bind_some,show (([47] : List UInt8).length:Int)=1 from rfl,wsucc (by omega),subn (by omega) (Nat.le_refl _),Option.bind_some,List.take_length,e2,wsucc hi2,Int.toNat_natCast]
end
theorem SplitN_eq (K : Nat) (s : List UInt8) (hs : s.length < 9223372036854775807) (hK : 4 ≤ K) : strings_SplitN K s [47] 3 = some (splS s) := by
  obtain ⟨k,rfl⟩ : ∃ k,K=k + 4:=⟨K - 4,by omega⟩
  unfold strings_SplitN strings_genSplit
  rw [if_neg (by decide),if_neg (by decide),if_neg (by decide)]
  unfold strings_genSplit.j1
  have hm:∃ m:Nat,m≤3∧1≤m∧m≤s.length + 1∧(3≤s.length + 1→m=3)∧(s.length + 1≤3→m=s.length + 1)∧minI (3:Int) (W ((s.length:Int) + (1:Int)))=(m:Int):=by
    rw [wid (by omega)];unfold minI
    by_cases h:(s.length:Int) + 1 < 3
    · exact ⟨s.length + 1,by omega,by omega,by omega,by omega,by omega,by rw [if_pos h];omega⟩
    · exact ⟨3,by omega,by omega,by omega,by omega,by omega,by rw [if_neg h];rfl⟩
  obtain ⟨m,h1,h2,h3,h3',h3'',h4⟩:=hm
  have hn:nOf s=((m - 1:Nat):Int):=by unfold nOf;rw [h4,wpred (by omega) (by omega)]
  rw [h4,mks_ok (by omega) (by omega),Option.bind_some,Int.toNat_natCast]
  have fin:∀ (s6:List UInt8) (a:List (List UInt8)) (i:Nat),i < a.length→i < 3→a.length≤3 →
      (req (0≤(i:Int)∧(i:Int) < (a.length:Int))).bind (fun _=>(some (a.set ((i:Int)).toNat s6)).bind fun a6=>(sub a6 (0:Int) (W ((i:Int) + (1:Int)))).bind fun ys1=>some ys1)=some ((a.set i s6).take (i + 1)):=by
    intro s6 a i hi h3 _
    rw [req_ok ⟨by omega,by omega⟩,Option.bind_some,Option.bind_some,wsucc (by omega),Int.toNat_natCast,show sub (a.set i s6) (0:Int) ((i + 1:Nat):Int)=some (((a.set i s6).take (i + 1)).drop 0) from subn (Nat.zero_le _) (by rw [List.length_set];omega),Option.bind_some,List.drop_zero]
  unfold splS
  cases c1:(cutS s).2.2 with
  | false =>
    rw [if_neg (by decide),gs_no _ _ _ c1,Option.bind_some]
    have:=fin s (List.replicate m []) 0 (by simp;omega) (by omega) (by simp;omega)
    refine (congrArg (fun z=>Option.bind z _) this).trans ?_
    match m,h2 with
    | m + 1,_=>rfl
  | true =>
    have l1:=cut_lt c1
    rw [if_pos rfl,show strings_genSplit.l1 (k + 4) (k + 4) 3 s [47] 0 s (List.replicate m []) 0=_ from gs_yes _ _ _ (i:=0) (by rw [hn];omega) hs (by simp;omega) (by omega) c1]
    cases c2:(cutS (cutS s).2.1).2.2 with
    | false =>
      rw [if_neg (by decide),gs_no _ _ _ c2,Option.bind_some]
      have:=fin (cutS s).2.1 ((List.replicate m []).set 0 (cutS s).1) 1 (by simp;omega) (by omega) (by simp;omega)
      refine (congrArg (fun z=>Option.bind z _) this).trans ?_
      rw [cut_no c2]
      have hm2:2≤m:=by omega
      match m,hm2 with
      | m + 2,_=>rfl
    | true =>
      have l2:=cut_lt c2
      have hm3:m=3:=by omega
      subst hm3
      rw [if_pos rfl,gs_yes _ _ _ (i:=1) (by rw [hn];decide) (by omega) (by simp) (by omega) c2,gs_end _ _ _ (by rw [hn];decide),Option.bind_some]
      have:=fin (cutS (cutS s).2.1).2.1 (((List.replicate 3 []).set 0 (cutS s).1).set 1 (cutS (cutS s).2.1).1) 2 (by simp) (by omega) (by simp)
      refine (congrArg (fun z=>Option.bind z _) this).trans ?_
      rfl
/-! numbers of eight bits, read -/
def digs : List UInt8 := [48, 49, 50, 51, 52, 53, 54, 55, 56, 57, 97, 98, 99, 100, 101, 102]
theorem digs_all : ((List.range 256).all fun n => !hx (UInt8.ofNat n) || digs.contains (UInt8.ofNat n)) = true := by kernel_rfl
theorem digs_mem {c : UInt8} (h : hx c = true) : c ∈ digs := by
  have h2:=List.all_eq_true.1 digs_all c.toNat (List.mem_range.2 c.toNat_lt)
  rw [UInt8.ofNat_toNat,h] at h2
  simpa using h2
theorem n1_all : (digs.all fun x => x == 48 || num8 (UInt8.ofNat (dv x)) == [98, x] && decide (1 ≤ dv x)) = true := by kernel_rfl
theorem n2_all : (digs.all fun x => x == 48 || digs.all fun y => num8 (UInt8.ofNat (dv x * 16 + dv y)) == [99, x, y]) = true := by kernel_rfl
theorem iU8_nat {n : Nat} (h : n ≤ 255) : iU8 (n : Int) = UInt8.ofNat n := by
  have key:((List.range 256).all fun n=>decide (iU8 (n:Int)=UInt8.ofNat n))=true:=by kernel_rfl
  exact of_decide_eq_true (List.all_eq_true.1 key n (List.mem_range.2 (by omega)))
theorem num8_zero : num8 (UInt8.ofNat 0) = [97] := by kernel_rfl
theorem tn_num8 {s : List UInt8} (h0 : (tnS s).2 = 0) (h1 : (tnS s).1 ≤ 255) : num8 (iU8 (tnS s).1) = s := by
  cases s with
  | nil=>cases h0
  | cons c ds =>
    rw [tnS_cons] at h0 h1 ⊢
    by_cases a1:c.toNat=97 + ds.length∧ds.length≤16
    · rw [if_pos a1] at h0 h1 ⊢
      by_cases a2:ds.all hx=true∧ds.head? ≠ some 48
      · rw [if_pos a2] at h0 h1 ⊢
        by_cases a3:val 0 ds≤4611686018427387904
        · rw [if_pos a3] at h0 h1 ⊢
          have hv:val 0 ds≤255:=by have h2:((val 0 ds:Nat):Int)≤255:=h1;omega
          have ec:∀ n:UInt8,n.toNat=97 + ds.length→c=n:=fun n e=>UInt8.toNat_inj.1 (a1.1.trans e.symm)
          show num8 (iU8 ((val 0 ds:Nat):Int))=c :: ds
          rw [iU8_nat hv]
          match ds,a1,a2,hv,ec with
          | [],_,_,_,ec=>rw [ec 97 rfl];exact num8_zero
          | [x],_,a2,_,ec =>
            have hx1:hx x=true:=by simpa using a2.1
            have:=List.all_eq_true.1 n1_all x (digs_mem hx1)
            rw [ec 98 rfl]
            have n48:x ≠ 48:=by simpa using a2.2
            simp only [Bool.or_eq_true,Bool.and_eq_true,beq_iff_eq,n48,false_or] at this
            rw [show val 0 [x]=dv x from by show 0 * 16 + dv x=dv x;omega];exact this.1
          | [x,y],_,a2,_,ec =>
            have hxy:hx x=true∧hx y=true:=by simpa using a2.1
            have:=List.all_eq_true.1 n2_all x (digs_mem hxy.1)
            rw [ec 99 rfl]
            have n48:x ≠ 48:=by simpa using a2.2
            simp only [Bool.or_eq_true,beq_iff_eq,n48,false_or] at this
            have:=List.all_eq_true.1 this y (digs_mem hxy.2)
            rw [show val 0 [x,y]=dv x * 16 + dv y from by show (0 * 16 + dv x) * 16 + dv y=_;omega];simpa using this
          | x :: y :: z :: l,_,a2,hv,_ =>
            have hx1:hx x=true:=by have:=a2.1;simp only [List.all_cons,Bool.and_eq_true] at this;exact this.1
            have:=List.all_eq_true.1 n1_all x (digs_mem hx1)
            have n48:x ≠ 48:=by simpa using a2.2
            simp only [Bool.or_eq_true,Bool.and_eq_true,beq_iff_eq,n48,false_or,decide_eq_true_eq] at this
            have:=val_ge l ((((0 * 16 + dv x) * 16 + dv y) * 16) + dv z)
            have e:val 0 (x :: y :: z :: l)=val ((((0 * 16 + dv x) * 16 + dv y) * 16) + dv z) l:=rfl
            omega
        · rw [if_neg a3] at h0;cases h0
      · rw [if_neg a2] at h0;cases h0
    · rw [if_neg a1] at h0;cases h0
open Go L Go.Sort
section
variable (r : S_api_Row)
abbrev rT : List UInt8 := (cutS r.Key).1
abbrev rOk : Bool := (cutS r.Key).2.2
abbrev rU : List UInt8 := (cutS (cutS r.Key).2.1).1
abbrev rC : List UInt8 := (cutS (cutS r.Key).2.1).2.1
abbrev more : Bool := (cutS (cutS r.Key).2.1).2.2
def num : Int × Int := tnS ((r.Columns.getLast?).getD [])
def nok : Bool := decide ((num r).2 = 0) && decide ((num r).1 ≤ 255)
def good : Bool := rOk r && decide (r.Columns.length = if more r = true then 1 else 2) && nok r
def cl : S_api_Client := ⟨rT r, rU r, (r.Columns.head?).getD [], iU8 (num r).1⟩
def co : S_api_Consent := ⟨⟨rT r, rU r⟩, rC r, iU8 (num r).1⟩
end
def lt1 : Option S_api_Row → S_api_Row → Bool
  | none,_=>true
  | some p,r=>ltS p.Key r.Key
def pstep (s : GS) (later : List S_api_Consent) (r : S_api_Row) : Option (GS × List S_api_Consent) :=
  if good r=true then (if more r=true then some (s,later++[co r]) else if (regS s (cl r)).1=0 then some ((regS s (cl r)).2,later) else none) else none
def loadP : Option S_api_Row → List S_api_Row → GS → List S_api_Consent → Option (GS × List S_api_Consent)
  | _,[],s,l=>some (s,l)
  | p,r :: rs,s,l=>if lt1 p r=true then (pstep s l r).bind fun q=>loadP (some r) rs q.1 q.2 else none
def allowL : List S_api_Consent → GS → Option GS
  | [],s=>some s
  | c :: cs,s=>if (allowS s c).1=0 then allowL cs (allowS s c).2 else none
structure RowB (K : Nat) (r : S_api_Row) : Prop where
  k:r.Key.length < K∧r.Key.length < 9223372036854775807
  c:r.Columns.length < K∧r.Columns.length < 4611686018427387904
  t:∀ c ∈ r.Columns,c.length≤9223372036854775807
abbrev LkP := List (S_grant_name × S_api_Client) → List (S_grant_use × UInt8) → List S_api_Consent → Option (Lr ((Option S_grant_Store) × Int) ((List (S_grant_name × S_api_Client)) × (List (S_grant_use × UInt8)) × (List S_api_Consent)))
noncomputable def bodyP (K : Nat) (lk : LkP) (e1 : S_api_Row) (r_1 : List (List UInt8)) (x : List (S_grant_name × S_api_Client)) (x1 : List (S_grant_use × UInt8)) (later : List S_api_Consent) :
    Option (Lr ((Option S_grant_Store) × Int) ((List (S_grant_name × S_api_Client)) × (List (S_grant_use × UInt8)) × (List S_api_Consent))) :=
  if (decide ((r_1.length:Int) < (2:Int)))=true then (some (.ret (none,(3:Int)))) else (if (!decide ((e1.Columns.length:Int)=W ((4:Int) - (r_1.length:Int))))=true then (some (.ret (none,(3:Int)))) else ((gt e1.Columns (W ((e1.Columns.length:Int) - (1:Int)))).bind fun e10=>((codec_ToNumber K e10).bind fun r_4=>(if ((!decide (r_4.2=(0:Int))) || (decide ((255:Int) < r_4.1)))=true then (some (.ret (none,(3:Int)))) else (if (decide ((r_1.length:Int)=(3:Int)))=true then ((gt r_1 (0:Int)).bind fun e11=>((gt r_1 (1:Int)).bind fun e12=>((gt r_1 (2:Int)).bind fun e13=>((some ([(⟨(⟨e11,e12⟩ : S_api_Owner),e13,iU8 r_4.1⟩ : S_api_Consent)] : List S_api_Consent)).bind fun l2=>((app 3769754152374 later l2).bind fun later3=>(lk x x1 later3)))))) else ((gt r_1 (0:Int)).bind fun e14=>((gt r_1 (1:Int)).bind fun e15=>((gt e1.Columns (0:Int)).bind fun e16=>((grant_Store_Register K (⟨x,x1⟩ : S_grant_Store) (⟨e14,e15,e16,iU8 r_4.1⟩ : S_api_Client)).bind fun r_5=>(if (!decide (r_5.1=(0:Int)))=true then (some (.ret (none,(3:Int)))) else (lk r_5.2.clients r_5.2.consents later)))))))))))
theorem nok_if (r : S_api_Row) : ((!decide ((num r).2 = (0 : Int))) || (decide ((255 : Int) < (num r).1))) = !nok r := by
  unfold nok
  rw [Bool.not_and]
  congr 1
  by_cases h:(num r).1≤255
  · rw [decide_eq_true h,decide_eq_false (by omega)];rfl
  · rw [decide_eq_false h,decide_eq_true (by omega)];rfl
theorem spl_1 {r : S_api_Row} (h : rOk r = false) : splS r.Key = [r.Key] := by unfold splS; rw [if_neg]; rw [show (cutS r.Key).2.2 = false from h]; decide
theorem spl_3 {r : S_api_Row} (h : rOk r = true) (h2 : more r = true) : splS r.Key = [rT r, rU r, rC r] := by unfold splS; rw [if_pos h, if_pos h2]
theorem spl_2 {r : S_api_Row} (h : rOk r = true) (h2 : more r = false) : splS r.Key = [rT r, rU r] := by
  unfold splS;rw [if_pos h,if_neg];rw [show (cutS (cutS r.Key).2.1).2.2=false from h2];decide
theorem body_eq (K : Nat) (hK : 20 ≤ K) (lk : LkP) (r : S_api_Row) (hr : RowB K r) (s : GS) (later : List S_api_Consent) (hs : s.clients.length ≤ 3750000000000) (hl : later.length < 3750000000000) :
    bodyP K lk r (splS r.Key) s.clients s.consents later=(pstep s later r).elim (some (.ret (none,3))) fun q=>lk q.1.clients q.1.consents q.2:=by
  unfold bodyP pstep good
  cases h1:rOk r with
  | false=>rw [spl_1 h1,if_pos (by simp)];simp
  | true =>
    cases h2:more r with
    | true =>
      rw [spl_3 h1 h2,if_neg (by simp),show W ((4:Int) - (([rT r,rU r,rC r] : List (List UInt8)).length:Int))=1 from rfl]
      match hc:r.Columns with
      | []=>rw [if_pos (by decide)];simp
      | a :: b :: l=>rw [if_pos (by simp <;> omega)];simp
      | [a] =>
        have hn:num r=tnS a:=by unfold num;rw [hc];rfl
        rw [if_neg (by simp),show gt [a] (W ((([a] : List (List UInt8)).length:Int) - 1))=some a from rfl,Option.bind_some,tn_eq K a hK (hr.t a (by rw [hc];exact List.mem_singleton.2 rfl)),Option.bind_some,← hn,nok_if]
        cases h3:nok r with
        | false=>rw [if_pos (by decide)];simp
        | true =>
          rw [if_neg (by decide),if_pos (by simp),show gt [rT r,rU r,rC r] (0:Int)=some (rT r) from rfl,Option.bind_some,
            show gt [rT r,rU r,rC r] (1:Int)=some (rU r) from rfl,Option.bind_some,
            show gt [rT r,rU r,rC r] (2:Int)=some (rC r) from rfl,Option.bind_some,Option.bind_some,appn (by simp only [List.length_cons,List.length_nil];omega),Option.bind_some]
          rfl
    | false =>
      rw [spl_2 h1 h2,if_neg (by simp),show W ((4:Int) - (([rT r,rU r] : List (List UInt8)).length:Int))=2 from rfl]
      match hc:r.Columns with
      | []=>rw [if_pos (by decide)];simp
      | [a]=>rw [if_pos (by simp)];simp
      | a :: b :: d :: l=>rw [if_pos (by simp <;> omega)];simp
      | [a,b] =>
        have hn:num r=tnS b:=by unfold num;rw [hc];rfl
        rw [if_neg (by simp),show gt [a,b] (W ((([a,b] : List (List UInt8)).length:Int) - 1))=some b from rfl,Option.bind_some,tn_eq K b hK (hr.t b (by rw [hc];simp)),Option.bind_some,← hn,nok_if]
        cases h3:nok r with
        | false=>rw [if_pos (by decide)];simp
        | true =>
          have hcl:(⟨rT r,rU r,a,iU8 (num r).1⟩ : S_api_Client)=cl r:=by unfold cl;rw [hc];rfl
          rw [if_neg (by decide),if_neg (by simp),show gt [rT r,rU r] (0:Int)=some (rT r) from rfl,Option.bind_some,
            show gt [rT r,rU r] (1:Int)=some (rU r) from rfl,Option.bind_some,show gt [a,b] (0:Int)=some a from rfl,Option.bind_some,hcl,show grant_Store_Register K ⟨s.clients,s.consents⟩ (cl r)=_ from Register_eq K s (cl r) hs,Option.bind_some]
          by_cases h4:(regS s (cl r)).1=0
          · rw [if_neg (by simpa using h4)];simp [h4]
          · rw [if_pos (by simpa using h4)];simp [h4]
theorem load_l1 (K : Nat) (hK : 20 ≤ K) (rows : List S_api_Row) (hN : rows.length ≤ 3740000000000) (hr : ∀ r ∈ rows, RowB K r) : ∀ (d k i m : Nat) (s : GS) (later : List S_api_Consent), i + d = rows.length → d < k → Inv m s → m + later.length = i →
    grant_Load.l1 K k rows s.clients s.consents later (i:Int)=some ((loadP (if i=0 then none else rows[i - 1]?) (rows.drop i) s later).elim (.ret (none,3)) fun q => .go (q.1.clients,q.1.consents,q.2)) ∧
      ∀ q,loadP (if i=0 then none else rows[i - 1]?) (rows.drop i) s later=some q→∃ m,Inv m q.1∧m + q.2.length=rows.length
  | 0,k,i,m,s,later,h1,h2,h3,h4=>by
    obtain ⟨k,rfl⟩ : ∃ k',k=k' + 1:=⟨k - 1,by omega⟩
    rw [grant_Load.l1,if_neg (by simp <;> omega),List.drop_eq_nil_of_le (by omega)]
    refine ⟨rfl,fun q hq=>?_⟩
    unfold loadP at hq;cases hq;exact ⟨m,h3,show m + later.length=rows.length by omega⟩
  | d + 1,k,i,m,s,later,h1,h2,h3,h4=>by
    obtain ⟨k,rfl⟩ : ∃ k',k=k' + 1:=⟨k - 1,by omega⟩
    have hi:i < rows.length:=by omega
    have hR:=hr rows[i] (List.getElem_mem hi)
    have hc:=h3.lc
    have hb:=body_eq K hK (fun x x1 l=>grant_Load.l1 K k rows x x1 l (W ((i:Int) + 1))) rows[i] hR s later (by omega) (by omega)
    have hstep:(if (decide ((i:Int) < (rows.length:Int)))=true then ((gt rows (i:Int)).bind fun e1=>((strings_SplitN K e1.Key ([47] : List UInt8) (3:Int)).bind fun r_1=>(if (decide ((0:Int) < (i:Int)))=true then ((gt rows (W ((i:Int) - (1:Int)))).bind fun e2=>(if (!ltS e2.Key e1.Key)=true then (some (.ret (none,(3:Int)))) else bodyP K (fun x x1 l=>grant_Load.l1 K k rows x x1 l (W ((i:Int) + 1))) e1 r_1 s.clients s.consents later)) else bodyP K (fun x x1 l=>grant_Load.l1 K k rows x x1 l (W ((i:Int) + 1))) e1 r_1 s.clients s.consents later))) else (some (.go (s.clients,s.consents,later)))) =
        if lt1 (if i=0 then none else rows[i - 1]?) rows[i]=true then (pstep s later rows[i]).elim (some (.ret (none,3))) (fun q=>grant_Load.l1 K k rows q.1.clients q.1.consents q.2 (W ((i:Int) + 1))) else some (.ret (none,3)):=by
      rw [if_pos (by simpa using hi),gtn hi,Option.bind_some,SplitN_eq K _ hR.k.2 (by omega),Option.bind_some,hb]
      by_cases h0:i=0
      · rw [if_neg (by simp [h0]),if_pos h0];rfl
      · have hi1:i - 1 < rows.length:=by omega
        rw [if_pos (by simp <;> omega),wpred (by omega) (by omega),gtn hi1,Option.bind_some,if_neg h0,List.getElem?_eq_getElem hi1]
        show (if (!ltS rows[i - 1].Key rows[i].Key)=true then _ else _)=if ltS rows[i - 1].Key rows[i].Key=true then _ else _
        cases ltS rows[i - 1].Key rows[i].Key <;> rfl
    rw [List.drop_eq_getElem_cons hi]
    unfold loadP
    have hl1:grant_Load.l1 K (k + 1) rows s.clients s.consents later (i:Int)=_:=hstep
    rw [hl1]
    by_cases hlt:lt1 (if i=0 then none else rows[i - 1]?) rows[i]=true
    · rw [if_pos hlt,if_pos hlt]
      have next:∀ (m' : Nat) (s' : GS) (later' : List S_api_Consent),Inv m' s'→m' + later'.length=i + 1 →
          grant_Load.l1 K k rows s'.clients s'.consents later' (W ((i:Int) + 1))=some ((loadP (some rows[i]) (rows.drop (i + 1)) s' later').elim (.ret (none,3)) fun q => .go (q.1.clients,q.1.consents,q.2)) ∧
          ∀ q,loadP (some rows[i]) (rows.drop (i + 1)) s' later'=some q→∃ m,Inv m q.1∧m + q.2.length=rows.length:=by
        intro m' s' later' hm hl
        have:=load_l1 K hK rows hN hr d k (i + 1) m' s' later' (by omega) (by omega) hm hl
        rw [if_neg (by omega),Nat.add_sub_cancel,List.getElem?_eq_getElem hi] at this
        rw [wsucc (by omega)];exact this
      unfold pstep
      by_cases hg:good rows[i]=true
      · rw [if_pos hg]
        by_cases hm:more rows[i]=true
        · rw [if_pos hm]
          exact next m s _ h3 (by simp only [List.length_append,List.length_cons,List.length_nil];omega)
        · rw [if_neg hm]
          by_cases he:(regS s (cl rows[i])).1=0
          · rw [if_pos he]
            exact next (m + 1) (regS s (cl rows[i])).2 later (inv_reg h3 _) (by omega)
          · rw [if_neg he];exact ⟨rfl,fun q hq=>by cases hq⟩
      · rw [if_neg hg];exact ⟨rfl,fun q hq=>by cases hq⟩
    · rw [if_neg hlt,if_neg hlt];exact ⟨rfl,fun q hq=>by cases hq⟩
theorem load_l2 (K : Nat) (cs : List S_api_Consent) : ∀ (d k i m : Nat) (s : GS), i + d = cs.length → d < k → Inv m s → m + d ≤ 3740000000000 → cs.length ≤ 3740000000000 →
    grant_Load.l2 K k cs s.clients s.consents (i:Int)=some ((allowL (cs.drop i) s).elim (.ret (none,3)) fun q => .go (q.clients,q.consents))∧∀ q,allowL (cs.drop i) s=some q→Inv (m + d) q
  | 0,k,i,m,s,h1,h2,h3,_,_=>by
    obtain ⟨k,rfl⟩ : ∃ k',k=k' + 1:=⟨k - 1,by omega⟩
    rw [grant_Load.l2,if_neg (by simp <;> omega),List.drop_eq_nil_of_le (by omega)]
    exact ⟨rfl,fun q hq=>by unfold allowL at hq;cases hq;exact h3⟩
  | d + 1,k,i,m,s,h1,h2,h3,h4,h5=>by
    obtain ⟨k,rfl⟩ : ∃ k',k=k' + 1:=⟨k - 1,by omega⟩
    have hi:i < cs.length:=by omega
    have hl:=h3.ls
    rw [grant_Load.l2,if_pos (by simpa using hi),gtn hi,Option.bind_some,show grant_Store_Allow K ⟨s.clients,s.consents⟩ cs[i]=_ from Allow_eq K s cs[i] h3.ns (by omega),Option.bind_some,List.drop_eq_getElem_cons hi]
    unfold allowL
    by_cases he:(allowS s cs[i]).1=0
    · rw [if_neg (by simpa using he),if_pos he,wsucc (by omega)]
      have:=load_l2 K cs d k (i + 1) (m + 1) _ (by omega) (by omega) (inv_allow h3 cs[i]) (by omega) h5
      rw [show m + (d + 1)=m + 1 + d by omega];exact this
    · rw [if_pos (by simpa using he),if_neg he];exact ⟨rfl,fun q hq=>by cases hq⟩
def loadS (rows : List S_api_Row) : Option GS := (loadP none rows ⟨[], []⟩ []).bind fun q => allowL q.2 q.1
theorem inv0 : Inv 0 ⟨[], []⟩ := rel0.inv
theorem Load_eq (K : Nat) (hK : 3750000000000 < K) (rows : List S_api_Row) (hN : rows.length ≤ 3740000000000) (hr : ∀ r ∈ rows, RowB K r) :
    grant_Load K rows=some ((loadS rows).elim (none,3) fun s=>(some s,0))∧∀ s,loadS rows=some s→Inv rows.length s:=by
  obtain ⟨h1,h2⟩:=load_l1 K (by omega) rows hN hr rows.length K 0 0 ⟨[],[]⟩ [] (by omega) (by omega) inv0 rfl
  rw [if_pos rfl,List.drop_zero] at h1 h2
  unfold grant_Load grant_New loadS
  rw [Option.bind_some,show grant_Load.l1 K K rows [] [] [] 0=_ from h1,Option.bind_some]
  cases hq:loadP none rows ⟨[],[]⟩ [] with
  | none=>exact ⟨rfl,fun s hs=>by cases hs⟩
  | some q =>
    obtain ⟨m,hm,hl⟩:=h2 q hq
    obtain ⟨h3,h4⟩:=load_l2 K q.2 q.2.length K 0 m q.1 (by omega) (by omega) hm (by omega) (by omega)
    rw [List.drop_zero] at h3 h4
    rw [hl] at h4
    rw [Option.bind_some]
    refine ⟨?_,h4⟩
    show ((grant_Load.l2 K K q.2 q.1.clients q.1.consents 0).bind _)=_
    rw [show grant_Load.l2 K K q.2 q.1.clients q.1.consents 0=_ from h3,Option.bind_some]
    cases allowL q.2 q.1 <;> rfl
open Go L Go.Sort
def rise : Option S_api_Row → List S_api_Row → Bool
  | _,[]=>true
  | p,r :: rs=>lt1 p r && rise (some r) rs
theorem rise_cons (p : Option S_api_Row) (r : S_api_Row) (rs : List S_api_Row) : rise p (r :: rs) = (lt1 p r && rise (some r) rs) := rfl
def docR : List S_api_Row → GS → Option GS
  | [],s=>some s
  | r :: rs,s=>if more r=true then docR rs s else if (regS s (cl r)).1=0 then docR rs (regS s (cl r)).2 else none
def weak (r : S_api_Row) : Bool := rOk r && !decide (r.Columns.length = 0) && nok r
def docA : List S_api_Row → GS → Option GS
  | [],s=>some s
  | r :: rs,s=>if weak r=true then (if more r=true then docA rs s else if r.Columns.length=2∧(regS s (cl r)).1=0 then docA rs (regS s (cl r)).2 else none) else none
def docB : List S_api_Row → GS → Option GS
  | [],s=>some s
  | r :: rs,s=>if weak r=true then (if more r=true then (if r.Columns.length=1∧(allowS s (co r)).1=0 then docB rs (allowS s (co r)).2 else none) else docB rs s) else none
theorem good_weak (r : S_api_Row) : good r = (weak r && decide (r.Columns.length = if more r = true then 1 else 2)) := by
  unfold good weak
  by_cases h:r.Columns.length=if more r=true then 1 else 2
  · have h0 : ¬ r.Columns.length=0:=by rw [h];split <;> decide
    rw [decide_eq_true h,decide_eq_false h0];cases rOk r <;> cases nok r <;> rfl
  · rw [decide_eq_false h];cases rOk r <;> cases nok r <;> cases decide (r.Columns.length=0) <;> rfl
theorem loadP_eq : ∀ (rows : List S_api_Row) (p : Option S_api_Row) (s : GS) (l : List S_api_Consent),
    loadP p rows s l=if rise p rows=true∧rows.all good=true then (docR rows s).map fun s'=>(s',l++(rows.filter more).map co) else none
  | [],p,s,l=>by simp [loadP,rise,docR]
  | r :: rs,p,s,l=>by
    unfold loadP rise docR
    rw [List.all_cons]
    by_cases h1:lt1 p r=true
    · rw [if_pos h1,h1,Bool.true_and]
      unfold pstep
      by_cases h2:good r=true
      · rw [if_pos h2,h2,Bool.true_and]
        by_cases h3:more r=true
        · rw [if_pos h3,if_pos h3,Option.bind_some,loadP_eq rs,List.filter_cons,if_pos h3,List.map_cons,List.append_assoc];rfl
        · rw [if_neg h3,if_neg h3,List.filter_cons,if_neg h3]
          by_cases h4:(regS s (cl r)).1=0
          · rw [if_pos h4,if_pos h4,Option.bind_some,loadP_eq rs]
          · rw [if_neg h4,if_neg h4];simp
      · rw [if_neg h2,if_neg];· rfl
        · simp [h2]
    · rw [if_neg h1,if_neg]
      simp [h1]
theorem docA_eq : ∀ (rows : List S_api_Row) (s : GS), docA rows s = if (rows.all fun r => weak r && (more r || decide (r.Columns.length = 2))) = true then docR rows s else none
  | [],s=>rfl
  | r :: rs,s=>by
    unfold docA docR
    rw [List.all_cons]
    by_cases h2:weak r=true
    · rw [if_pos h2,h2,Bool.true_and]
      by_cases h3:more r=true
      · rw [if_pos h3,if_pos h3,h3,Bool.true_or,Bool.true_and,docA_eq rs]
      · rw [if_neg h3,if_neg h3]
        by_cases h5:r.Columns.length=2
        · by_cases h4:(regS s (cl r)).1=0
          · rw [if_pos ⟨h5,h4⟩,if_pos h4,docA_eq rs,decide_eq_true h5,Bool.or_true,Bool.true_and]
          · rw [if_neg (fun h=>h4 h.2),if_neg h4];simp
        · rw [if_neg (fun h=>h5 h.1),if_neg]
          simp [h3,h5]
    · rw [if_neg h2,if_neg]
      simp [h2]
theorem docB_eq : ∀ (rows : List S_api_Row) (s : GS), docB rows s = if (rows.all fun r => weak r && (!more r || decide (r.Columns.length = 1))) = true then allowL ((rows.filter more).map co) s else none
  | [],s=>rfl
  | r :: rs,s=>by
    unfold docB
    rw [List.all_cons,List.filter_cons]
    by_cases h2:weak r=true
    · rw [if_pos h2,h2,Bool.true_and]
      by_cases h3:more r=true
      · rw [if_pos h3,if_pos h3,List.map_cons]
        unfold allowL
        by_cases h5:r.Columns.length=1
        · by_cases h4:(allowS s (co r)).1=0
          · rw [if_pos ⟨h5,h4⟩,if_pos h4,docB_eq rs,decide_eq_true h5,Bool.or_true,Bool.true_and]
          · rw [if_neg (fun h=>h4 h.2),if_neg h4];simp
        · rw [if_neg (fun h=>h5 h.1),if_neg]
          simp [h3,h5]
      · rw [if_neg h3,if_neg h3,docB_eq rs]
        simp [h3]
    · rw [if_neg h2,if_neg]
      simp [h2]
theorem all_good (rows : List S_api_Row) : rows.all good = ((rows.all fun r => weak r && (more r || decide (r.Columns.length = 2))) && (rows.all fun r => weak r && (!more r || decide (r.Columns.length = 1)))) := by
  induction rows with
  | nil=>rfl
  | cons r rs ih =>
    rw [List.all_cons,List.all_cons,List.all_cons,ih,good_weak]
    cases weak r <;> cases more r <;> simp <;> cases decide (r.Columns.length=1) <;> cases decide (r.Columns.length=2) <;> simp
theorem both (rows : List S_api_Row) : loadS rows = if rise none rows = true then (docA rows ⟨[], []⟩).bind (docB rows) else none := by
  unfold loadS
  rw [loadP_eq,docA_eq,all_good]
  by_cases h1:rise none rows=true
  · rw [if_pos h1,h1]
    cases h2:rows.all fun r=>weak r && (more r || decide (r.Columns.length=2)) with
    | false=>simp
    | true =>
      rw [if_pos rfl,Bool.true_and]
      cases hd:docR rows ⟨[],[]⟩ with
      | none=>simp
      | some s =>
        rw [Option.bind_some,docB_eq]
        cases h3:rows.all fun r=>weak r && (!more r || decide (r.Columns.length=1)) with
        | false=>simp
        | true=>simp
  · rw [if_neg h1,if_neg (fun h=>h1 h.1)];rfl
/-! the document's loops -/
theorem rl1 (rows : List S_api_Row) (hN : rows.length ≤ 3740000000000) : ∀ (d k i : Nat), i + d = rows.length → d < k →
    holdfastref13_Load.l1 k rows (i:Int)=some (if rise (if i=0 then none else rows[i - 1]?) (rows.drop i)=true then .go () else .ret (none,3))
  | 0,k,i,h1,h2=>by
    obtain ⟨k,rfl⟩ : ∃ k',k=k' + 1:=⟨k - 1,by omega⟩
    rw [holdfastref13_Load.l1,if_neg (by simp <;> omega),List.drop_eq_nil_of_le (by omega)];rfl
  | d + 1,k,i,h1,h2=>by
    obtain ⟨k,rfl⟩ : ∃ k',k=k' + 1:=⟨k - 1,by omega⟩
    have hi:i < rows.length:=by omega
    have next:=rl1 rows hN d k (i + 1) (by omega) (by omega)
    rw [if_neg (show ¬ i + 1=0 by omega),Nat.add_sub_cancel,List.getElem?_eq_getElem hi] at next
    rw [holdfastref13_Load.l1,if_pos (by simpa using hi),List.drop_eq_getElem_cons hi,wsucc (by omega),next,rise_cons]
    by_cases h0:i=0
    · rw [if_neg (by simp [h0]),if_pos h0];simp [lt1]
    · have hi1:i - 1 < rows.length:=by omega
      rw [if_pos (by simp <;> omega),wpred (by omega) (by omega),gtn hi1,Option.bind_some,gtn hi,Option.bind_some,if_neg h0,List.getElem?_eq_getElem hi1]
      show _=some (if (ltS rows[i - 1].Key rows[i].Key && _)=true then _ else _)
      cases ltS rows[i - 1].Key rows[i].Key <;> simp
theorem rowB_nm {K : Nat} {r : S_api_Row} (h : RowB K r) : Nm K (rT r) ∧ Nm K (rU r) := by
  have h1:=cut_len r.Key;have h2:=cut_len (cutS r.Key).2.1
  have hk:=h.k
  exact ⟨⟨Nat.lt_of_le_of_lt (Nat.le_trans (Nat.le_add_right _ _) h1) hk.1,by show (cutS r.Key).1.length≤_;omega⟩,⟨by show (cutS (cutS r.Key).2.1).1.length < _;omega,by show (cutS (cutS r.Key).2.1).1.length≤_;omega⟩⟩
def OR (n : Nat) : Option GS → Option RS → Prop
  | none,none=>True
  | some s,some r=>Rel n s r
  | _,_=>False
theorem cut_rows {K : Nat} {r : S_api_Row} (h : RowB K r) (hK : 0 < K) : holdfastref09_Split K r.Key = some (cutS r.Key) ∧ holdfastref09_Split K (cutS r.Key).2.1 = some (cutS (cutS r.Key).2.1) := by
  have h1:=cut_len r.Key;have hk:=h.k
  exact ⟨Split_eq K _ hk.2 hk.1,Split_eq K _ (by omega) (by omega)⟩
theorem l3_head (K : Nat) (hK : 20 ≤ K) (rows : List S_api_Row) (r : RS) (turn : Int) (k i : Nat) (hi : i < rows.length) (hN : rows.length ≤ 3740000000000) (hR : RowB K rows[i]) :
    holdfastref13_Load.l3 K (k + 1) rows turn r.c_ r.a (i:Int)=if weak rows[i]=true then
      (if (more rows[i] && (decide (turn=(1:Int))))=true then ((if (!decide ((rows[i].Columns.length:Int)=(1:Int)))=true then some (true,r.c_,r.a) else ((holdfastref13_Store_Allow K ⟨r.c_,r.a⟩ (co rows[i])).bind fun r_4=>(some (!decide (r_4.1=(0:Int)),r_4.2.c_,r_4.2.a)))).bind fun q3=>(if q3.1=true then (some (.ret (none,(3:Int)))) else (holdfastref13_Load.j1 K (holdfastref13_Load.l3 K k rows turn) (cutS (cutS rows[i].Key).2.1) turn rows[i] (cutS rows[i].Key) (num rows[i]) i q3.2.1 q3.2.2)))
        else (holdfastref13_Load.j1 K (holdfastref13_Load.l3 K k rows turn) (cutS (cutS rows[i].Key).2.1) turn rows[i] (cutS rows[i].Key) (num rows[i]) i r.c_ r.a))
      else some (.ret (none,3)):=by
  obtain ⟨c1,c2⟩:=cut_rows hR (by omega)
  have hc2:=hR.c.2
  rw [holdfastref13_Load.l3,if_pos (by simpa using hi),gtn hi,Option.bind_some,c1,Option.bind_some,c2,Option.bind_some]
  unfold weak
  cases h1:rOk rows[i] with
  | false=>rw [show (cutS rows[i].Key).2.2=false from h1,if_pos (by simp)];rfl
  | true =>
    rw [show (cutS rows[i].Key).2.2=true from h1,Bool.not_true,Bool.false_or,Bool.true_and]
    by_cases h2:rows[i].Columns.length=0
    · rw [if_pos (by simpa using h2),if_neg (by simp [h2])]
    · have hl:rows[i].Columns.length - 1 < rows[i].Columns.length:=by omega
      have hlast:num rows[i]=tnS rows[i].Columns[rows[i].Columns.length - 1]:=by
        unfold num;rw [List.getLast?_eq_getElem?,List.getElem?_eq_getElem hl];rfl
      rw [if_neg (by simpa using h2),wpred (by omega) (by omega),gtn hl,Option.bind_some,dtn_eq K _ hK (hR.t _ (List.getElem_mem hl)),Option.bind_some,← hlast,nok_if,decide_eq_false h2]
      cases h3:nok rows[i] with
      | false=>rw [if_pos (by decide)];rfl
      | true=>rw [if_neg (by decide)];rfl
theorem l3_a (K : Nat) (hK : 3750000000000 < K) (rows : List S_api_Row) (hN : rows.length ≤ 3740000000000) (hr : ∀ r ∈ rows, RowB K r) : ∀ (d k i n m : Nat) (s : GS) (r : RS), i + d = rows.length → d < k → Rel n s r → n + ((rows.drop i).filter fun r => !more r).length ≤ m → m ≤ 3740000000000 →
    ∃ o,holdfastref13_Load.l3 K k rows 0 r.c_ r.a (i:Int)=some (o.elim (.ret (none,3)) fun r' : RS => .go (r'.c_,r'.a))∧OR m (docA (rows.drop i) s) o
  | 0,k,i,n,m,s,r,h1,h2,h3,h4,h5=>by
    obtain ⟨k,rfl⟩ : ∃ k',k=k' + 1:=⟨k - 1,by omega⟩
    rw [holdfastref13_Load.l3,if_neg (by simp <;> omega),List.drop_eq_nil_of_le (by omega)]
    exact ⟨some r,rfl,h3.mono (by omega)⟩
  | d + 1,k,i,n,m,s,r,h1,h2,h3,h4,h5=>by
    obtain ⟨k,rfl⟩ : ∃ k',k=k' + 1:=⟨k - 1,by omega⟩
    have hi:i < rows.length:=by omega
    have hR:=hr rows[i] (List.getElem_mem hi)
    rw [l3_head K (by omega) rows r 0 k i hi hN hR,List.drop_eq_getElem_cons hi]
    rw [List.drop_eq_getElem_cons hi,List.filter_cons] at h4
    unfold docA
    by_cases hw:weak rows[i]=true
    · rw [if_pos hw,if_pos hw,if_neg (by simp)]
      unfold holdfastref13_Load.j1
      by_cases hm:more rows[i]=true
      · rw [if_pos hm,if_neg (by rw [show (cutS (cutS rows[i].Key).2.1).2.2=true from hm];decide),wsucc (by omega)]
        rw [if_neg (by simp [hm])] at h4
        exact l3_a K hK rows hN hr d k (i + 1) n m s r (by omega) (by omega) h3 h4 h5
      · rw [if_neg hm,if_pos (by rw [show (cutS (cutS rows[i].Key).2.1).2.2=false from by simpa using hm];decide)]
        rw [if_pos (by simp [hm]),List.length_cons] at h4
        by_cases hc:rows[i].Columns.length=2
        · have hcl:(⟨(cutS rows[i].Key).1,(cutS (cutS rows[i].Key).2.1).1,rows[i].Columns[0],iU8 (num rows[i]).1⟩ : S_api_Client)=cl rows[i]:=by
            unfold cl;rw [List.head?_eq_getElem?,List.getElem?_eq_getElem (by omega)];rfl
          obtain ⟨r',e1,e2⟩:=step_reg h3 (by omega) (by omega) (cl rows[i]) (rowB_nm hR).1 (rowB_nm hR).2
          rw [if_neg (by simp <;> omega),show gt rows[i].Columns (0:Int)=some rows[i].Columns[0] from gtn (i:=0) (by omega),Option.bind_some,hcl,show holdfastref13_Store_Register K ⟨r.c_,r.a⟩ (cl rows[i])=_ from e1,Option.bind_some,Option.bind_some]
          by_cases he:(regS s (cl rows[i])).1=0
          · rw [if_pos (show rows[i].Columns.length=2∧(regS s (cl rows[i])).1=0 from ⟨hc,he⟩),if_neg (by simpa using he),wsucc (by omega)]
            exact l3_a K hK rows hN hr d k (i + 1) (n + 1) m _ r' (by omega) (by omega) e2 (by omega) h5
          · rw [if_neg (show ¬ (rows[i].Columns.length=2∧(regS s (cl rows[i])).1=0) from fun h=>he h.2),if_pos (by simpa using he)];exact ⟨none,rfl,trivial⟩
        · rw [if_pos (by simp <;> omega),Option.bind_some,if_pos rfl,if_neg (show ¬ (rows[i].Columns.length=2∧(regS s (cl rows[i])).1=0) from fun h=>hc h.1)];exact ⟨none,rfl,trivial⟩
    · rw [if_neg hw,if_neg hw];exact ⟨none,rfl,trivial⟩
theorem l3_b (K : Nat) (hK : 3750000000000 < K) (rows : List S_api_Row) (hN : rows.length ≤ 3740000000000) (hr : ∀ r ∈ rows, RowB K r) : ∀ (d k i n m : Nat) (s : GS) (r : RS), i + d = rows.length → d < k → Rel n s r → n + ((rows.drop i).filter more).length ≤ m → m ≤ 3740000000000 →
    ∃ o,holdfastref13_Load.l3 K k rows 1 r.c_ r.a (i:Int)=some (o.elim (.ret (none,3)) fun r' : RS => .go (r'.c_,r'.a))∧OR m (docB (rows.drop i) s) o
  | 0,k,i,n,m,s,r,h1,h2,h3,h4,h5=>by
    obtain ⟨k,rfl⟩ : ∃ k',k=k' + 1:=⟨k - 1,by omega⟩
    rw [holdfastref13_Load.l3,if_neg (by simp <;> omega),List.drop_eq_nil_of_le (by omega)]
    exact ⟨some r,rfl,h3.mono (by omega)⟩
  | d + 1,k,i,n,m,s,r,h1,h2,h3,h4,h5=>by
    obtain ⟨k,rfl⟩ : ∃ k',k=k' + 1:=⟨k - 1,by omega⟩
    have hi:i < rows.length:=by omega
    have hR:=hr rows[i] (List.getElem_mem hi)
    rw [l3_head K (by omega) rows r 1 k i hi hN hR,List.drop_eq_getElem_cons hi]
    rw [List.drop_eq_getElem_cons hi,List.filter_cons] at h4
    unfold docB
    have hj:∀ r' : RS,holdfastref13_Load.j1 K (holdfastref13_Load.l3 K k rows 1) (cutS (cutS rows[i].Key).2.1) 1 rows[i] (cutS rows[i].Key) (num rows[i]) i r'.c_ r'.a=holdfastref13_Load.l3 K k rows 1 r'.c_ r'.a ((i + 1:Nat):Int):=by
      intro r'
      unfold holdfastref13_Load.j1
      rw [if_neg (by simp),wsucc (by omega)]
    by_cases hw:weak rows[i]=true
    · rw [if_pos hw,if_pos hw]
      by_cases hm:more rows[i]=true
      · rw [if_pos (by simp [hm]),if_pos hm]
        rw [if_pos hm,List.length_cons] at h4
        by_cases hc:rows[i].Columns.length=1
        · obtain ⟨r',e1,e2⟩:=step_allow h3 (by omega) (by omega) (co rows[i]) (rowB_nm hR).1 (rowB_nm hR).2
          rw [if_neg (by simp <;> omega),show holdfastref13_Store_Allow K ⟨r.c_,r.a⟩ (co rows[i])=_ from e1,Option.bind_some,Option.bind_some]
          by_cases he:(allowS s (co rows[i])).1=0
          · rw [if_pos (show rows[i].Columns.length=1∧(allowS s (co rows[i])).1=0 from ⟨hc,he⟩),if_neg (by simpa using he),hj r']
            exact l3_b K hK rows hN hr d k (i + 1) (n + 1) m _ r' (by omega) (by omega) e2 (by omega) h5
          · rw [if_neg (show ¬ (rows[i].Columns.length=1∧(allowS s (co rows[i])).1=0) from fun h=>he h.2),if_pos (by simpa using he)];exact ⟨none,rfl,trivial⟩
        · rw [if_pos (by simp <;> omega),Option.bind_some,if_pos rfl,if_neg (show ¬ (rows[i].Columns.length=1∧(allowS s (co rows[i])).1=0) from fun h=>hc h.1)];exact ⟨none,rfl,trivial⟩
      · rw [if_neg (by simp [hm]),if_neg hm,hj r]
        rw [if_neg hm] at h4
        exact l3_b K hK rows hN hr d k (i + 1) n m s r (by omega) (by omega) h3 h4 h5
    · rw [if_neg hw,if_neg hw];exact ⟨none,rfl,trivial⟩
theorem filt_sum (rows : List S_api_Row) : (rows.filter fun r => !more r).length + (rows.filter more).length = rows.length := by
  induction rows with
  | nil=>rfl
  | cons r rs ih=>rw [List.filter_cons,List.filter_cons,List.length_cons];cases more r <;> simp <;> omega
theorem rLoad_eq (K : Nat) (hK : 3750000000000 < K) (rows : List S_api_Row) (hN : rows.length ≤ 3740000000000) (hr : ∀ r ∈ rows, RowB K r) :
    ∃ o,holdfastref13_Load K rows=some (o.elim (none,3) fun r=>(some r,0))∧OR rows.length (loadS rows) o:=by
  unfold holdfastref13_Load holdfastref13_New
  obtain ⟨k,rfl⟩ : ∃ k,K=k + 3:=⟨K - 3,by omega⟩
  have hs:=filt_sum rows
  rw [Option.bind_some,show holdfastref13_Load.l1 (k + 3) rows 0=_ from rl1 rows hN rows.length (k + 3) 0 (by omega) (by omega),if_pos rfl,List.drop_zero,Option.bind_some,both]
  by_cases h1:rise none rows=true
  · rw [if_pos h1,if_pos h1]
    obtain ⟨o,e1,e2⟩:=l3_a (k + 3) hK rows hN hr rows.length (k + 3) 0 0 ((rows.filter fun r => !more r).length) ⟨[],[]⟩ ⟨[],[]⟩ (by omega) (by omega) rel0 (by rw [List.drop_zero];omega) (by omega)
    rw [List.drop_zero] at e2
    have l2a:holdfastref13_Load.l2 (k + 3) (k + 3) rows [] [] 0=some (o.elim (.ret (none,3)) fun r' : RS => .go (r'.c_,r'.a)) >>= fun q2=>lrc q2 (fun a=>some (.ret a)) fun z=>holdfastref13_Load.l2 (k + 3) (k + 2) rows z.1 z.2 1:=by
      rw [holdfastref13_Load.l2,if_pos (by decide),show holdfastref13_Load.l3 (k + 3) (k + 3) rows 0 [] [] 0=_ from e1];rfl
    cases o with
    | none =>
      cases hA:docA rows ⟨[],[]⟩ with
      | some s=>rw [hA] at e2;exact e2.elim
      | none =>
        refine ⟨none,?_,trivial⟩
        show ((holdfastref13_Load.l2 (k + 3) (k + 3) rows [] [] 0).bind _)=_
        rw [l2a];rfl
    | some r =>
      cases hA:docA rows ⟨[],[]⟩ with
      | none=>rw [hA] at e2;exact e2.elim
      | some s =>
        rw [hA] at e2
        obtain ⟨o2,e3,e4⟩:=l3_b (k + 3) hK rows hN hr rows.length (k + 3) 0 _ rows.length s r (by omega) (by omega) e2 (by rw [List.drop_zero];omega) (by omega)
        rw [List.drop_zero] at e4
        have l2b:holdfastref13_Load.l2 (k + 3) (k + 2) rows r.c_ r.a 1=some (o2.elim (.ret (none,3)) fun r' : RS => .go (r'.c_,r'.a)) >>= fun q2=>lrc q2 (fun a=>some (.ret a)) fun z=>holdfastref13_Load.l2 (k + 3) (k + 1) rows z.1 z.2 2:=by
          rw [holdfastref13_Load.l2,if_pos (by decide),show holdfastref13_Load.l3 (k + 3) (k + 3) rows 1 r.c_ r.a 0=_ from e3];rfl
        refine ⟨o2,?_,e4⟩
        show ((holdfastref13_Load.l2 (k + 3) (k + 3) rows [] [] 0).bind _)=_
        rw [l2a]
        show ((holdfastref13_Load.l2 (k + 3) (k + 2) rows r.c_ r.a 1).bind _)=_
        rw [l2b]
        cases o2 with
        | none=>rfl
        | some r2 =>
          show ((holdfastref13_Load.l2 (k + 3) (k + 1) rows r2.c_ r2.a 2).bind _)=_
          rw [holdfastref13_Load.l2,if_neg (by decide)];rfl
  · rw [if_neg h1,if_neg h1];exact ⟨none,rfl,trivial⟩
open Go L Go.Sort
/-! what stands in a store that is loaded -/
def fC (r : S_api_Row) : S_grant_name × S_api_Client := (kN (cl r), cl r)
def fU (c : S_api_Consent) : S_grant_use × UInt8 := (kU c, c.Scopes)
theorem reg_ok {s : GS} {c : S_api_Client} (h : (regS s c).1 = 0) : (regS s c).2 = ⟨s.clients ++ [(kN c, c)], s.consents⟩ := by
  unfold regS at h ⊢
  split at h
  · cases h
  · rename_i h1
    rw [if_neg h1]
    split at h
    · cases h
    · rename_i h2
      rw [if_neg h2]
      split at h
      · cases h
      · rename_i h3
        rw [if_neg h3]
        split at h
        · cases h
        · rename_i h4
          rw [if_neg h4]
          have hm:mget s.clients ⟨c.Tenant,c.Name⟩=none:=by
            cases hg:mget s.clients ⟨c.Tenant,c.Name⟩ with
            | none=>rfl
            | some x=>rw [hg] at h3;simp at h3
          rw [mset_new hm];rfl
theorem allow_ok {s : GS} {c : S_api_Consent} (h : (allowS s c).1 = 0) : (allowS s c).2 = ⟨s.clients, mset s.consents (kU c) c.Scopes⟩ := by
  unfold allowS at h ⊢
  split at h
  · cases h
  · rename_i h1
    rw [if_neg h1]
    split at h
    · rename_i h2;exact (h2 h).elim
    · rename_i h2
      rw [if_neg h2]
      split at h
      · cases h
      · rename_i h3
        rw [if_neg h3]
        split at h
        · cases h
        · rename_i h4
          rw [if_neg h4];rfl
theorem docR_ok : ∀ (rows : List S_api_Row) (s s' : GS), docR rows s = some s' → s' = ⟨s.clients ++ (rows.filter fun r => !more r).map fC, s.consents⟩
  | [],s,s',h=>by unfold docR at h;cases h;simp
  | r :: rs,s,s',h=>by
    unfold docR at h
    rw [List.filter_cons]
    by_cases h3:more r=true
    · rw [if_pos h3] at h;rw [if_neg (by simp [h3])];exact docR_ok rs s s' h
    · rw [if_neg h3] at h
      by_cases h4:(regS s (cl r)).1=0
      · rw [if_pos h4,reg_ok h4] at h
        rw [if_pos (by simpa using h3),List.map_cons,docR_ok rs _ s' h]
        simp [fC]
      · rw [if_neg h4] at h;cases h
theorem allowL_ok : ∀ (cs : List S_api_Consent) (s s' : GS), (s.consents.map (·.1) ++ cs.map kU).Nodup → allowL cs s = some s' → s' = ⟨s.clients, s.consents ++ cs.map fU⟩
  | [],s,s',_,h=>by unfold allowL at h;cases h;simp
  | c :: cs,s,s',hn,h=>by
    unfold allowL at h
    by_cases h4:(allowS s c).1=0
    · rw [if_pos h4,allow_ok h4] at h
      have hm:mget s.consents (kU c)=none:=mget_none.2 fun hk=>by
        rw [List.nodup_append] at hn
        exact hn.2.2 _ hk _ (List.mem_map.2 ⟨c,List.mem_cons_self,rfl⟩) rfl
      rw [mset_new hm] at h
      have:=allowL_ok cs _ s' (by simpa [List.append_assoc] using hn) h
      rw [this,List.map_cons];simp [fU]
    · rw [if_neg h4] at h;cases h
/-! rows in order -/
theorem ltS_t {a b c : List UInt8} (h1 : ltS a b = true) (h2 : ltS b c = true) : ltS a c = true := by
  have:=swoR.trans (x:=(⟨a,[]⟩ : S_api_Row)) (y:=⟨b,[]⟩) (z:=⟨c,[]⟩)
  rw [ltR,ltR,ltR] at this;exact this h1 h2
theorem rise_all : ∀ (rows : List S_api_Row) (p : Option S_api_Row), rise p rows = true → (∀ r ∈ rows, lt1 p r = true) ∧ rows.Pairwise fun a b => ltS a.Key b.Key = true
  | [],_,_=>⟨fun r h=>(by cases h),List.Pairwise.nil⟩
  | r :: rs,p,h=>by
    rw [rise_cons,Bool.and_eq_true] at h
    obtain ⟨h1,h2⟩:=rise_all rs (some r) h.2
    refine ⟨fun x hx=>?_,List.pairwise_cons.2 ⟨h1,h2⟩⟩
    rcases List.mem_cons.1 hx with rfl | hx
    · exact h.1
    · cases p with
      | none=>rfl
      | some q=>exact ltS_t h.1 (h1 x hx)
theorem rise_sd {rows : List S_api_Row} (h : rise none rows = true) : Sd (ltOf cfR) rows ∧ (rows.map (·.Key)).Nodup := by
  have hp:=(rise_all rows none h).2
  refine ⟨hp.imp fun {a b} hab=>?_,List.pairwise_map.2 (hp.imp fun {a b} hab e=>?_)⟩
  · exact asym swoR (by rw [ltR];exact hab)
  · have h1:ltOf cfR a b=true:=by rw [ltR];exact hab
    have h2:=asym swoR h1
    rw [ltR] at h2;rw [e] at hab
    rw [e,hab] at h2;cases h2
/-! a row, told again -/
theorem good_ok {r : S_api_Row} (h : good r = true) : rOk r = true ∧ r.Columns.length = (if more r = true then 1 else 2) ∧ (num r).2 = 0 ∧ (num r).1 ≤ 255 := by
  unfold good nok at h
  simp only [Bool.and_eq_true,decide_eq_true_eq] at h
  exact ⟨h.1.1,h.1.2,h.2.1,h.2.2⟩
theorem rowC_ok {r : S_api_Row} (h : good r = true) (hm : more r = false) : rowC (fC r) = r := by
  obtain ⟨h1,h2,h3,h4⟩:=good_ok h
  rw [if_neg (by rw [hm];decide)] at h2
  have hk:keyC (kN (cl r))=r.Key:=by
    show (rT r++[47])++rU r=r.Key
    have e:rU r=(cutS r.Key).2.1:=by show (cutS (cutS r.Key).2.1).1=_;rw [cut_no hm]
    rw [e];exact (cut_yes h1).symm
  have hn:=tn_num8 h3 h4
  match hc:r.Columns,h2 with
  | [a,b],_ =>
    have hb:num8 (iU8 (num r).1)=b:=by
      have e:(r.Columns.getLast?).getD []=b:=by rw [hc];rfl
      have e2:num r=tnS b:=by unfold num;rw [e]
      rw [e2];rw [e] at hn;exact hn
    have ha:(cl r).Redirect=a:=by unfold cl;rw [hc];rfl
    show (⟨keyC (kN (cl r)),[(cl r).Redirect,num8 (iU8 (num r).1)]⟩ : S_api_Row)=r
    rw [hk,ha,hb,← hc]
theorem keyU_ok {r : S_api_Row} (h : good r = true) (hm : more r = true) : keyU (kU (co r)) = r.Key := by
  obtain ⟨h1,_⟩:=good_ok h
  show (((rT r++[47])++rU r)++[47])++rC r=r.Key
  have e:=cut_yes h1;have e2:=cut_yes hm
  rw [List.append_assoc,List.append_assoc,← List.append_assoc (rU r) [47] (rC r),← e2,← e]
theorem rowU_ok {r : S_api_Row} (h : good r = true) (hm : more r = true) : rowU (fU (co r)) = r := by
  obtain ⟨h1,h2,h3,h4⟩:=good_ok h
  rw [if_pos hm] at h2
  have hn:=tn_num8 h3 h4
  match hc:r.Columns,h2 with
  | [a],_ =>
    have hb:num8 (iU8 (num r).1)=a:=by
      have e:(r.Columns.getLast?).getD []=a:=by rw [hc];rfl
      have e2:num r=tnS a:=by unfold num;rw [e]
      rw [e2];rw [e] at hn;exact hn
    show (⟨keyU (kU (co r)),[num8 (iU8 (num r).1)]⟩ : S_api_Row)=r
    rw [keyU_ok h hm,hb,← hc]
theorem filt_perm : ∀ rows : List S_api_Row, ((rows.filter fun r => !more r) ++ rows.filter more).Perm rows
  | []=>List.Perm.refl _
  | r :: rs=>by
    rw [List.filter_cons,List.filter_cons]
    cases h:more r with
    | true=>exact (List.perm_middle (a:=r)).trans ((filt_perm rs).cons r)
    | false=>exact (filt_perm rs).cons r
theorem loaded_rows {rows : List S_api_Row} {s : GS} (h : loadS rows = some s) : rowsS s = rows := by
  unfold loadS at h
  rw [loadP_eq] at h
  by_cases h1:rise none rows=true∧rows.all good=true
  · rw [if_pos h1] at h
    obtain ⟨hR,hG⟩:=h1
    rw [List.all_eq_true] at hG
    obtain ⟨hs,hnd⟩:=rise_sd hR
    cases hd:docR rows ⟨[],[]⟩ with
    | none=>rw [hd] at h;cases h
    | some s1 =>
      rw [hd] at h
      replace h:allowL ((rows.filter more).map co) s1=some s:=by simpa using h
      have e1:=docR_ok rows _ s1 hd
      have hU:((rows.filter more).map (kU ∘ co)).Nodup:=by
        refine List.pairwise_map.2 ?_
        have hp:=(List.pairwise_map.1 hnd).filter more
        refine List.Pairwise.imp_of_mem (fun {a b} ha hb hab e=>?_) hp
        rw [List.mem_filter] at ha hb
        have:=congrArg keyU e
        simp only [Function.comp] at this
        rw [keyU_ok (hG a ha.1) ha.2,keyU_ok (hG b hb.1) hb.2] at this
        exact hab this
      have e2:=allowL_ok _ s1 s (by rw [e1,List.map_map];exact hU) h
      have eC:s.clients.map rowC=rows.filter fun r => !more r:=by
        rw [e2,e1]
        show (([] : List (S_grant_name × S_api_Client))++(rows.filter fun r => !more r).map fC).map rowC=_
        rw [List.nil_append,List.map_map]
        refine (List.map_congr_left fun r hr=>?_).trans (List.map_id _)
        rw [List.mem_filter,Bool.not_eq_true'] at hr
        exact rowC_ok (hG r hr.1) hr.2
      have eU:s.consents.map rowU=rows.filter more:=by
        rw [e2,e1]
        show (([] : List (S_grant_use × UInt8))++((rows.filter more).map co).map fU).map rowU=_
        rw [List.nil_append,List.map_map,List.map_map]
        refine (List.map_congr_left fun r hr=>?_).trans (List.map_id _)
        rw [List.mem_filter] at hr
        exact rowU_ok (hG r hr.1) hr.2
      unfold rowsS
      rw [eC,eU]
      have hp:=(filt_perm rows).symm
      have:=sd_sortS cfR swoR hs hp (key_injR ((hp.map _).nodup_iff.1 hnd))
      exact this.symm
  · rw [if_neg h1] at h;cases h
/-! the law -/
theorem loads_loop (K : Nat) (hK : 3750000000000 < K) (l : List S_holdfastlaw13_Deed) (hl : ∀ x ∈ l, NmD K x) (n : Nat) (hn : n ≤ 3730000000000 - 100) : ∀ (k i : Nat) (s : GS) (r : RS), i ≤ 40 → 40 < i + k → Rel (n + i) s r →
    ∃ s' r',holdfastlaw13_GrantLoads.l1 K k l s.clients s.consents r.c_ r.a (i:Int)=some (.go (s'.clients,s'.consents,r'.c_,r'.a))∧Rel (n + 40) s' r'
  | 0,i,_,_,h1,h2,_=>by omega
  | k + 1,i,s,r,h1,h2,h3=>by
    unfold holdfastlaw13_GrantLoads.l1
    by_cases hc:(decide ((i:Int) < (l.length:Int)) && decide ((i:Int) < 40))=true
    · rw [if_pos hc]
      simp only [Bool.and_eq_true,decide_eq_true_eq] at hc
      have hi:i < l.length:=by omega
      obtain ⟨s1,r1,e1,e2⟩:=do_eq h3 (by omega) hK l[i] (hl _ (List.getElem_mem _))
      rw [gtn hi,Option.bind_some,show holdfastlaw13_do K ⟨s.clients,s.consents⟩ ⟨r.c_,r.a⟩ l[i]=_ from e1,Option.bind_some,if_neg (by simp),wsucc (by omega)]
      exact loads_loop K hK l hl n hn k (i + 1) s1 r1 (by omega) (by omega) e2
    · rw [if_neg hc];exact ⟨s,r,rfl,h3.mono (by omega)⟩
theorem law_loads (k : Nat) (rows : List S_api_Row) (l : List S_holdfastlaw13_Deed) (hN : rows.length ≤ 3720000000000) (hr : ∀ r ∈ rows, RowB (k + 4000000000000) r) (hl : ∀ y ∈ l, NmD (k + 4000000000000) y) : holdfastlaw13_GrantLoads (k + 4000000000000) rows l = some true := by
  obtain ⟨h1,_⟩:=Load_eq (k + 4000000000000) (by omega) rows (by omega) hr
  obtain ⟨o,h2,h3⟩:=rLoad_eq (k + 4000000000000) (by omega) rows (by omega) hr
  unfold holdfastlaw13_GrantLoads
  rw [h1,Option.bind_some,h2,Option.bind_some,live_eq,Option.bind_some]
  cases hS:loadS rows with
  | none =>
    cases o with
    | some r=>rw [hS] at h3;exact h3.elim
    | none=>rfl
  | some s =>
    cases o with
    | none=>rw [hS] at h3;exact h3.elim
    | some r =>
      rw [hS] at h3
      replace h3:Rel rows.length s r:=h3
      have hrow:=loaded_rows hS
      obtain ⟨a1,_⟩:=rows_both k h3 (by omega)
      have hsm:holdfastref06_SameRows (k + 4000000000000) (rowsS s) rows=some true:=by
        have:=same_rowsS k h3 (by omega)
        rw [hrow] at this ⊢;exact this
      obtain ⟨s',r',e1,e2⟩:=loads_loop (k + 4000000000000) (by omega) l hl rows.length (by omega) (k + 4000000000000) 0 s r (by omega) (by omega) (h3.mono (by omega))
      obtain ⟨b1,b2⟩:=rows_both k e2 (by omega)
      show ((some true).bind fun r_6=>(if (((!r_6) || (!decide ((0:Int)=0))) || (!decide (false=false)))=true then (some false) else ((grant_Store_Rows (k + 4000000000000) (⟨s.clients,s.consents⟩ : S_grant_Store)).bind fun r_7=>((holdfastref06_SameRows (k + 4000000000000) r_7 rows).bind fun r_8=>(if (!r_8)=true then (some false) else ((holdfastlaw13_GrantLoads.l1 (k + 4000000000000) (k + 4000000000000) l s.clients s.consents r.c_ r.a (0:Int)).bind fun q=>(lrc q (fun a=>some a) (fun z=>(fun x7 x8 x9 x10=>(grant_Store_Rows (k + 4000000000000) (⟨x7,x8⟩ : S_grant_Store)).bind fun r_10=>((holdfastref13_Store_Rows (k + 4000000000000) (⟨x9,x10⟩ : S_holdfastref13_Store)).bind fun r_11=>((holdfastref06_SameRows (k + 4000000000000) r_10 r_11).bind fun r_12=>(some r_12)))) z.1 z.2.1 z.2.2.1 z.2.2.2))))))))=some true
      rw [Option.bind_some,if_neg (by decide),show grant_Store_Rows (k + 4000000000000) ⟨s.clients,s.consents⟩=_ from a1,Option.bind_some,hsm,Option.bind_some,if_neg (by decide),show holdfastlaw13_GrantLoads.l1 (k + 4000000000000) (k + 4000000000000) l s.clients s.consents r.c_ r.a 0=_ from e1,Option.bind_some]
      show ((grant_Store_Rows (k + 4000000000000) ⟨s'.clients,s'.consents⟩).bind fun r_10=>((holdfastref13_Store_Rows (k + 4000000000000) ⟨r'.c_,r'.a⟩).bind fun r_11=>((holdfastref06_SameRows (k + 4000000000000) r_10 r_11).bind fun r_12=>(some r_12))))=some true
      rw [show grant_Store_Rows (k + 4000000000000) ⟨s'.clients,s'.consents⟩=_ from b1,Option.bind_some,show holdfastref13_Store_Rows (k + 4000000000000) ⟨r'.c_,r'.a⟩=_ from b2,Option.bind_some,same_rowsS k e2 (by omega),Option.bind_some]
theorem rowB_of {K : Nat} (hK : 9223372036854775807 < K) {r : S_api_Row} (h : ok80 r) : RowB K r := by
  obtain ⟨h1,h2,h3⟩:=h
  exact ⟨⟨by omega,by omega⟩,⟨by omega,by omega⟩,h3⟩
theorem row_loads (rows : List S_api_Row) (l : List S_holdfastlaw13_Deed) (hr : ∀ a ∈ rows, ok80 a) (hN : rows.length * 40 ≤ 140737488351232) (hl : ∀ a ∈ l, ok27 a) : ∃ K, holdfastlaw13_GrantLoads K rows l = some true :=
  ⟨9223372036854775808 + 4000000000000,law_loads _ rows l (by omega) (fun r h=>rowB_of (by decide) (hr r h)) fun y hy=>nmd_of (by decide) (hl y hy)⟩
end Go.Proofs.YtjgbakieogadfaaGreatDoor
