/-
  Numbers as texts,read: the program and the document read the same. Plain Lean. (@PU@: the numbers of strconv's two ParseUint.)
-/
import Derived.Test.YtjgbakieogadfabGreatDoorLst
import Derived.Test.YtjgbakieogadfabGreatDoorPure
namespace Go.Proofs.YtjgbakieogadfabGreatDoor
open Go L Go.Sort
def hx (c:UInt8):Bool:=(decide (48≤c)&&decide (c≤57))||(decide (97≤c)&&decide (c≤102))
def dv (c:UInt8):Nat:=if 97≤c then c.toNat-87 else c.toNat-48
def val (n:Nat) (ds:List UInt8):Nat:=ds.foldl (fun a c=>a*16+dv c) n
theorem val_cons (n:Nat) (c:UInt8) (ds:List UInt8):val n (c :: ds)=val (n*16+dv c) ds:=rfl
theorem val_ge:∀ (ds:List UInt8) (n:Nat),n≤val n ds
  | [],n=>Nat.le_refl _
  | c :: ds,n=>Nat.le_trans (by omega) (val_ge ds (n*16+dv c))
def tnS:List UInt8→Int×Int
  | []=>(0,3)
  | c :: ds=>if c.toNat=97+ds.length∧ds.length≤16 then (if ds.all hx=true∧ds.head? ≠ some 48 then (if val 0 ds≤4611686018427387904 then ((val 0 ds:Nat),0) else (0,2)) else (0,3)) else (0,3)
theorem tnS_cons (c:UInt8) (ds:List UInt8):tnS (c :: ds)=if c.toNat=97+ds.length∧ds.length≤16 then (if ds.all hx=true∧ds.head? ≠ some 48 then (if val 0 ds≤4611686018427387904 then (((val 0 ds:Nat):Int),(0:Int)) else (0,2)) else (0,3)) else (0,3):=rfl
/-! the document's -/
theorem dtn_l1 (s:List UInt8) (hl:s.length≤17):∀ (d k i:Nat),2≤i→i+d=s.length→d<k→hr02_ToNumber.l1 k s (i:Int)=some (if (s.drop i).all hx=true then .go () else .ret (0,3))
  | 0,k,i,h0,h1,h2=>by
    obtain ⟨k,rfl⟩:∃ k',k=k'+1:=⟨k-1,by omega⟩
    rw [hr02_ToNumber.l1,if_neg (by simp <;> omega),List.drop_eq_nil_of_le (by omega)];rfl
  | d+1,k,i,h0,h1,h2=>by
    obtain ⟨k,rfl⟩:∃ k',k=k'+1:=⟨k-1,by omega⟩
    have hi:i<s.length:=by omega
    rw [hr02_ToNumber.l1,if_pos (by simp <;> omega),gtn hi,Option.bind_some,wsucc (by omega),List.drop_eq_getElem_cons hi,List.all_cons]
    have e:((!(((decide ((48:UInt8)≤s[i]))&&(decide (s[i]≤(57:UInt8))))||((decide ((97:UInt8)≤s[i]))&&(decide (s[i]≤(102:UInt8))))))||((decide ((i:Int)=(1:Int)))&&(decide (s[i]=(48:UInt8)))))=!hx s[i]:=by
      rw [decide_eq_false (show ¬ (i:Int)=1 by omega),Bool.false_and,Bool.or_false];rfl
    rw [e]
    cases h:hx s[i] with
    | false=>rw [if_pos (show (!false)=true from rfl),if_neg (by simp)]
    | true=>rw [if_neg (by simp),dtn_l1 s hl d k (i+1) (by omega) (by omega) (by omega),Bool.true_and]
theorem dv_at (c:UInt8) (h:hx c=true):(if 97≤c then W ((W ((c.toNat:Int)-(97:Int)))+(10:Int)) else W ((c.toNat:Int)-(48:Int)))=(dv c:Int)∧dv c≤15:=by
  have key:((List.range 256).all fun n=>!hx (UInt8.ofNat n)||(decide ((if 97≤UInt8.ofNat n then W ((W (((UInt8.ofNat n).toNat:Int)-(97:Int)))+(10:Int)) else W (((UInt8.ofNat n).toNat:Int)-(48:Int)))=(dv (UInt8.ofNat n):Int))&&decide (dv (UInt8.ofNat n)≤15)))=true:=by kernel_rfl
  have h2:=List.all_eq_true.1 key c.toNat (List.mem_range.2 c.toNat_lt)
  rw [UInt8.ofNat_toNat,h] at h2
  simpa using h2
theorem dtn_l2 (K:Nat) (s:List UInt8) (hl:s.length≤17):∀ (d k i n:Nat),i+d=s.length→d<k→(s.drop i).all hx=true→n≤4611686018427387904 →
    hr02_ToNumber.l2 K k s (n:Int) (i:Int)=some (if val n (s.drop i)≤4611686018427387904 then .go ((val n (s.drop i):Nat):Int) else .ret (0,2))
  | 0,k,i,n,h1,h2,h3,h4=>by
    obtain ⟨k,rfl⟩:∃ k',k=k'+1:=⟨k-1,by omega⟩
    rw [hr02_ToNumber.l2,if_neg (by simp <;> omega),List.drop_eq_nil_of_le (by omega),if_pos (by exact h4)];rfl
  | d+1,k,i,n,h1,h2,h3,h4=>by
    obtain ⟨k,rfl⟩:∃ k',k=k'+1:=⟨k-1,by omega⟩
    have hi:i<s.length:=by omega
    rw [List.drop_eq_getElem_cons hi,List.all_cons,Bool.and_eq_true] at h3
    obtain ⟨dv1,dv2⟩:=dv_at s[i] h3.1
    have step:∀ D:Int,D=(dv s[i]:Int)→hr02_ToNumber.j1 K (hr02_ToNumber.l2 K k s) (n:Int) (i:Int) D=some (if val n (s.drop i)≤4611686018427387904 then .go ((val n (s.drop i):Nat):Int) else .ret (0,2)):=by
      intro D hD
      subst hD
      have hv:=val_ge (s.drop (i+1)) (n*16+dv s[i])
      rw [List.drop_eq_getElem_cons hi,val_cons]
      unfold hr02_ToNumber.j1
      by_cases hc:n*16+dv s[i]≤4611686018427387904
      · rw [if_neg (by simp <;> omega),wid (x:=(n:Int)*16) (by omega),wid (by omega),wsucc (by omega),show (n:Int)*16+(dv s[i]:Int)=((n*16+dv s[i]:Nat):Int) by omega]
        exact dtn_l2 K s hl d k (i+1) _ (by omega) (by omega) h3.2 hc
      · rw [if_pos (by simp <;> omega),if_neg (by omega)]
    simp only [hr02_ToNumber.l2,gtn hi,Option.bind_some]
    rw [if_pos (by simp <;> omega)]
    by_cases h97:(97:UInt8)≤s[i]
    · rw [if_pos (decide_eq_true h97)];rw [if_pos h97] at dv1;exact step _ dv1
    · rw [if_neg (by simpa using h97)];rw [if_neg h97] at dv1;exact step _ dv1
theorem dtn_eq (K:Nat) (s:List UInt8) (hK:20≤K) (hs:s.length≤9223372036854775807):hr02_ToNumber K s=some (tnS s):=by
  unfold hr02_ToNumber
  cases s with
  | nil=>rfl
  | cons c ds =>
    have hc:=c.toNat_lt
    rw [tnS_cons]
    by_cases h17:ds.length≤16
    · rw [if_neg (by simp <;> omega),show gt (c :: ds) (0:Int)=some c from rfl,Option.bind_some,Option.bind_some,wid (by omega),wid (by simp only [List.length_cons] at *;omega)]
      by_cases h1:c.toNat=97+ds.length
      · rw [if_neg (by simp <;> omega),if_pos ⟨h1,h17⟩]
        have hl1:hr02_ToNumber.l1 K (c :: ds) (1:Int)=some (if ds.all hx=true∧ds.head? ≠ some 48 then .go () else .ret (0,3)):=by
          obtain ⟨k,rfl⟩:∃ k',K=k'+1:=⟨K-1,by omega⟩
          cases ds with
          | nil=>rw [hr02_ToNumber.l1,if_neg (by simp)];rfl
          | cons e ds =>
            rw [hr02_ToNumber.l1,if_pos (by simp <;> omega),show gt (c :: e :: ds) (1:Int)=some e from rfl,Option.bind_some]
            have e1:((!(((decide ((48:UInt8)≤e))&&(decide (e≤(57:UInt8))))||((decide ((97:UInt8)≤e))&&(decide (e≤(102:UInt8))))))||((decide ((1:Int)=(1:Int)))&&(decide (e=(48:UInt8)))))=(!hx e||decide (e=48)):=by
              rw [decide_eq_true (rfl:(1:Int)=1),Bool.true_and];rfl
            rw [e1,List.all_cons,List.head?_cons]
            have h2:=dtn_l1 (c :: e :: ds) (by simp only [List.length_cons] at *;omega) ds.length k 2 (Nat.le_refl _) (by simp only [List.length_cons];omega) (by simp only [List.length_cons] at *;omega)
            cases he:hx e with
            | false=>rw [if_pos (by simp),if_neg (by simp)]
            | true =>
              by_cases h48:e=48
              · rw [if_pos (by simp [h48]),if_neg (by simp [h48])]
              · rw [if_neg (by simp [h48]),show W ((1:Int)+1)=((2:Nat):Int) from rfl,h2]
                simp [h48]
        rw [hl1,Option.bind_some]
        by_cases h3:ds.all hx=true∧ds.head? ≠ some 48
        · rw [if_pos h3,if_pos h3]
          have h4:=dtn_l2 K (c :: ds) (by simp only [List.length_cons];omega) ds.length K 1 0 (by simp only [List.length_cons];omega) (by omega) h3.1 (by omega)
          show ((hr02_ToNumber.l2 K K (c :: ds) ((0:Nat):Int) ((1:Nat):Int)).bind _)=_
          rw [h4,Option.bind_some]
          show lrc (if val 0 ds≤4611686018427387904 then _ else _) _ _=_
          by_cases h5:val 0 ds≤4611686018427387904
          · rw [if_pos h5,if_pos h5];rfl
          · rw [if_neg h5,if_neg h5];rfl
        · rw [if_neg h3,if_neg h3];rfl
      · rw [if_pos (by simp <;> omega),if_neg (fun h=>h1 h.1)]
    · rw [if_pos (by simp <;> omega),Option.bind_some,if_pos rfl,if_neg (fun h=>h17 h.2)]
/-! the program's -/
theorem dw_nil' {p:UInt8→Bool} : ∀ (l:List UInt8),l.dropWhile p=[] ↔ l.all p=true
  | []=>by simp
  | x :: l=>by
    rw [List.dropWhile_cons,List.all_cons]
    cases h:p x with
    | true=>simpa using dw_nil' l
    | false=>simp
theorem trim_nil (s cs:List UInt8):Go.Lib.trimS s cs=[] ↔ s.all (fun c=>cs.contains c)=true:=by
  unfold Go.Lib.trimS Go.Lib.trimLeftS
  rw [dw_nil']
  unfold Go.Lib.trimRightS
  rw [List.all_reverse]
  constructor
  · intro ha
    have h2:=List.takeWhile_append_dropWhile (p:=(cs.contains ·)) (l:=s.reverse)
    have:s.reverse.all (cs.contains ·)=true:=by
      rw [← h2,List.all_append,Bool.and_eq_true];exact ⟨List.all_takeWhile,ha⟩
    rwa [List.all_reverse] at this
  · intro ha
    have:s.reverse.dropWhile (cs.contains ·)=[]:=(dw_nil' _).2 (by rw [List.all_reverse];exact ha)
    rw [this];rfl
theorem hx_all:((List.range 256).all fun n=>decide ((([48,49,50,51,52,53,54,55,56,57,97,98,99,100,101,102]:List UInt8).contains (UInt8.ofNat n))=hx (UInt8.ofNat n)))=true:=by kernel_rfl
theorem hx_eq (c:UInt8):([48,49,50,51,52,53,54,55,56,57,97,98,99,100,101,102]:List UInt8).contains c=hx c:=by
  have h2:=List.all_eq_true.1 hx_all c.toNat (List.mem_range.2 c.toNat_lt)
  rw [UInt8.ofNat_toNat] at h2
  exact of_decide_eq_true h2
def pchk (c:UInt8):Bool:=!hx c||(if (decide ((48:UInt8)≤c)&&decide (c≤(57:UInt8)))=true then decide ((c-48).toNat=dv c)&&!decide ((16:UInt8)≤c-48)
  else decide ((97:UInt8)≤c ||| 32)&&decide (c ||| 32≤(122:UInt8))&&decide ((((c ||| 32)-97)+10).toNat=dv c)&&!decide ((16:UInt8)≤((c ||| 32)-97)+10))&&decide (c ≠ 95)
theorem pchk_all:((List.range 256).all fun n=>!hx (UInt8.ofNat n)||pchk (UInt8.ofNat n))=true:=by kernel_rfl
theorem pchk_eq (c:UInt8) (h:hx c=true):pchk c=true:=by
  have h2:=List.all_eq_true.1 pchk_all c.toNat (List.mem_range.2 c.toNat_lt)
  rw [UInt8.ofNat_toNat,h] at h2;simpa using h2
theorem pu_j4 (K:Nat) (lk:Bool→UInt64→Int→Option (Lr (UInt64×Unit) (Bool×UInt64))) (n d:Nat) (x:Int) (d4:UInt8) (h4:d4.toNat=d) (hd : ¬ (16:UInt8)≤d4) (hn:n<1152921504606846976) :
    strconv_ParseUint_121.j4 K lk 16 1152921504606846976 (UInt64.ofNat n) 64 false x d4=lk false (UInt64.ofNat (n*16+d)) (W (x+1)):=by
  have hd':d<16:=by rw [← h4];exact Nat.lt_of_not_le fun h=>hd (UInt8.le_iff_toNat_le.2 h)
  unfold strconv_ParseUint_121.j4
  have e1:iU8 (16:Int)=16:=rfl
  have e2:iU64 (16:Int)=16:=rfl
  have e3:shl64 (1:UInt64) (iU64 (64:Int)).toNat-(1:UInt64)=18446744073709551615:=rfl
  have hs:UInt64.ofNat n*16+d4.toUInt64=UInt64.ofNat (n*16+d):=by
    apply UInt64.toNat_inj.1
    rw [UInt64.toNat_add,UInt64.toNat_mul,UInt64.toNat_ofNat',UInt64.toNat_ofNat',UInt8.toNat_toUInt64,h4,show (16:UInt64).toNat=16 from rfl]
    omega
  have m1:(UInt64.ofNat n).toNat=n:=by rw [UInt64.toNat_ofNat'];omega
  have m2:(UInt64.ofNat n*16).toNat=n*16:=by rw [UInt64.toNat_mul,m1,show (16:UInt64).toNat=16 from rfl];omega
  have m3:(UInt64.ofNat (n*16+d)).toNat=n*16+d:=by rw [UInt64.toNat_ofNat'];omega
  rw [e1,if_neg (by simpa using hd),if_neg,e2,e3,hs,if_neg]
  · simp only [Bool.or_eq_true,decide_eq_true_eq,not_or,UInt64.lt_iff_toNat_lt,m2,m3]
    refine ⟨by omega,?_⟩
    rw [show (18446744073709551615:UInt64).toNat=18446744073709551615 from rfl];omega
  · rw [decide_eq_true_eq,UInt64.le_iff_toNat_le,m1,show (1152921504606846976:UInt64).toNat=1152921504606846976 from rfl];omega
theorem pu_l1 (K:Nat) (s:List UInt8) (hl:s.length≤17):∀ (d k i n:Nat),i+d=s.length→d<k→(s.drop i).all hx=true→(i=0∧n=0∧s.head?=some 48 ∨ 1≤i∧n<16 ^ (i-1)) →
    strconv_ParseUint_121.l1 K k s 16 16 1152921504606846976 64 false (UInt64.ofNat n) (i:Int)=some (.go (false,UInt64.ofNat (val n (s.drop i))))
  | 0,k,i,n,h1,h2,_,_=>by
    obtain ⟨k,rfl⟩:∃ k',k=k'+1:=⟨k-1,by omega⟩
    rw [strconv_ParseUint_121.l1,if_neg (by simp <;> omega),List.drop_eq_nil_of_le (by omega)];rfl
  | d+1,k,i,n,h1,h2,h3,h4=>by
    obtain ⟨k,rfl⟩:∃ k',k=k'+1:=⟨k-1,by omega⟩
    have hi:i<s.length:=by omega
    rw [List.drop_eq_getElem_cons hi,List.all_cons,Bool.and_eq_true] at h3
    have hp:=pchk_eq s[i] h3.1
    unfold pchk at hp
    rw [h3.1,Bool.not_true,Bool.false_or,Bool.and_eq_true,decide_eq_true_eq] at hp
    have hn:n<1152921504606846976:=by
      rcases h4 with ⟨_,h,_⟩ | ⟨h5,h6⟩
      · omega
      · have:16 ^ (i-1)≤16 ^ 15:=Nat.pow_le_pow_right (by omega) (by omega)
        have e:(16:Nat) ^ 15=1152921504606846976:=by decide
        omega
    have next:∀ D,D=dv s[i]→strconv_ParseUint_121.l1 K k s 16 16 1152921504606846976 64 false (UInt64.ofNat (n*16+D)) (W ((i:Int)+1))=some (.go (false,UInt64.ofNat (val n (s.drop i)))):=by
      intro D hD
      subst hD
      rw [wsucc (by omega),pu_l1 K s hl d k (i+1) _ (by omega) (by omega) h3.2 (.inr ⟨by omega,?_⟩),List.drop_eq_getElem_cons hi,val_cons]
      have hd:=(dv_at s[i] h3.1).2
      rcases h4 with ⟨e0,e1,e2⟩ | ⟨h5,h6⟩
      · subst e0;subst e1
        have:s[0]=48:=by
          cases s with
          | nil=>simp at hi
          | cons a l=>simpa using e2
        rw [this];decide
      · have e:i+1-1=(i-1)+1:=by omega
        rw [e,Nat.pow_succ];omega
    rw [strconv_ParseUint_121.l1,if_pos (by simp <;> omega),gtn hi,Option.bind_some,if_neg (by simp [hp.2])]
    by_cases hc:(decide ((48:UInt8)≤s[i])&&decide (s[i]≤(57:UInt8)))=true
    · rw [if_pos hc] at hp ⊢
      simp only [Bool.and_eq_true,decide_eq_true_eq,Bool.not_eq_true',decide_eq_false_iff_not] at hp
      rw [pu_j4 K _ n _ _ _ rfl hp.1.2 hn]
      exact next _ hp.1.1
    · rw [if_neg hc] at hp ⊢
      simp only [Bool.and_eq_true,decide_eq_true_eq,Bool.not_eq_true',decide_eq_false_iff_not] at hp
      obtain ⟨⟨⟨⟨p1,p2⟩,p3⟩,p4⟩,_⟩:=hp
      unfold strconv_lower
      rw [Option.bind_some,if_pos (decide_eq_true p1),Option.bind_some,Option.bind_some,if_pos (decide_eq_true p2),Option.bind_some,pu_j4 K _ n _ _ _ rfl p4 hn]
      exact next _ p3
theorem parse_eq (K:Nat) (ds:List UInt8) (hK:20≤K) (hl:ds.length≤16) (hd:ds.all hx=true):strconv_ParseUint_99 K (48 :: ds) 16 64=some (UInt64.ofNat (val 0 ds),()):=by
  have h:=pu_l1 K (48 :: ds) (by simp only [List.length_cons];omega) (ds.length+1) K 0 0 (by simp) (by omega) (by rw [List.drop_zero,List.all_cons,hd];rfl) (.inl ⟨rfl,rfl,rfl⟩)
  unfold strconv_ParseUint_99 strconv_ParseUint_121
  rw [if_neg (by simp),if_pos (by decide)]
  unfold strconv_ParseUint_121.j1
  rw [if_neg (by decide),if_neg (by decide)]
  unfold strconv_ParseUint_121.j2
  rw [if_neg (by decide),if_pos (by decide)]
  unfold strconv_ParseUint_121.j3
  rw [show strconv_ParseUint_121.l1 K K (48 :: ds) 16 16 1152921504606846976 64 false 0 0=_ from h];rfl
theorem val_lt:∀ (ds:List UInt8) (n:Nat),ds.all hx=true→val n ds<(n+1)*16 ^ ds.length
  | [],n,_=>by simp [val]
  | c :: ds,n,h=>by
    rw [List.all_cons,Bool.and_eq_true] at h
    have h1:=val_lt ds (n*16+dv c) h.2
    have h2:=(dv_at c h.1).2
    rw [val_cons,List.length_cons,Nat.pow_succ]
    refine Nat.lt_of_lt_of_le h1 ?_
    rw [Nat.mul_comm (16 ^ ds.length) 16,← Nat.mul_assoc]
    exact Nat.mul_le_mul_right _ (by omega)
theorem tn_eq (K:Nat) (s:List UInt8) (hK:20≤K) (hs:s.length≤9223372036854775807):codec_ToNumber K s=some (tnS s):=by
  unfold codec_ToNumber
  cases s with
  | nil=>rfl
  | cons c ds =>
    have hc:=c.toNat_lt
    rw [tnS_cons]
    rw [if_neg (by simp),show gt (c :: ds) (0:Int)=some c from rfl,Option.bind_some,Option.bind_some]
    by_cases h17:ds.length≤16
    · rw [wid (x:=(97:Int)+((c :: ds).length:Int)) (by simp only [List.length_cons] at *;omega),wid (by simp only [List.length_cons] at *;omega)]
      by_cases h1:c.toNat=97+ds.length
      · rw [if_neg (by simp <;> omega),if_pos ⟨h1,h17⟩,show sub (c :: ds) (1:Int) ((c :: ds).length:Int)=some ds from by
          have:=subn (xs:=c :: ds) (l:=1) (h:=(c :: ds).length) (by simp) (Nat.le_refl _)
          rw [List.take_length] at this;exact this,Option.bind_some]
        have hpre:strings_HasPrefix K ds [48]=some (decide (ds.head?=some 48)):=by
          unfold strings_HasPrefix stringslite_HasPrefix
          cases ds with
          | nil=>rfl
          | cons e ds =>
            rw [if_pos (by simp <;> omega),show sub (e :: ds) (0:Int) (([48]:List UInt8).length:Int)=some [e] from by
              have:=subn (xs:=e :: ds) (l:=0) (h:=1) (by simp) (by simp)
              exact this,Option.bind_some,Option.bind_some,Option.bind_some]
            congr 1
            exact decide_eq_decide.2 (by simp)
        have htrim:strings_Trim K ds [48,49,50,51,52,53,54,55,56,57,97,98,99,100,101,102]=some (Go.Lib.trimS ds [48,49,50,51,52,53,54,55,56,57,97,98,99,100,101,102]):=by
          unfold strings_Trim;rw [if_pos ⟨by decide,by omega,by decide⟩]
        have hall:decide (Go.Lib.trimS ds [48,49,50,51,52,53,54,55,56,57,97,98,99,100,101,102]=[])=ds.all hx:=by
          rw [Bool.eq_iff_iff,decide_eq_true_eq,trim_nil]
          simp only [hx_eq]
        rw [hpre,Option.bind_some,htrim]
        by_cases h48:ds.head?=some 48
        · rw [if_pos (decide_eq_true h48),Option.bind_some,if_pos rfl,if_neg (fun h=>h.2 h48)]
        · rw [if_neg (by simpa using h48),Option.bind_some,Option.bind_some,hall]
          cases ha:ds.all hx with
          | false=>rw [if_pos (show (!false)=true from rfl),if_neg (by simp)]
          | true =>
            rw [if_neg (by simp),if_pos ⟨rfl,h48⟩,appn (by simp only [List.length_cons,List.length_nil];omega),Option.bind_some,List.singleton_append,parse_eq K ds hK h17 ha,Option.bind_some]
            have hv:=val_lt ds 0 ha
            have hp:16 ^ ds.length≤16 ^ 16:=Nat.pow_le_pow_right (by omega) h17
            have e16:(16:Nat) ^ 16=18446744073709551616:=by decide
            have m:(UInt64.ofNat (val 0 ds)).toNat=val 0 ds:=by rw [UInt64.toNat_ofNat'];omega
            by_cases h5:val 0 ds≤4611686018427387904
            · rw [if_neg,if_pos h5]
              · simp only [m];rw [wid (by omega)]
              · rw [decide_eq_true_eq,UInt64.lt_iff_toNat_lt,m,show (4611686018427387904:UInt64).toNat=4611686018427387904 from rfl];omega
            · rw [if_pos,if_neg h5]
              rw [decide_eq_true_eq,UInt64.lt_iff_toNat_lt,m,show (4611686018427387904:UInt64).toNat=4611686018427387904 from rfl];omega
      · rw [if_pos (by simp <;> omega),if_neg (fun h=>h1 h.1)]
    · rw [if_pos (by simp <;> omega),if_neg (fun h=>h17 h.2)]
end Go.Proofs.YtjgbakieogadfabGreatDoor
