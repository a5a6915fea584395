/-
  Numbers as texts,written: the program and the document write the same,and what they write is read back. Plain Lean.
-/
import Derived.Test.YtjgbakieogadfabGreatDoorNum
import Derived.Test.YtjgbakieogadfabGreatDoorLib13
import Derived.Test.YtjgbakieogadfabGreatDoorLib24
namespace Go.Proofs.YtjgbakieogadfabGreatDoor
open Go L Go.Sort
def dig (n:Nat):UInt8:=([48,49,50,51,52,53,54,55,56,57,97,98,99,100,101,102]:List UInt8).getD n 0
def hx1 (n:Nat):List UInt8:=if h:n<16 then [dig n] else hx1 (n / 16) ++ [dig (n % 16)]
termination_by n
decreasing_by omega
def hxD (n:Nat):List UInt8:=if n=0 then [] else hx1 n
def hexT (n:Nat):List UInt8:=UInt8.ofNat (97+(hxD n).length) :: hxD n
theorem hx1_lt {n:Nat} (h:n<16):hx1 n=[dig n]:=by rw [hx1,dif_pos h]
theorem hx1_ge {n:Nat} (h : ¬ n<16):hx1 n=hx1 (n / 16) ++ [dig (n % 16)]:=by rw [hx1,dif_neg h]
theorem hx1_len:∀ (m n:Nat),n<16 ^ (m+1)→(hx1 n).length≤m+1
  | 0,n,h=>by rw [hx1_lt (by simpa using h)];simp
  | m+1,n,h=>by
    by_cases hn:n<16
    · rw [hx1_lt hn];simp
    · rw [hx1_ge hn,List.length_append,List.length_cons,List.length_nil]
      have:=hx1_len m (n / 16) (by rw [Nat.div_lt_iff_lt_mul (by omega)];rwa [← Nat.pow_succ]);omega
theorem hxD_step {n:Nat} (h:n ≠ 0):hxD n=hxD (n / 16) ++ [dig (n % 16)]:=by
  unfold hxD
  rw [if_neg h]
  by_cases hn:n<16
  · rw [hx1_lt hn,if_pos (by omega),Nat.mod_eq_of_lt hn];rfl
  · rw [hx1_ge hn,if_neg (by omega)]
theorem hxD_len {n:Nat} (h:n<18446744073709551616):(hxD n).length≤16:=by
  unfold hxD;split
  · simp
  · exact hx1_len 15 n (by simpa using h)
theorem dig_all:((List.range 16).all fun n=>hx (dig n)&&decide (dv (dig n)=n)&&(decide (n=0)||dig n != 48))=true:=by kernel_rfl
theorem dig_ok {n:Nat} (h:n<16):hx (dig n)=true∧dv (dig n)=n∧(n ≠ 0→dig n ≠ 48):=by
  have:=List.all_eq_true.1 dig_all n (List.mem_range.2 h)
  simp only [Bool.and_eq_true,Bool.or_eq_true,decide_eq_true_eq,bne_iff_ne,ne_eq] at this
  exact ⟨this.1.1,this.1.2,fun h0=>this.2.resolve_left h0⟩
theorem hx1_head:∀ (m n:Nat),n<16 ^ (m+1)→n ≠ 0→(hx1 n).head? ≠ some 48
  | 0,n,h,h0=>by rw [hx1_lt (by simpa using h)];simpa using (dig_ok (by simpa using h)).2.2 h0
  | m+1,n,h,h0=>by
    by_cases hn:n<16
    · rw [hx1_lt hn];simpa using (dig_ok hn).2.2 h0
    · rw [hx1_ge hn]
      have:=hx1_head m (n / 16) (by rw [Nat.div_lt_iff_lt_mul (by omega)];rwa [← Nat.pow_succ]) (by omega)
      cases hh:hx1 (n / 16) with
      | nil =>
        have h5:(hx1 (n / 16)).length ≠ 0:=by rw [hx1];split <;> simp
        rw [hh] at h5;simp at h5
      | cons a l=>rw [hh] at this;simpa using this
/-! the program's -/
theorem shr4 {u:UInt64} : (shr64 u (iU64 4).toNat).toNat=u.toNat / 16:=by
  show (u >>> 4).toNat=_
  rw [UInt64.toNat_shiftRight];show u.toNat >>> (4 % 64)=_;rw [Nat.shiftRight_eq_div_pow]
theorem and15 {u:UInt64} : (u &&& ((iU64 16)-1)).toNat=u.toNat % 16:=by
  rw [show (iU64 16:UInt64)-1=15 from by kernel_rfl,UInt64.toNat_and]
  show u.toNat &&& 15=_
  exact Nat.and_two_pow_sub_one_eq_mod u.toNat 4
theorem dig_gt {n:Nat} (h:n<16):gt ([48,49,50,51,52,53,54,55,56,57,97,98,99,100,101,102,103,104,105,106,107,108,109,110,111,112,113,114,115,116,117,118,119,120,121,122]:List UInt8) (n:Int)=some (dig n):=by
  have key:((List.range 16).all fun n=>decide (gt ([48,49,50,51,52,53,54,55,56,57,97,98,99,100,101,102,103,104,105,106,107,108,109,110,111,112,113,114,115,116,117,118,119,120,121,122]:List UInt8) (n:Int)=some (dig n)))=true:=by kernel_rfl
  exact of_decide_eq_true (List.all_eq_true.1 key n (List.mem_range.2 h))
theorem set_drop (a:List UInt8) (i:Nat) (x:UInt8) (h:i<a.length):(a.set i x).drop i=x :: a.drop (i+1):=by
  rw [List.drop_eq_getElem_cons (by simpa using h),List.getElem_set_self,List.drop_set_of_lt (by omega)]
theorem fb_l1:∀ (m k i:Nat) (u:UInt64) (a:List UInt8),u.toNat<16 ^ (m+1)→m<k→m+1≤i→i≤65→a.length=65 →
    ∃ (u':UInt64) (a':List UInt8) (j:Nat),strconv_formatBits.l1 k 16 4 u a (i:Int)=some (u',a',(j:Int))∧a'.length=65∧1≤j∧j≤65∧u'.toNat<16∧dig u'.toNat :: a'.drop j=hx1 u.toNat++a.drop i
  | 0,k,i,u,a,h1,h2,h3,h4,h5=>by
    obtain ⟨k,rfl⟩:∃ k',k=k'+1:=⟨k-1,by omega⟩
    have h1':u.toNat<16:=by simpa using h1
    refine ⟨u,a,i,?_,h5,h3,h4,h1',by rw [hx1_lt h1'];rfl⟩
    rw [strconv_formatBits.l1,if_neg]
    rw [decide_eq_true_eq,UInt64.le_iff_toNat_le,show (iU64 16:UInt64).toNat=16 from by kernel_rfl];omega
  | m+1,k,i,u,a,h1,h2,h3,h4,h5=>by
    obtain ⟨k,rfl⟩:∃ k',k=k'+1:=⟨k-1,by omega⟩
    by_cases h16:u.toNat<16
    · refine ⟨u,a,i,?_,h5,by omega,h4,h16,by rw [hx1_lt h16];rfl⟩
      rw [strconv_formatBits.l1,if_neg]
      rw [decide_eq_true_eq,UInt64.le_iff_toNat_le,show (iU64 16:UInt64).toNat=16 from by kernel_rfl];omega
    · have hm:u.toNat % 16<16:=Nat.mod_lt _ (by omega)
      have hu:(shr64 u (iU64 4).toNat).toNat<16 ^ (m+1):=by rw [shr4,Nat.div_lt_iff_lt_mul (by omega)];rwa [← Nat.pow_succ]
      obtain ⟨u',a',j,e1,e2,e3,e4,e5,e6⟩:=fb_l1 m k (i-1) (shr64 u (iU64 4).toNat) (a.set (i-1) (dig (u.toNat % 16))) hu (by omega) (by omega) (by omega) (by simpa using h5)
      refine ⟨u',a',j,?_,e2,e3,e4,e5,?_⟩
      · rw [strconv_formatBits.l1,if_pos,and15,dig_gt hm,Option.bind_some,wpred (by omega) (by omega),req_ok ⟨by omega,by omega⟩,Option.bind_some,Option.bind_some,Int.toNat_natCast]
        · exact e1
        · rw [decide_eq_true_eq,UInt64.le_iff_toNat_le,show (iU64 16:UInt64).toNat=16 from by kernel_rfl];omega
      · rw [e6,shr4,set_drop _ _ _ (by omega),hx1_ge h16,List.append_assoc,show i-1+1=i by omega];rfl
theorem fmt_eq (K n:Nat) (hK:17<K) (hn:n≤4611686018427387904):strconv_FormatInt_57 K (n:Int) 16=some (hx1 n):=by
  have hu:(iU64 (n:Int)).toNat=n:=by
    unfold iU64;rw [UInt64.toNat_ofNat'];omega
  have h16:(16:Nat) ^ (15+1)=18446744073709551616:=by decide
  obtain ⟨u',a',j,e1,e2,e3,e4,e5,e6⟩:=fb_l1 15 K 65 (iU64 (n:Int)) (List.replicate 65 0) (by rw [hu];omega) (by omega) (by omega) (by omega) (by simp)
  rw [hu,List.drop_eq_nil_of_le (show (List.replicate 65 (0:UInt8)).length≤65 by simp),List.append_nil] at e6
  unfold strconv_FormatInt_57 strconv_FormatInt_84
  rw [if_neg (by decide),decide_eq_false (by omega)]
  unfold strconv_formatBits
  rw [if_neg (by decide)]
  unfold strconv_formatBits.j1
  rw [if_neg (by decide)]
  unfold strconv_formatBits.j2
  have t1:strconv_isPowerOfTwo K 16=some true:=by kernel_rfl
  have t2:bits_TrailingZeros K (iU64 16)=some 4:=by kernel_rfl
  rw [t1,Option.bind_some,if_pos rfl,t2,Option.bind_some,show strconv_formatBits.l1 K 16 4 (iU64 (n:Int)) (List.replicate 65 0) 65=_ from e1,Option.bind_some]
  show (((gt _ (u'.toNat:Int)).bind fun e2=>(req (0≤W ((j:Int)-1)∧W ((j:Int)-1)<(a'.length:Int))).bind fun u5=>(some (a'.set (W ((j:Int)-1)).toNat e2)).bind fun a7=>strconv_formatBits.j3 K false false a7 (W ((j:Int)-1))).bind fun r_=>some r_.2).bind _=_
  rw [dig_gt e5,Option.bind_some,wpred (by omega) (by omega),req_ok ⟨by omega,by omega⟩,Option.bind_some,Option.bind_some,Int.toNat_natCast]
  unfold strconv_formatBits.j3
  rw [if_neg (by decide)]
  unfold strconv_formatBits.j4
  rw [if_neg (by decide),show sub (a'.set (j-1) (dig u'.toNat)) ((j-1:Nat):Int) (65:Int)=some (((a'.set (j-1) (dig u'.toNat)).take 65).drop (j-1)) from subn (l:=j-1) (h:=65) (by omega) (by simp [e2]),Option.bind_some,Option.bind_some,Option.bind_some]
  rw [List.take_of_length_le (by simp [e2]),set_drop _ _ _ (by omega),show j-1+1=j by omega,e6]
theorem rune_all:((List.range 17).all fun n=>decide (runeS (R32 (W ((97:Int)+(n:Int))))=[UInt8.ofNat (97+n)]))=true:=by kernel_rfl
theorem rune_eq {n:Nat} (h:n≤16):runeS (R32 (W ((97:Int)+(n:Int))))=[UInt8.ofNat (97+n)]:=of_decide_eq_true (List.all_eq_true.1 rune_all n (List.mem_range.2 (by omega)))
theorem trim_eq (K n:Nat) (hn:n<18446744073709551616):strings_TrimPrefix K (hx1 n) [48]=some (hxD n):=by
  unfold strings_TrimPrefix stringslite_TrimPrefix stringslite_HasPrefix hxD
  have hl:=hx1_len 15 n (by simpa using hn)
  by_cases h0:n=0
  · subst h0;rw [hx1_lt (by omega)];rfl
  · have hh:=hx1_head 15 n (by simpa using hn) h0
    rw [if_neg h0]
    cases hc:hx1 n with
    | nil=>rw [if_neg (by simp)];rfl
    | cons c l =>
      rw [hc] at hh
      rw [if_pos (by simp <;> omega),show sub (c :: l) (0:Int) (([48]:List UInt8).length:Int)=some [c] from by
        have:=subn (xs:=c :: l) (l:=0) (h:=1) (by simp) (by simp)
        exact this,Option.bind_some,Option.bind_some,Option.bind_some,if_neg (by simpa using hh)];rfl
theorem number_eq (K n:Nat) (hK:17<K) (hn:n≤4611686018427387904):codec_Number K (n:Int)=some (hexT n,0):=by
  have hl:=hxD_len (n:=n) (by omega)
  unfold codec_Number
  rw [if_neg (by simp <;> omega),fmt_eq K n hK hn,Option.bind_some,trim_eq K n (by omega),Option.bind_some,rune_eq hl,appn (by simp only [List.length_cons,List.length_nil];omega),Option.bind_some];rfl
/-! the document's -/
theorem rdig {n:Nat} (K:Nat) (h:n<16):hr02_digit K (n:Int)=some (dig n):=by
  have key:((List.range 16).all fun n=>decide (hr02_digit 0 (n:Int)=some (dig n)))=true:=by kernel_rfl
  exact of_decide_eq_true (List.all_eq_true.1 key n (List.mem_range.2 h))
theorem rnum_l1 (K:Nat):∀ (m k n:Nat) (s:List UInt8) (j:Nat),n<16 ^ m→m<k→n≤4611686018427387904→s.length≤100→j+m≤100→s.length+m≤100 →
    hr02_Number.l1 K k (n:Int) s (j:Int)=some (hxD n++s,((j+(hxD n).length:Nat):Int))
  | 0,k,n,s,j,h1,h2,h3,h4,h5,h6=>by
    obtain ⟨k,rfl⟩:∃ k',k=k'+1:=⟨k-1,by omega⟩
    have h0:n=0:=by simpa using h1
    subst h0
    rw [hr02_Number.l1,if_neg (by simp)];rfl
  | m+1,k,n,s,j,h1,h2,h3,h4,h5,h6=>by
    obtain ⟨k,rfl⟩:∃ k',k=k'+1:=⟨k-1,by omega⟩
    rw [hr02_Number.l1]
    by_cases h0:n=0
    · subst h0;rw [if_neg (by simp)];rfl
    · have hd:n / 16<16 ^ m:=by rw [Nat.div_lt_iff_lt_mul (by omega)];rwa [← Nat.pow_succ]
      have e1:(n:Int).tmod 16=((n % 16:Nat):Int):=by rw [Int.tmod_eq_emod_of_nonneg (by omega)];omega
      have e2:W ((n:Int).tdiv 16)=((n / 16:Nat):Int):=by rw [Int.tdiv_eq_ediv_of_nonneg (by omega),wid (by omega)];omega
      rw [if_pos (by simp <;> omega),e1,rdig K (Nat.mod_lt _ (by omega)),Option.bind_some,Option.bind_some,appn (by simp only [List.length_cons,List.length_nil];omega),Option.bind_some,e2,wsucc (by omega),
        rnum_l1 K m k (n / 16) _ (j+1) hd (by omega) (by omega) (by simp only [List.length_append,List.length_cons,List.length_nil];omega) (by omega) (by simp only [List.length_append,List.length_cons,List.length_nil];omega),
        hxD_step h0,List.length_append,List.length_cons,List.length_nil,List.append_assoc]
      congr 2
      omega
theorem rnumber_eq (K n:Nat) (hK:17<K) (hn:n≤4611686018427387904):hr02_Number K (n:Int)=some (hexT n,0):=by
  have hl:=hxD_len (n:=n) (by omega)
  have h16:(16:Nat) ^ 16=18446744073709551616:=by decide
  have h:=rnum_l1 K 16 K n [] 0 (by omega) (by omega) hn (by simp) (by omega) (by simp)
  unfold hr02_Number
  rw [if_neg (by simp <;> omega),show hr02_Number.l1 K K (n:Int) [] 0=_ from h,Option.bind_some,List.append_nil,Nat.zero_add]
  have key:((List.range 17).all fun n=>decide (iU8 (W ((97:Int)+(n:Int)))=UInt8.ofNat (97+n)))=true:=by kernel_rfl
  have e:=of_decide_eq_true (List.all_eq_true.1 key (hxD n).length (List.mem_range.2 (by omega)))
  show ((some [iU8 (W ((97:Int)+(((hxD n).length:Nat):Int)))]).bind fun l2=>(app 9223372036854775807 l2 (hxD n)).bind fun t1=>some (t1,(0:Int)))=_
  rw [e,Option.bind_some,appn (by simp only [List.length_cons,List.length_nil];omega),Option.bind_some];rfl
/-! read back -/
theorem dig_dv_all:((List.range 256).all fun n=>!hx (UInt8.ofNat n)||(dig (dv (UInt8.ofNat n)) == UInt8.ofNat n&&decide (dv (UInt8.ofNat n)<16)&&(decide (dv (UInt8.ofNat n)=0) == (UInt8.ofNat n == 48))))=true:=by kernel_rfl
theorem dig_dv {c:UInt8} (h:hx c=true):dig (dv c)=c∧dv c<16∧(dv c=0→c=48):=by
  have h2:=List.all_eq_true.1 dig_dv_all c.toNat (List.mem_range.2 c.toNat_lt)
  rw [UInt8.ofNat_toNat,h] at h2
  simp only [Bool.not_true,Bool.false_or,Bool.and_eq_true,beq_iff_eq,decide_eq_true_eq] at h2
  refine ⟨h2.1.1,h2.1.2,fun h0=>?_⟩
  have:=h2.2
  rw [decide_eq_true h0] at this
  exact beq_iff_eq.1 this.symm
theorem val_snoc (ds:List UInt8) (d:UInt8) (n:Nat):val n (ds ++ [d])=val n ds*16+dv d:=by unfold val; rw [List.foldl_append]; rfl
theorem val_back:∀ (m:Nat) (ds:List UInt8),ds.length=m→ds.all hx=true→ds.head? ≠ some 48→hxD (val 0 ds)=ds
  | 0,ds,h1,_,_=>by obtain rfl:=List.length_eq_zero_iff.1 h1;rfl
  | m+1,ds,h1,h2,h3=>by
    have hne:ds ≠ []:=by intro e;rw [e] at h1;simp at h1
    obtain ⟨es,d,rfl⟩:∃ es d,ds=es++[d]:=⟨ds.dropLast,ds.getLast hne,(List.dropLast_concat_getLast hne).symm⟩
    rw [List.all_append,Bool.and_eq_true] at h2
    have hd:hx d=true:=by simpa using h2.2
    obtain ⟨d1,d2,d3⟩:=dig_dv hd
    have hl:es.length=m:=by simpa using h1
    have hes:es.head? ≠ some 48:=by
      cases es with
      | nil=>simp
      | cons a l=>simpa using h3
    have ih:=val_back m es hl h2.1 hes
    rw [val_snoc]
    have hnz:val 0 es*16+dv d ≠ 0:=by
      intro e
      have e1:val 0 es=0:=by omega
      have e2:dv d=0:=by omega
      rw [e1] at ih
      have:es=[]:=ih.symm
      subst this
      have:=d3 e2
      subst this;simp at h3
    rw [hxD_step hnz,show (val 0 es*16+dv d) / 16=val 0 es by omega,show (val 0 es*16+dv d) % 16=dv d by omega,ih,d1]
theorem tn_back {s:List UInt8} (h0:(tnS s).2=0):0≤(tnS s).1∧(tnS s).1≤4611686018427387904∧hexT (tnS s).1.toNat=s:=by
  cases s with
  | nil=>cases h0
  | cons c ds =>
    rw [tnS_cons] at h0 ⊢
    by_cases a1:c.toNat=97+ds.length∧ds.length≤16
    · rw [if_pos a1] at h0 ⊢
      by_cases a2:ds.all hx=true∧ds.head? ≠ some 48
      · rw [if_pos a2] at h0 ⊢
        by_cases a3:val 0 ds≤4611686018427387904
        · rw [if_pos a3]
          refine ⟨Int.natCast_nonneg _,by show ((val 0 ds:Nat):Int)≤_;omega,?_⟩
          show hexT ((val 0 ds:Nat):Int).toNat=_
          rw [Int.toNat_natCast]
          unfold hexT
          rw [val_back ds.length ds rfl a2.1 a2.2]
          congr 1
          exact UInt8.toNat_inj.1 (by rw [UInt8.toNat_ofNat'];omega)
        · rw [if_neg a3] at h0;cases h0
      · rw [if_neg a2] at h0;cases h0
    · rw [if_neg a1] at h0;cases h0
end Go.Proofs.YtjgbakieogadfabGreatDoor
