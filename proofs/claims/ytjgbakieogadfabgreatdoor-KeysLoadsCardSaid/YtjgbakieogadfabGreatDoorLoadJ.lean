/-
  Joined by strip.py from plain texts of another seat.
-/
import Derived.Test.YtjgbakieogadfabGreatDoorKeyJ
import Derived.Test.YtjgbakieogadfabGreatDoorOpen
namespace Go.Proofs.YtjgbakieogadfabGreatDoor
open Go L Go.Sort
/-! a text cut at its first slash -/
def cutS:List UInt8→List UInt8×List UInt8×Bool
  | []=>([],[],false)
  | c :: s=>if c=47 then ([],s,true) else (c :: (cutS s).1,(cutS s).2.1,(cutS s).2.2)
theorem cut_yes:∀ {s:List UInt8},(cutS s).2.2=true→s=((cutS s).1 ++ [47]) ++ (cutS s).2.1
  | [],h=>by cases h
  | c :: s,h=>by
    unfold cutS at h ⊢
    by_cases hc:c=47
    · rw [if_pos hc];subst hc;rfl
    · rw [if_neg hc] at h ⊢
      have:=cut_yes (s:=s) h
      simp only [List.cons_append]
      exact congrArg _ this
theorem cut_no:∀ {s:List UInt8},(cutS s).2.2=false→cutS s=(s,[],false)
  | [],_=>rfl
  | c :: s,h=>by
    unfold cutS at h ⊢
    by_cases hc:c=47
    · rw [if_pos hc] at h;cases h
    · rw [if_neg hc] at h ⊢;rw [cut_no (s:=s) h]
theorem cut_len (s:List UInt8):(cutS s).1.length+(cutS s).2.1.length≤s.length:=by
  cases h:(cutS s).2.2 with
  | false=>rw [cut_no h];simp
  | true=>have:=congrArg List.length (cut_yes h);simp only [List.length_append,List.length_cons,List.length_nil] at this;omega
theorem cut_lt {s:List UInt8} (h:(cutS s).2.2=true):(cutS s).1.length+1+(cutS s).2.1.length=s.length:=by
  have:=congrArg List.length (cut_yes h);simp only [List.length_append,List.length_cons,List.length_nil] at this;omega
theorem cut_take {s:List UInt8} (h:(cutS s).2.2=true):s.take (cutS s).1.length=(cutS s).1∧s.drop ((cutS s).1.length+1)=(cutS s).2.1:=by
  have e:=cut_yes h
  rw [List.append_assoc] at e
  refine ⟨?_,?_⟩
  · conv=>lhs;arg 2;rw [e]
    exact List.take_left
  · conv=>lhs;arg 2;rw [e]
    rw [← List.append_assoc,show (cutS s).1.length+1=((cutS s).1++[47]).length by simp];exact List.drop_left
theorem split_l1 (s:List UInt8) (hs:s.length<9223372036854775807):∀ (d k i:Nat),i+d=s.length→d<k →
    hr09_Split.l1 k s (i:Int)=some (if (cutS (s.drop i)).2.2=true then .ret (s.take i++(cutS (s.drop i)).1,(cutS (s.drop i)).2.1,true) else .go ())
  | 0,k,i,h1,h2=>by
    obtain ⟨k,rfl⟩:∃ k',k=k'+1:=⟨k-1,by omega⟩
    rw [hr09_Split.l1,if_neg (by simp <;> omega),List.drop_eq_nil_of_le (by omega)];rfl
  | d+1,k,i,h1,h2=>by
    obtain ⟨k,rfl⟩:∃ k',k=k'+1:=⟨k-1,by omega⟩
    have hi:i<s.length:=by omega
    rw [hr09_Split.l1,if_pos (by simp <;> omega),gtn hi,Option.bind_some,List.drop_eq_getElem_cons hi]
    unfold cutS
    by_cases hc:s[i]=47
    · rw [if_pos (by simpa using hc),show sub s (0:Int) (i:Int)=some ((s.take i).drop 0) from subn (Nat.zero_le _) (by omega),Option.bind_some,wsucc (by omega),subn (by omega) (Nat.le_refl _),Option.bind_some,if_pos hc,if_pos rfl,List.take_length,List.drop_zero];simp
    · rw [if_neg (by simpa using hc),wsucc (by omega),split_l1 s hs d k (i+1) (by omega) (by omega),if_neg hc]
      have e:s.take (i+1)=s.take i++[s[i]]:=by rw [List.take_add_one,List.getElem?_eq_getElem hi];rfl
      rw [e,List.append_assoc];rfl
theorem Split_eq (K:Nat) (s:List UInt8) (hs:s.length<9223372036854775807) (hK:s.length<K):hr09_Split K s=some (cutS s):=by
  unfold hr09_Split
  rw [show hr09_Split.l1 K s 0=_ from split_l1 s hs s.length K 0 (by omega) hK,List.drop_zero,Option.bind_some]
  cases h:(cutS s).2.2 with
  | true =>
    rw [if_pos rfl]
    show some _=some _
    rw [List.take_zero,List.nil_append,← h]
  | false=>rw [if_neg (by decide),cut_no h];rfl
/-! the program's pieces of a text -/
theorem index_cut:∀ s:List UInt8,Go.Lib.indexByte s 47=if (cutS s).2.2=true then ((cutS s).1.length:Int) else -1
  | []=>rfl
  | c :: s=>by
    unfold Go.Lib.indexByte cutS
    by_cases hc:c=47
    · rw [if_pos hc,if_pos (by simpa using hc)];rfl
    · rw [if_neg hc,if_neg (by simpa using hc),index_cut s]
      cases h:(cutS s).2.2 with
      | false=>rfl
      | true =>
        rw [if_pos rfl,if_pos rfl,if_neg,List.length_cons];· omega
        · rw [beq_iff_eq];omega
theorem Cut_eq (K:Nat) (s:List UInt8) (hs:s.length<9223372036854775807):strings_Cut K s [47]=some (cutS s):=by
  have hi:stringslite_Index K s [47]=some (if (cutS s).2.2=true then ((cutS s).1.length:Int) else -1):=by
    unfold stringslite_Index stringslite_IndexByte
    by_cases h:s=[47]
    · subst h;rfl
    · rw [if_neg (by simpa using fun e=>h e.symm),if_pos (by rfl),show gt ([47]:List UInt8) (0:Int)=some 47 from rfl,Option.bind_some,Option.bind_some,index_cut]
  unfold strings_Cut stringslite_Cut
  rw [hi,Option.bind_some]
  cases hc:(cutS s).2.2 with
  | false=>rw [cut_no hc];rfl
  | true =>
    have h1:=cut_lt hc
    obtain ⟨e1,e2⟩:=cut_take hc
    rw [if_pos rfl,if_pos (by simp),show sub s (0:Int) ((cutS s).1.length:Int)=some ((s.take (cutS s).1.length).drop 0) from subn (Nat.zero_le _) (by omega),Option.bind_some,List.drop_zero,e1,
      show (([47]:List UInt8).length:Int)=1 from rfl,wsucc (by omega),subn (by omega) (Nat.le_refl _),Option.bind_some,List.take_length,e2,Option.bind_some,← hc]
open Go L Go.Sort
section
variable (r:S_api_Row)
abbrev kA:List UInt8:=(cutS r.Key).1
abbrev kB:List UInt8:=(cutS r.Key).2.1
def num:Int×Int:=tnS ((r.Columns.head?).getD [])
def isG:Bool:=decide (r.Columns.length=0)&&nameS r.Key
def isN:Bool:=decide (r.Columns.length=1)&&decide ((num r).2=0)
def isS:Bool:=isN r&&decide (r.Key=[35])&&decide ((num r).1≤1099511627776)
def isV:Bool:=isN r&&!decide (r.Key=[35])&&(cutS r.Key).2.2&&nameS (kA r)&&nameS (kB r)&&decide (2≤(num r).1)&&decide ((num r).1≤16)
def good:Bool:=isG r||isS r||isV r
end
def stepP (t:PT) (r:S_api_Row):PT :=
  if r.Columns.length=0 then ⟨t.root,t.sealed,mset t.gone r.Key true,t.at_⟩ else if r.Key=[35] then ⟨t.root,(num r).1,t.gone,t.at_⟩ else ⟨t.root,t.sealed,t.gone,mset t.at_ ⟨kA r,kB r⟩ (num r).1⟩
abbrev DS:=Int×List (List UInt8)×List S_hr09_version×Int
def stepD (d:DS) (r:S_api_Row):DS :=
  if r.Columns.length=0 then (d.1,d.2.1++[r.Key],d.2.2.1,d.2.2.2) else if r.Key=[35] then ((num r).1,d.2.1,d.2.2.1,d.2.2.2+1) else (d.1,d.2.1,d.2.2.1++[⟨kA r,kB r,(num r).1⟩],d.2.2.2)
def lt1:Option S_api_Row→S_api_Row→Bool
  | none,_=>true
  | some p,r=>ltS p.Key r.Key
def rise:Option S_api_Row→List S_api_Row→Bool
  | _,[]=>true
  | p,r :: rs=>lt1 p r&&rise (some r) rs
theorem rise_cons (p:Option S_api_Row) (r:S_api_Row) (rs:List S_api_Row):rise p (r :: rs)=(lt1 p r&&rise (some r) rs):=rfl
structure RowB (K:Nat) (r:S_api_Row):Prop where
  k:r.Key.length<K∧r.Key.length<4611686018427387904
  c:r.Columns.length<K∧r.Columns.length<4611686018427387904
  t:∀ c ∈ r.Columns,c.length≤9223372036854775807
theorem kinds {r:S_api_Row} (h:good r=true):(isG r=true∧r.Columns.length=0) ∨ (isS r=true∧¬ r.Columns.length=0∧r.Key=[35]) ∨ (isV r=true∧¬ r.Columns.length=0∧¬ r.Key=[35]):=by
  unfold good at h
  rw [Bool.or_eq_true,Bool.or_eq_true] at h
  rcases h with (h | h) | h
  · refine .inl ⟨h,?_⟩
    unfold isG at h;simp only [Bool.and_eq_true,decide_eq_true_eq] at h;exact h.1
  · refine .inr (.inl ⟨h,?_⟩)
    unfold isS isN at h;simp only [Bool.and_eq_true,decide_eq_true_eq] at h;exact ⟨by omega,h.1.2⟩
  · refine .inr (.inr ⟨h,?_⟩)
    unfold isV isN at h;simp only [Bool.and_eq_true,decide_eq_true_eq,Bool.not_eq_true',decide_eq_false_iff_not] at h;exact ⟨by omega,h.1.1.1.1.1.2⟩
theorem good0 {r:S_api_Row} (h:r.Columns.length=0):good r=nameS r.Key:=by
  unfold good isS isV isN isG
  rw [decide_eq_true h,decide_eq_false (show ¬ r.Columns.length=1 by omega)]
  simp
theorem take_eq (K:Nat) (hK:20≤K) (t:PT) (r:S_api_Row) (hr:RowB K r):∃ t',keys_Tree_take K t r=some (good r,t')∧(good r=true→t'=stepP t r):=by
  unfold keys_Tree_take
  by_cases h0:r.Columns.length=0
  · rw [if_pos (by simpa using h0),Option.bind_some,IsName_eq,Option.bind_some,good0 h0]
    exact ⟨_,rfl,fun _=>by unfold stepP;rw [if_pos h0]⟩
  · have hi:0<r.Columns.length:=by omega
    have hn:num r=tnS r.Columns[0]:=by unfold num;rw [List.head?_eq_getElem?,List.getElem?_eq_getElem hi];rfl
    have hg:isG r=false:=by unfold isG;rw [decide_eq_false h0];rfl
    rw [if_neg (by simpa using h0),show gt r.Columns (0:Int)=some r.Columns[0] from gtn (i:=0) hi,Option.bind_some,tn_eq K _ hK (hr.t _ (List.getElem_mem hi)),Option.bind_some,← hn]
    by_cases h1:isN r=true
    · have h1':=h1
      unfold isN at h1';simp only [Bool.and_eq_true,decide_eq_true_eq] at h1'
      rw [if_neg (by simp [h1'.1,h1'.2])]
      by_cases h2:r.Key=[35]
      · rw [if_pos (decide_eq_true h2)]
        refine ⟨⟨t.root,(num r).1,t.gone,t.at_⟩,by unfold good isS isV;rw [hg,h1,decide_eq_true h2];simp,fun _=>by unfold stepP;rw [if_neg h0,if_pos h2]⟩
      · rw [if_neg (by simpa using h2),Cut_eq K _ (by have:=hr.k.2;omega),Option.bind_some,Option.bind_some]
        have e:good r=(((cutS r.Key).2.2&&nameS (kA r)&&nameS (kB r))&&decide (2≤(num r).1)&&decide ((num r).1≤16)):=by
          unfold good isS isV;rw [hg,h1,decide_eq_false h2];simp [Bool.and_assoc]
        have fin:∀ b2 b3:Option Bool,b2=some ((cutS r.Key).2.2&&nameS (kA r))→(∀ x:Bool,b2=some x→(if x=true then (codec_IsName K (kB r)).bind fun r_5=>some r_5 else some false)=some (x&&nameS (kB r))) →
            ∃ t',(b2.bind fun b2=>(if b2=true then (codec_IsName K (kB r)).bind fun r_5=>some r_5 else some false).bind fun b3=>some ((b3&&decide ((2:Int)≤(num r).1))&&decide ((num r).1≤(16:Int)),(⟨t.root,t.sealed,t.gone,mset t.at_ ⟨(cutS r.Key).1,(cutS r.Key).2.1⟩ (num r).1⟩:S_keys_Tree)))=some (good r,t')∧(good r=true→t'=stepP t r):=by
          intro b2 _ e2 e3
          subst e2
          rw [Option.bind_some,e3 _ rfl,Option.bind_some]
          exact ⟨_,by rw [e],fun _=>by unfold stepP;rw [if_neg h0,if_neg h2]⟩
        refine fin _ none ?_ fun x _=>?_
        · cases (cutS r.Key).2.2 with
          | false=>rfl
          | true=>rw [if_pos rfl,IsName_eq];rfl
        · cases x with
          | false=>rfl
          | true=>rw [if_pos rfl,IsName_eq];rfl
    · have e:good r=false:=by unfold good isS isV;rw [hg,show isN r=false by simpa using h1];rfl
      rw [if_pos,e]
      · exact ⟨_,rfl,fun h=>by cases h⟩
      · unfold isN at h1;rw [Bool.and_eq_true,decide_eq_true_eq,decide_eq_true_eq] at h1
        simp only [Bool.or_eq_true,Bool.not_eq_true',decide_eq_false_iff_not]
        by_cases hc:r.Columns.length=1
        · exact .inl fun h=>h1 ⟨hc,h⟩
        · exact .inr (by omega)
theorem load_l1 (K:Nat) (hK:20≤K) (rows:List S_api_Row) (hN:rows.length≤4611686018427387000) (hr:∀ r ∈ rows,RowB K r):∀ (d k i:Nat) (t:PT),i+d=rows.length→d<k →
    keys_Load.l1 K k rows t.root t.sealed t.gone t.at_ (i:Int)=some (if rise (if i=0 then none else rows[i-1]?) (rows.drop i)=true∧(rows.drop i).all good=true then .go (let q:=(rows.drop i).foldl stepP t;(q.root,q.sealed,q.gone,q.at_)) else .ret (none,3))
  | 0,k,i,t,h1,h2=>by
    obtain ⟨k,rfl⟩:∃ k',k=k'+1:=⟨k-1,by omega⟩
    rw [keys_Load.l1,if_neg (by simp <;> omega),List.drop_eq_nil_of_le (by omega),if_pos ⟨rfl,rfl⟩];rfl
  | d+1,k,i,t,h1,h2=>by
    obtain ⟨k,rfl⟩:∃ k',k=k'+1:=⟨k-1,by omega⟩
    have hi:i<rows.length:=by omega
    have hR:=hr rows[i] (List.getElem_mem hi)
    obtain ⟨t',e1,e2⟩:=take_eq K hK t rows[i] hR
    have next:=load_l1 K hK rows hN hr d k (i+1) (stepP t rows[i]) (by omega) (by omega)
    rw [if_neg (show ¬ i+1=0 by omega),Nat.add_sub_cancel,List.getElem?_eq_getElem hi] at next
    rw [keys_Load.l1,if_pos (by simpa using hi),gtn hi,Option.bind_some,List.drop_eq_getElem_cons hi,rise_cons,List.all_cons,List.foldl_cons]
    have body:((keys_Tree_take K (⟨t.root,t.sealed,t.gone,t.at_⟩:S_keys_Tree) (⟨rows[i].Key,rows[i].Columns⟩:S_api_Row)).bind fun r_2=>(if (!r_2.1)=true then (some (.ret (none,(3:Int)))) else (keys_Load.l1 K k rows r_2.2.root r_2.2.sealed r_2.2.gone r_2.2.at_ (W ((i:Int)+(1:Int)))))) =
        some (if rise (some rows[i]) (rows.drop (i+1))=true∧(good rows[i]&&(rows.drop (i+1)).all good)=true then .go (let q:=(rows.drop (i+1)).foldl stepP (stepP t rows[i]);(q.root,q.sealed,q.gone,q.at_)) else .ret (none,3)):=by
      rw [show keys_Tree_take K (⟨t.root,t.sealed,t.gone,t.at_⟩:S_keys_Tree) (⟨rows[i].Key,rows[i].Columns⟩:S_api_Row)=_ from e1,Option.bind_some,wsucc (by omega)]
      cases hg:good rows[i] with
      | false=>rw [if_pos (show (!(false,t').1)=true from rfl),if_neg (by simp)]
      | true=>rw [if_neg (by simp),e2 hg,next,Bool.true_and]
    rw [body]
    by_cases h0:i=0
    · rw [if_neg (by simp [h0]),if_pos h0];rfl
    · have hi1:i-1<rows.length:=by omega
      rw [if_pos (by simp <;> omega),wpred (by omega) (by omega),gtn hi1,Option.bind_some,if_neg h0,List.getElem?_eq_getElem hi1]
      by_cases hx:ltS rows[i-1].Key rows[i].Key=true
      · rw [if_neg (by simp [hx])];simp only [lt1,hx,Bool.true_and]
      · rw [if_pos (by simpa using hx),if_neg (by simp [lt1,hx])]
/-! the document's loop -/
abbrev LkD:=Int→List (List UInt8)→List S_hr09_version→Int→Option (Lr ((Option S_hr09_Tree)×Int) DS)
def bodyD (K:Nat) (lk:LkD) (e1:S_api_Row) (x:Int) (x1:List (List UInt8)) (x2:List S_hr09_version) (count:Int):Option (Lr ((Option S_hr09_Tree)×Int) DS) :=
  (if (decide ((e1.Columns.length:Int)=(0:Int)))=true then ((hr02_IsName K e1.Key).bind fun r_6=>(if (!r_6)=true then (some (.ret (none,(3:Int)))) else ((some ([e1.Key]:List (List UInt8))).bind fun l5=>((app 8796093022208 x1 l5).bind fun x8=>(lk x x8 x2 count))))) else ((gt e1.Columns (0:Int)).bind fun e7=>((hr02_ToNumber K e7).bind fun r_7=>(if ((!decide ((e1.Columns.length:Int)=(1:Int)))||(!decide (r_7.2=(0:Int))))=true then (some (.ret (none,(3:Int)))) else (if ((decide (e1.Key=([35]:List UInt8)))&&(decide ((1099511627776:Int)<r_7.1)))=true then (some (.ret (none,(3:Int)))) else (if (decide (e1.Key=([35]:List UInt8)))=true then (lk r_7.1 x1 x2 (W (count+(1:Int)))) else ((hr09_Split K e1.Key).bind fun r_8=>((if (!r_8.2.2)=true then some true else ((hr02_IsName K r_8.1).bind fun r_9=>(some (!r_9)))).bind fun b2=>((if b2=true then some true else ((hr02_IsName K r_8.2.1).bind fun r_10=>(some (!r_10)))).bind fun b3=>(if ((b3||(decide (r_7.1<(2:Int))))||(decide ((16:Int)<r_7.1)))=true then (some (.ret (none,(3:Int)))) else ((some ([(⟨r_8.1,r_8.2.1,r_7.1⟩:S_hr09_version)]:List S_hr09_version)).bind fun l6=>((app 3518437208883 x2 l6).bind fun x9=>(lk x x1 x9 count)))))))))))))
theorem bodyD_eq (K:Nat) (hK:20≤K) (lk:LkD) (r:S_api_Row) (hr:RowB K r) (d:DS) (h1:d.2.1.length<3518437208800) (h2:d.2.2.1.length<3518437208800) (h3:0≤d.2.2.2∧d.2.2.2<4000000000000) :
    bodyD K lk r d.1 d.2.1 d.2.2.1 d.2.2.2=if good r=true then (let q:=stepD d r;lk q.1 q.2.1 q.2.2.1 q.2.2.2) else some (.ret (none,3)):=by
  have hl:=cut_len r.Key
  have hk:=hr.k
  unfold bodyD stepD
  by_cases h0:r.Columns.length=0
  · rw [if_pos (by simpa using h0),refIsName_eq K _ hr.k.1 hr.k.2,Option.bind_some,good0 h0,if_pos h0]
    cases nameS r.Key with
    | false=>rfl
    | true=>rw [if_neg (by decide),Option.bind_some,appn (by simp only [List.length_cons,List.length_nil];omega),Option.bind_some,if_pos rfl]
  · have hi:0<r.Columns.length:=by omega
    have hn:num r=tnS r.Columns[0]:=by unfold num;rw [List.head?_eq_getElem?,List.getElem?_eq_getElem hi];rfl
    have hg:isG r=false:=by unfold isG;rw [decide_eq_false h0];rfl
    rw [if_neg (by simpa using h0),show gt r.Columns (0:Int)=some r.Columns[0] from gtn (i:=0) hi,Option.bind_some,dtn_eq K _ hK (hr.t _ (List.getElem_mem hi)),Option.bind_some,← hn,if_neg h0]
    by_cases hN:isN r=true
    · have h1':=hN
      unfold isN at h1';simp only [Bool.and_eq_true,decide_eq_true_eq] at h1'
      rw [if_neg (by simp [h1'.1,h1'.2])]
      by_cases hk3:r.Key=[35]
      · have e:good r=decide ((num r).1≤1099511627776):=by unfold good isS isV;rw [hg,hN,decide_eq_true hk3];simp
        rw [e,decide_eq_true hk3,Bool.true_and,if_pos hk3]
        by_cases hm:(num r).1≤1099511627776
        · rw [if_neg (by simpa using hm),if_pos rfl,if_pos (decide_eq_true hm),wid (by omega)]
        · rw [if_pos (by simpa using hm),if_neg (by simpa using hm)]
      · have e:good r=(((cutS r.Key).2.2&&nameS (kA r)&&nameS (kB r))&&decide (2≤(num r).1)&&decide ((num r).1≤16)):=by
          unfold good isS isV;rw [hg,hN,decide_eq_false hk3];simp [Bool.and_assoc]
        rw [decide_eq_false hk3,Bool.false_and,if_neg (by decide),if_neg (by decide),Split_eq K _ (by omega) hr.k.1,Option.bind_some,if_neg hk3,e]
        cases hc:(cutS r.Key).2.2 with
        | false=>rfl
        | true =>
          rw [if_neg (by decide),refIsName_eq K _ (by omega) (by omega),Option.bind_some,Option.bind_some]
          cases hA:nameS (kA r) with
          | false=>rfl
          | true =>
            rw [if_neg (by decide),refIsName_eq K _ (by omega) (by omega),Option.bind_some,Option.bind_some]
            cases hB:nameS (kB r) with
            | false=>rfl
            | true =>
              rw [Bool.not_true,Bool.false_or]
              by_cases hlo:2≤(num r).1
              · by_cases hhi:(num r).1≤16
                · rw [if_neg (by simp <;> omega),Option.bind_some,appn (by simp only [List.length_cons,List.length_nil];omega),Option.bind_some,decide_eq_true hlo,decide_eq_true hhi];rfl
                · rw [if_pos (by simp <;> omega),decide_eq_false hhi];simp
              · rw [if_pos (by simp <;> omega),decide_eq_false hlo];simp
    · have e:good r=false:=by unfold good isS isV;rw [hg,show isN r=false by simpa using hN];rfl
      rw [if_pos,e]
      · rfl
      · unfold isN at hN;rw [Bool.and_eq_true,decide_eq_true_eq,decide_eq_true_eq] at hN
        simp only [Bool.or_eq_true,Bool.not_eq_true',decide_eq_false_iff_not]
        by_cases hc:r.Columns.length=1
        · exact .inr fun h=>hN ⟨hc,h⟩
        · exact .inl (by omega)
theorem stepD_len (d:DS) (r:S_api_Row):(stepD d r).2.1.length≤d.2.1.length+1∧(stepD d r).2.2.1.length≤d.2.2.1.length+1∧d.2.2.2≤(stepD d r).2.2.2∧(stepD d r).2.2.2≤d.2.2.2+1:=by
  unfold stepD
  split
  · exact ⟨by simp,Nat.le_succ _,Int.le_refl _,by dsimp only;omega⟩
  · split
    · exact ⟨Nat.le_succ _,Nat.le_succ _,by dsimp only;omega,Int.le_refl _⟩
    · exact ⟨Nat.le_succ _,by simp,Int.le_refl _,by dsimp only;omega⟩
theorem rload_l1 (K:Nat) (hK:20≤K) (rows:List S_api_Row) (hN:rows.length≤3518437208780) (hr:∀ r ∈ rows,RowB K r):∀ (d k i:Nat) (q:DS),i+d=rows.length→d<k→q.2.1.length≤i→q.2.2.1.length≤i→0≤q.2.2.2→q.2.2.2≤i →
    hr09_Load.l1 K k rows q.1 q.2.1 q.2.2.1 q.2.2.2 (i:Int)=some (if rise (if i=0 then none else rows[i-1]?) (rows.drop i)=true∧(rows.drop i).all good=true then .go ((rows.drop i).foldl stepD q) else .ret (none,3))
  | 0,k,i,q,h1,h2,_,_,_,_=>by
    obtain ⟨k,rfl⟩:∃ k',k=k'+1:=⟨k-1,by omega⟩
    rw [hr09_Load.l1,if_neg (by simp <;> omega),List.drop_eq_nil_of_le (by omega),if_pos ⟨rfl,rfl⟩];rfl
  | d+1,k,i,q,h1,h2,h3,h4,h5,h6=>by
    obtain ⟨k,rfl⟩:∃ k',k=k'+1:=⟨k-1,by omega⟩
    have hi:i<rows.length:=by omega
    have hR:=hr rows[i] (List.getElem_mem hi)
    obtain ⟨s1,s2,s3,s4⟩:=stepD_len q rows[i]
    have next:=rload_l1 K hK rows hN hr d k (i+1) (stepD q rows[i]) (by omega) (by omega) (by omega) (by omega) (by omega) (by omega)
    rw [if_neg (show ¬ i+1=0 by omega),Nat.add_sub_cancel,List.getElem?_eq_getElem hi] at next
    have hb:=bodyD_eq K hK (fun x x1 x2 c=>hr09_Load.l1 K k rows x x1 x2 c (W ((i:Int)+1))) rows[i] hR q (by omega) (by omega) ⟨h5,by omega⟩
    have body:bodyD K (fun x x1 x2 c=>hr09_Load.l1 K k rows x x1 x2 c (W ((i:Int)+1))) rows[i] q.1 q.2.1 q.2.2.1 q.2.2.2 =
        some (if rise (some rows[i]) (rows.drop (i+1))=true∧(good rows[i]&&(rows.drop (i+1)).all good)=true then .go ((rows.drop (i+1)).foldl stepD (stepD q rows[i])) else .ret (none,3)):=by
      rw [hb]
      cases hg:good rows[i] with
      | false=>rw [if_neg (by decide),if_neg (by simp)]
      | true=>rw [if_pos rfl,wsucc (by omega),Bool.true_and];exact next
    have hl:hr09_Load.l1 K (k+1) rows q.1 q.2.1 q.2.2.1 q.2.2.2 (i:Int)=if (decide ((i:Int)<(rows.length:Int)))=true then ((gt rows (i:Int)).bind fun e1=>(if (decide ((0:Int)<(i:Int)))=true then ((gt rows (W ((i:Int)-(1:Int)))).bind fun e2=>(if (!ltS e2.Key e1.Key)=true then (some (.ret (none,(3:Int)))) else bodyD K (fun x x1 x2 c=>hr09_Load.l1 K k rows x x1 x2 c (W ((i:Int)+1))) e1 q.1 q.2.1 q.2.2.1 q.2.2.2)) else bodyD K (fun x x1 x2 c=>hr09_Load.l1 K k rows x x1 x2 c (W ((i:Int)+1))) e1 q.1 q.2.1 q.2.2.1 q.2.2.2)) else (some (.go (q.1,q.2.1,q.2.2.1,q.2.2.2))):=rfl
    rw [hl,if_pos (by simpa using hi),gtn hi,Option.bind_some,List.drop_eq_getElem_cons hi,rise_cons,List.all_cons,List.foldl_cons,body]
    by_cases h0:i=0
    · rw [if_neg (by simp [h0]),if_pos h0];rfl
    · have hi1:i-1<rows.length:=by omega
      rw [if_pos (by simp <;> omega),wpred (by omega) (by omega),gtn hi1,Option.bind_some,if_neg h0,List.getElem?_eq_getElem hi1]
      by_cases hx:ltS rows[i-1].Key rows[i].Key=true
      · rw [if_neg (by simp [hx])];simp only [lt1,hx,Bool.true_and]
      · rw [if_pos (by simpa using hx),if_neg (by simp [lt1,hx])]
open Go L Go.Sort
/-! what stands in a tree that is loaded -/
theorem mset_new {κ β:Type} [DecidableEq κ]:∀ {m:List (κ×β)} {a:κ} {v:β},a ∉ m.map (·.1)→mset m a v=m ++ [(a,v)]
  | [],_,_,_=>rfl
  | y :: m,a,v,h=>by
    rw [List.map_cons,List.mem_cons,not_or] at h
    simp only [mset,if_neg (fun e:y.1=a=>h.1 e.symm),mset_new h.2,List.cons_append]
def fG (r:S_api_Row):List UInt8×Bool:=(r.Key,true)
def fV (r:S_api_Row):S_keys_purpose×Int:=(⟨kA r,kB r⟩,(num r).1)
def lastS (z:Int) (rows:List S_api_Row):Int:=rows.foldl (fun z r=>if isS r=true then (num r).1 else z) z
theorem keyV_ok {r:S_api_Row} (h:isV r=true):keyV (fV r).1=r.Key:=by
  unfold isV at h
  simp only [Bool.and_eq_true] at h
  exact (cut_yes h.1.1.1.1.2).symm
theorem not_kinds {r:S_api_Row} : (isG r=true→isS r=false∧isV r=false)∧(isS r=true→isG r=false∧isV r=false)∧(isV r=true→isG r=false∧isS r=false):=by
  unfold isS isV isG isN
  refine ⟨fun h=>?_,fun h=>?_,fun h=>?_⟩ <;> simp only [Bool.and_eq_true,decide_eq_true_eq,Bool.not_eq_true',decide_eq_false_iff_not] at h
  · rw [decide_eq_false (show ¬ r.Columns.length=1 by omega)];simp
  · rw [decide_eq_false (show ¬ r.Columns.length=0 by omega),decide_eq_true h.1.2];simp
  · rw [decide_eq_false (show ¬ r.Columns.length=0 by omega),decide_eq_false h.1.1.1.1.1.2];simp
theorem lastS_cons (z:Int) (r:S_api_Row) (rs:List S_api_Row):lastS z (r :: rs)=lastS (if isS r=true then (num r).1 else z) rs:=rfl
theorem foldP:∀ (rows:List S_api_Row) (t:PT),(∀ r ∈ rows,good r=true)→(t.gone.map (·.1) ++ (rows.filter isG).map (·.Key)).Nodup→(t.at_.map (fun p=>keyV p.1) ++ (rows.filter isV).map (·.Key)).Nodup →
    rows.foldl stepP t=⟨t.root,lastS t.sealed rows,t.gone++(rows.filter isG).map fG,t.at_++(rows.filter isV).map fV⟩
  | [],t,_,_,_=>by simp [lastS]
  | r :: rs,t,hg,h1,h2=>by
    have hr:=hg r List.mem_cons_self
    have hgs:∀ x ∈ rs,good x=true:=fun x hx=>hg x (List.mem_cons_of_mem _ hx)
    rw [List.foldl_cons,lastS_cons,List.filter_cons,List.filter_cons]
    rw [List.filter_cons] at h1 h2
    rcases kinds hr with ⟨k1,k2⟩ | ⟨k1,k2,k3⟩ | ⟨k1,k2,k3⟩
    · obtain ⟨n1,n2⟩:=not_kinds.1 k1
      rw [if_pos k1,List.map_cons] at h1
      rw [if_neg (by rw [n2];decide)] at h2
      have hm:r.Key ∉ t.gone.map (·.1):=fun hm=>by rw [List.nodup_append] at h1;exact h1.2.2 _ hm _ List.mem_cons_self rfl
      have e:stepP t r=⟨t.root,t.sealed,t.gone++[fG r],t.at_⟩:=by unfold stepP;rw [if_pos k2,mset_new hm];rfl
      rw [if_pos k1,if_neg (show ¬ isS r=true by rw [n1];decide),if_neg (show ¬ isV r=true by rw [n2];decide),e,foldP rs ⟨t.root,t.sealed,t.gone++[fG r],t.at_⟩ hgs (by simpa [List.append_assoc,fG] using h1) h2,List.map_cons,List.append_assoc]
      rfl
    · obtain ⟨n1,n2⟩:=not_kinds.2.1 k1
      rw [if_neg (by rw [n1];decide)] at h1
      rw [if_neg (by rw [n2];decide)] at h2
      have e:stepP t r=⟨t.root,(num r).1,t.gone,t.at_⟩:=by unfold stepP;rw [if_neg k2,if_pos k3]
      rw [if_pos k1,if_neg (show ¬ isG r=true by rw [n1];decide),if_neg (show ¬ isV r=true by rw [n2];decide),e,foldP rs ⟨t.root,(num r).1,t.gone,t.at_⟩ hgs h1 h2]
    · obtain ⟨n1,n2⟩:=not_kinds.2.2 k1
      rw [if_neg (by rw [n1];decide)] at h1
      rw [if_pos k1,List.map_cons] at h2
      have hm:(⟨kA r,kB r⟩:S_keys_purpose) ∉ t.at_.map (·.1):=fun hm=>by
        rw [List.nodup_append] at h2
        obtain ⟨p,hp,e⟩:=List.mem_map.1 hm
        exact h2.2.2 _ (List.mem_map.2 ⟨p,hp,rfl⟩) _ List.mem_cons_self (by rw [e];exact keyV_ok k1)
      have e2:keyV (⟨kA r,kB r⟩:S_keys_purpose)=r.Key:=keyV_ok k1
      have e:stepP t r=⟨t.root,t.sealed,t.gone,t.at_++[fV r]⟩:=by unfold stepP;rw [if_neg k2,if_neg k3,mset_new hm];rfl
      rw [if_pos k1,if_neg (show ¬ isG r=true by rw [n1];decide),if_neg (show ¬ isS r=true by rw [n2];decide),e,foldP rs ⟨t.root,t.sealed,t.gone,t.at_++[fV r]⟩ hgs h1 (by simpa [List.append_assoc,fV,e2] using h2),List.map_cons,List.append_assoc]
      rfl
theorem foldD:∀ (rows:List S_api_Row) (d:DS),(∀ r ∈ rows,good r=true) →
    rows.foldl stepD d=(lastS d.1 rows,d.2.1++(rows.filter isG).map (·.Key),d.2.2.1++(rows.filter isV).map (toV ∘ fV),d.2.2.2+((rows.filter isS).length:Int))
  | [],d,_=>by simp [lastS]
  | r :: rs,d,hg=>by
    have hr:=hg r List.mem_cons_self
    have hgs:∀ x ∈ rs,good x=true:=fun x hx=>hg x (List.mem_cons_of_mem _ hx)
    rw [List.foldl_cons,foldD rs _ hgs,lastS_cons,List.filter_cons,List.filter_cons,List.filter_cons]
    rcases kinds hr with ⟨k1,k2⟩ | ⟨k1,k2,k3⟩ | ⟨k1,k2,k3⟩
    · obtain ⟨n1,n2⟩:=not_kinds.1 k1
      have e:stepD d r=(d.1,d.2.1++[r.Key],d.2.2.1,d.2.2.2):=by unfold stepD;rw [if_pos k2]
      rw [e,if_pos k1,if_neg (show ¬ isS r=true by rw [n1];decide),if_neg (show ¬ isV r=true by rw [n2];decide),if_neg (show ¬ isS r=true by rw [n1];decide),List.map_cons]
      simp [List.append_assoc]
    · obtain ⟨n1,n2⟩:=not_kinds.2.1 k1
      have e:stepD d r=((num r).1,d.2.1,d.2.2.1,d.2.2.2+1):=by unfold stepD;rw [if_neg k2,if_pos k3]
      rw [e,if_pos k1,if_neg (show ¬ isG r=true by rw [n1];decide),if_neg (show ¬ isV r=true by rw [n2];decide),if_pos k1,List.length_cons]
      refine Prod.ext rfl (Prod.ext rfl (Prod.ext rfl ?_))
      show d.2.2.2+1+_=d.2.2.2+((_+1:Nat):Int)
      omega
    · obtain ⟨n1,n2⟩:=not_kinds.2.2 k1
      have e:stepD d r=(d.1,d.2.1,d.2.2.1++[⟨kA r,kB r,(num r).1⟩],d.2.2.2):=by unfold stepD;rw [if_neg k2,if_neg k3]
      rw [e,if_pos k1,if_neg (show ¬ isG r=true by rw [n1];decide),if_neg (show ¬ isS r=true by rw [n2];decide),if_neg (show ¬ isS r=true by rw [n2];decide),List.map_cons]
      simp [List.append_assoc,toV,fV,Function.comp]
/-! rows in order -/
theorem ltS_t {a b c:List UInt8} (h1:ltS a b=true) (h2:ltS b c=true):ltS a c=true:=by
  have:=swoR.trans (x:=(⟨a,[]⟩:S_api_Row)) (y:=⟨b,[]⟩) (z:=⟨c,[]⟩)
  rw [ltR,ltR,ltR] at this;exact this h1 h2
theorem rise_all:∀ (rows:List S_api_Row) (p:Option S_api_Row),rise p rows=true→(∀ r ∈ rows,lt1 p r=true)∧rows.Pairwise fun a b=>ltS a.Key b.Key=true
  | [],_,_=>⟨fun r h=>(by cases h),List.Pairwise.nil⟩
  | r :: rs,p,h=>by
    rw [rise_cons,Bool.and_eq_true] at h
    obtain ⟨h1,h2⟩:=rise_all rs (some r) h.2
    refine ⟨fun x hx=>?_,List.pairwise_cons.2 ⟨h1,h2⟩⟩
    rcases List.mem_cons.1 hx with rfl | hx
    · exact h.1
    · cases p with
      | none=>rfl
      | some q=>exact ltS_t h.1 (h1 x hx)
theorem rise_sd {rows:List S_api_Row} (h:rise none rows=true):Sd (ltOf cfR) rows∧(rows.map (·.Key)).Nodup:=by
  have hp:=(rise_all rows none h).2
  refine ⟨hp.imp fun {a b} hab=>?_,List.pairwise_map.2 (hp.imp fun {a b} hab e=>?_)⟩
  · exact asym swoR (by rw [ltR];exact hab)
  · have h1:ltOf cfR a b=true:=by rw [ltR];exact hab
    have h2:=asym swoR h1
    rw [ltR] at h2;rw [e] at hab
    rw [e,hab] at h2;cases h2
theorem filt_nd {rows:List S_api_Row} (h:(rows.map (·.Key)).Nodup) (p:S_api_Row→Bool):((rows.filter p).map (·.Key)).Nodup:=List.pairwise_map.2 ((List.pairwise_map.1 h).filter p)
/-! the loops over what is loaded -/
def goneAny (g:List (List UInt8×Bool)) (l:List (S_keys_purpose×Int)):Bool:=l.any fun p=>(mget g p.1.tenant).getD false
theorem m2_fold (K:Nat) (g:List (List UInt8×Bool)):∀ l:List (S_keys_purpose×Int),mfold (keys_Load.m2 K g) l ()=some (if goneAny g l=true then .ret (none,3) else .go ())
  | []=>rfl
  | p :: l=>by
    unfold goneAny
    rw [List.any_cons]
    simp only [mfold,keys_Load.m2]
    cases hp:(mget g p.1.tenant).getD false with
    | true=>rfl
    | false =>
      rw [if_neg (by decide),Option.bind_some,Bool.false_or]
      show mfold (keys_Load.m2 K g) l ()=_
      exact m2_fold K g l
theorem goneAny_perm {g:List (List UInt8×Bool)} {l l':List (S_keys_purpose×Int)} (h:l.Perm l'):goneAny g l=goneAny g l':=by
  rw [Bool.eq_iff_iff];unfold goneAny;rw [List.any_eq_true,List.any_eq_true]
  exact ⟨fun ⟨x,hx,e⟩=>⟨x,h.mem_iff.1 hx,e⟩,fun ⟨x,hx,e⟩=>⟨x,h.mem_iff.2 hx,e⟩⟩
theorem l2_eq (K:Nat) (r0:RT) (z:Int) (g:List (List UInt8)) (l:List S_hr09_version) (hg:g.length<K∧g.length<4611686018427387904) (hl:l.length<4611686018427387904):∀ (d k i:Nat),i+d=l.length→d<k →
    hr09_Load.l2 K k r0 z g l (i:Int)=some (if ((l.drop i).any fun v=>decide (v.tenant ∈ g))=true then .ret (none,3) else .go (g,l))
  | 0,k,i,h1,h2=>by
    obtain ⟨k,rfl⟩:∃ k',k=k'+1:=⟨k-1,by omega⟩
    rw [hr09_Load.l2,if_neg (by simp <;> omega),List.drop_eq_nil_of_le (by omega)];rfl
  | d+1,k,i,h1,h2=>by
    obtain ⟨k,rfl⟩:∃ k',k=k'+1:=⟨k-1,by omega⟩
    have hi:i<l.length:=by omega
    rw [hr09_Load.l2,if_pos (by simpa using hi),gtn hi,Option.bind_some,isGone_eq K _ _ hg.1 hg.2,Option.bind_some,List.drop_eq_getElem_cons hi,List.any_cons]
    show (if decide (l[i].tenant ∈ g)=true then _ else _)=_
    cases decide (l[i].tenant ∈ g) with
    | true=>rfl
    | false=>rw [if_neg (by decide),Bool.false_or,wsucc (by omega),l2_eq K r0 z g l hg hl d k (i+1) (by omega) (by omega)]
/-! what both load -/
def tOf (root:List UInt8) (rows:List S_api_Row):PT:=⟨root,lastS 0 rows,(rows.filter isG).map fG,(rows.filter isV).map fV⟩
def rOf (root:List UInt8) (rows:List S_api_Row):RT:=⟨root,lastS 0 rows,(rows.filter isG).map (·.Key),(rows.filter isV).map (toV ∘ fV)⟩
def fine (rows:List S_api_Row):Bool :=
  decide (rise none rows=true∧rows.all good=true)&&!goneAny ((rows.filter isG).map fG) ((rows.filter isV).map fV)&&decide ((rows.filter isS).length=1)&&decide ((rows.filter isG).length≤16)&&decide ((rows.filter isV).length≤16)
theorem three:∀ rows:List S_api_Row,(∀ r ∈ rows,good r=true)→(rows.filter isG).length+(rows.filter isS).length+(rows.filter isV).length=rows.length
  | [],_=>rfl
  | r :: rs,h=>by
    have ih:=three rs fun x hx=>h x (List.mem_cons_of_mem _ hx)
    rw [List.filter_cons,List.filter_cons,List.filter_cons,List.length_cons]
    rcases kinds (h r List.mem_cons_self) with ⟨k1,_⟩ | ⟨k1,_,_⟩ | ⟨k1,_,_⟩
    · obtain ⟨n1,n2⟩:=not_kinds.1 k1;rw [k1,n1,n2];simp;omega
    · obtain ⟨n1,n2⟩:=not_kinds.2.1 k1;rw [k1,n1,n2];simp;omega
    · obtain ⟨n1,n2⟩:=not_kinds.2.2 k1;rw [k1,n1,n2];simp;omega
theorem Load_eq (K:Nat) (hK:4000000000000<K) (root:List UInt8) (rows:List S_api_Row) (hN:rows.length≤3518437208780) (hr:∀ r ∈ rows,RowB K r) :
    keys_Load K root rows=some (if fine rows=true then (some (tOf root rows),0) else (none,3)):=by
  have h:=load_l1 K (by omega) rows (by omega) hr rows.length K 0 ⟨root,0,[],[]⟩ (by omega) (by omega)
  rw [if_pos rfl,List.drop_zero] at h
  unfold keys_Load keys_New fine
  rw [Option.bind_some,show keys_Load.l1 K K rows root 0 [] [] 0=_ from h,Option.bind_some]
  by_cases h1:rise none rows=true∧rows.all good=true
  · have hG:∀ r ∈ rows,good r=true:=List.all_eq_true.1 h1.2
    have hnd:=(rise_sd h1.1).2
    have hf:=foldP rows ⟨root,0,[],[]⟩ hG (by simpa using filt_nd hnd isG) (by simpa using filt_nd hnd isV)
    rw [if_pos h1,decide_eq_true h1,hf,Bool.true_and]
    have h3:=three rows hG
    show mrngK (keys_Load.m2 K ([]++(rows.filter isG).map fG)) ([]++(rows.filter isV).map fV) () _=_
    rw [List.nil_append,List.nil_append]
    refine mrngK_eq fun l hp=>?_
    rw [m2_fold,goneAny_perm hp,Option.bind_some]
    cases goneAny ((rows.filter isG).map fG) ((rows.filter isV).map fV) with
    | true=>rfl
    | false =>
      rw [if_neg (by decide),Bool.not_false,Bool.true_and]
      show (if (!decide ((rows.length:Int)=W ((W ((1:Int)+(((rows.filter isG).map fG).length:Int)))+(((rows.filter isV).map fV).length:Int))))=true then (some (none,(3:Int))) else (if (decide ((16:Int)<(((rows.filter isG).map fG).length:Int)))=true then (some (none,(3:Int))) else (if (decide ((16:Int)<(((rows.filter isV).map fV).length:Int)))=true then (some (none,(3:Int))) else (some (some (⟨root,lastS 0 rows,(rows.filter isG).map fG,(rows.filter isV).map fV⟩:S_keys_Tree),(0:Int))))))=_
      rw [List.length_map,List.length_map,wid (x:=(1:Int)+((rows.filter isG).length:Int)) (by omega),wid (by omega)]
      by_cases c1:(rows.filter isS).length=1
      · rw [if_neg (by simp <;> omega),decide_eq_true c1,Bool.true_and]
        by_cases c2:(rows.filter isG).length≤16
        · rw [if_neg (by simp <;> omega),decide_eq_true c2,Bool.true_and]
          by_cases c3:(rows.filter isV).length≤16
          · rw [if_neg (by simp <;> omega),decide_eq_true c3,if_pos rfl];rfl
          · rw [if_pos (by simp <;> omega),decide_eq_false c3,if_neg (by decide)]
        · rw [if_pos (by simp <;> omega),decide_eq_false c2];rfl
      · rw [if_pos (by simp <;> omega),decide_eq_false c1];rfl
  · rw [if_neg h1,decide_eq_false h1];rfl
theorem gone_same (rows:List S_api_Row) (hnd:(rows.map (·.Key)).Nodup):(((rows.filter isV).map (toV ∘ fV)).any fun v=>decide (v.tenant ∈ (rows.filter isG).map (·.Key)))=goneAny ((rows.filter isG).map fG) ((rows.filter isV).map fV):=by
  have hn:NDK ((rows.filter isG).map fG):=by
    unfold NDK;rw [List.map_map];exact filt_nd hnd isG
  have key:∀ a:List UInt8,(mget ((rows.filter isG).map fG) a).getD false=decide (a ∈ (rows.filter isG).map (·.Key)):=by
    intro a
    by_cases ha:a ∈ (rows.filter isG).map (·.Key)
    · obtain ⟨x,hx,rfl⟩:=List.mem_map.1 ha
      rw [mem_mget hn (List.mem_map.2 ⟨x,hx,rfl⟩:(x.Key,true) ∈ (rows.filter isG).map fG),decide_eq_true ha];rfl
    · rw [mget_none.2 (by rw [List.map_map];exact ha),decide_eq_false ha];rfl
  unfold goneAny
  rw [List.any_map,List.any_map]
  congr 1
  funext r
  exact (key (kA r)).symm
theorem rLoad_eq (K:Nat) (hK:4000000000000<K) (root:List UInt8) (rows:List S_api_Row) (hN:rows.length≤3518437208780) (hr:∀ r ∈ rows,RowB K r) :
    hr09_Load K root rows=some (if fine rows=true then (some (rOf root rows),0) else (none,3)):=by
  have h:=rload_l1 K (by omega) rows (by omega) hr rows.length K 0 (0,[],[],0) (by omega) (by omega) (Nat.le_refl _) (Nat.le_refl _) (Int.le_refl _) (Int.le_refl _)
  rw [if_pos rfl,List.drop_zero] at h
  unfold hr09_Load hr09_New fine
  rw [Option.bind_some,show hr09_Load.l1 K K rows 0 [] [] 0 0=_ from h,Option.bind_some]
  by_cases h1:rise none rows=true∧rows.all good=true
  · have hG:∀ r ∈ rows,good r=true:=List.all_eq_true.1 h1.2
    have hnd:=(rise_sd h1.1).2
    have h3:=three rows hG
    rw [if_pos h1,decide_eq_true h1,foldD rows _ hG,Bool.true_and]
    have h2:=l2_eq K ⟨root,0,[],[]⟩ (lastS 0 rows) ((rows.filter isG).map (·.Key)) ((rows.filter isV).map (toV ∘ fV)) (by rw [List.length_map];omega) (by rw [List.length_map];omega) ((rows.filter isV).map (toV ∘ fV)).length K 0 (by omega) (by rw [List.length_map];omega)
    rw [List.drop_zero,gone_same rows hnd] at h2
    show ((hr09_Load.l2 K K ⟨root,0,[],[]⟩ (lastS 0 rows) ([]++(rows.filter isG).map (·.Key)) ([]++(rows.filter isV).map (toV ∘ fV)) 0).bind _)=_
    rw [List.nil_append,List.nil_append,show hr09_Load.l2 K K ⟨root,0,[],[]⟩ (lastS 0 rows) ((rows.filter isG).map (·.Key)) ((rows.filter isV).map (toV ∘ fV)) 0=_ from h2,Option.bind_some]
    cases goneAny ((rows.filter isG).map fG) ((rows.filter isV).map fV) with
    | true=>rfl
    | false =>
      rw [if_neg (by decide),Bool.not_false,Bool.true_and]
      show (if (((!decide ((0:Int)+((rows.filter isS).length:Int)=(1:Int)))||(decide ((16:Int)<(((rows.filter isG).map (·.Key)).length:Int))))||(decide ((16:Int)<(((rows.filter isV).map (toV ∘ fV)).length:Int))))=true then (some (none,(3:Int))) else (some (some (⟨root,lastS 0 rows,(rows.filter isG).map (·.Key),(rows.filter isV).map (toV ∘ fV)⟩:S_hr09_Tree),(0:Int))))=_
      rw [List.length_map,List.length_map]
      by_cases c1:(rows.filter isS).length=1
      · by_cases c2:(rows.filter isG).length≤16
        · by_cases c3:(rows.filter isV).length≤16
          · rw [if_neg (by simp <;> omega),decide_eq_true c1,decide_eq_true c2,decide_eq_true c3];rfl
          · rw [if_pos (by simp <;> omega),decide_eq_true c1,decide_eq_true c2,decide_eq_false c3];rfl
        · rw [if_pos (by simp <;> omega),decide_eq_true c1,decide_eq_false c2];rfl
      · rw [if_pos (by simp <;> omega),decide_eq_false c1];rfl
  · rw [if_neg h1,decide_eq_false h1];rfl
/-! what is loaded is right -/
theorem lastS_one:∀ (rows:List S_api_Row) (z:Int),(rows.filter isS).length≤1→lastS z rows=(((rows.filter isS).head?).map fun r=>(num r).1).getD z
  | [],z,_=>rfl
  | r :: rs,z,h=>by
    unfold lastS
    rw [List.foldl_cons]
    rw [List.filter_cons] at h ⊢
    by_cases hs:isS r=true
    · rw [if_pos hs] at h;rw [if_pos hs,if_pos hs]
      have h0:rs.filter isS=[]:=List.length_eq_zero_iff.1 (by rw [List.length_cons] at h;omega)
      have:=lastS_one rs (num r).1 (by rw [h0];exact Nat.zero_le _)
      unfold lastS at this
      rw [this,h0];rfl
    · rw [if_neg hs] at h;rw [if_neg hs,if_neg hs]
      have:=lastS_one rs z h
      unfold lastS at this;exact this
theorem isS_ok {r:S_api_Row} (h:isS r=true):r=⟨[35],[hexT (num r).1.toNat]⟩∧0≤(num r).1∧(num r).1≤1099511627776:=by
  unfold isS isN at h
  simp only [Bool.and_eq_true,decide_eq_true_eq] at h
  obtain ⟨⟨⟨h1,h2⟩,h3⟩,h4⟩:=h
  obtain ⟨b1,b2,b3⟩:=tn_back h2
  refine ⟨?_,b1,h4⟩
  obtain ⟨k,cs⟩:=r
  match cs,h1 with
  | [c],_=>exact congr (congrArg S_api_Row.mk h3) (congrArg (fun x=>[x]) b3.symm)
theorem rowV_ok {r:S_api_Row} (h:isV r=true):rowV (fV r)=r:=by
  have hk:=keyV_ok h
  unfold isV isN at h
  simp only [Bool.and_eq_true,decide_eq_true_eq] at h
  obtain ⟨b1,b2,b3⟩:=tn_back h.1.1.1.1.1.1.2
  have h1:=h.1.1.1.1.1.1.1
  show (⟨keyV (fV r).1,[hexT (num r).1.toNat]⟩:S_api_Row)=r
  rw [hk]
  obtain ⟨k,cs⟩:=r
  match cs,h1 with
  | [c],_=>exact congrArg (S_api_Row.mk k) (congrArg (fun x=>[x]) b3)
theorem rowG_ok {r:S_api_Row} (h:isG r=true):rowG (fG r)=r:=by
  unfold isG at h
  simp only [Bool.and_eq_true,decide_eq_true_eq] at h
  obtain ⟨k,cs⟩:=r
  match cs,h.1 with
  | [],_=>rfl
theorem three_perm:∀ rows:List S_api_Row,(∀ r ∈ rows,good r=true)→(rows.filter isS ++ (rows.filter isG ++ rows.filter isV)).Perm rows
  | [],_=>List.Perm.refl _
  | r :: rs,h=>by
    have ih:=three_perm rs fun x hx=>h x (List.mem_cons_of_mem _ hx)
    rw [List.filter_cons,List.filter_cons,List.filter_cons]
    rcases kinds (h r List.mem_cons_self) with ⟨k1,_⟩ | ⟨k1,_,_⟩ | ⟨k1,_,_⟩
    · obtain ⟨n1,n2⟩:=not_kinds.1 k1;rw [k1,n1,n2]
      exact (List.perm_middle (a:=r)).trans (ih.cons r)
    · obtain ⟨n1,n2⟩:=not_kinds.2.1 k1;rw [k1,n1,n2]
      exact ih.cons r
    · obtain ⟨n1,n2⟩:=not_kinds.2.2 k1;rw [k1,n1,n2]
      refine List.Perm.trans ?_ (ih.cons r)
      rw [if_neg (by decide),if_neg (by decide),if_pos rfl,← List.append_assoc,← List.append_assoc]
      exact List.perm_middle (a:=r)
theorem fine_ok {rows:List S_api_Row} (h:fine rows=true):rise none rows=true∧(∀ r ∈ rows,good r=true)∧(rows.filter isS).length=1∧(rows.filter isG).length≤16∧(rows.filter isV).length≤16:=by
  unfold fine at h
  simp only [Bool.and_eq_true,decide_eq_true_eq] at h
  exact ⟨h.1.1.1.1.1,List.all_eq_true.1 h.1.1.1.1.2,h.1.1.2,h.1.2,h.2⟩
theorem rel_load {root:List UInt8} (hr:root.length=32) {rows:List S_api_Row} (h:fine rows=true):Rel (tOf root rows) (rOf root rows)∧rowsK (tOf root rows)=rowN (tOf root rows) :: (rows.filter isG ++ rows.filter isV)∧rows.filter isS=[rowN (tOf root rows)]:=by
  obtain ⟨h1,h2,h3,h4,h5⟩:=fine_ok h
  have hnd:=(rise_sd h1).2
  obtain ⟨s,hs⟩:=List.length_eq_one_iff.1 h3
  have hsS:isS s=true:=(List.mem_filter.1 (by rw [hs];exact List.mem_singleton.2 rfl:s ∈ rows.filter isS)).2
  obtain ⟨e1,e2,e3⟩:=isS_ok hsS
  have hl:lastS 0 rows=(num s).1:=by rw [lastS_one rows 0 (by omega),hs];rfl
  have eG:((rows.filter isG).map fG).map rowG=rows.filter isG:=by
    rw [List.map_map];exact (List.map_congr_left fun r hr=>rowG_ok (List.mem_filter.1 hr).2).trans (List.map_id _)
  have eV:((rows.filter isV).map fV).map rowV=rows.filter isV:=by
    rw [List.map_map];exact (List.map_congr_left fun r hr=>rowV_ok (List.mem_filter.1 hr).2).trans (List.map_id _)
  refine ⟨⟨rfl,hr,rfl,?_,?_,?_,fun p hp=>?_,?_,?_,?_,?_,fun p hp=>?_,?_⟩,?_,?_⟩
  · show 0≤lastS 0 rows;rw [hl];exact e2
  · show lastS 0 rows≤_;rw [hl];exact e3
  · show (rows.filter isG).map (·.Key)=((rows.filter isG).map fG).map (·.1);rw [List.map_map];rfl
  · obtain ⟨r,hr,rfl⟩:=List.mem_map.1 hp
    have:=(List.mem_filter.1 hr).2
    unfold isG at this;rw [Bool.and_eq_true] at this
    exact ⟨rfl,this.2⟩
  · show (((rows.filter isG).map fG).map (·.1)).Nodup;rw [List.map_map];exact filt_nd hnd isG
  · show ((rows.filter isG).map fG).length≤16;rw [List.length_map];exact h4
  · show (((rows.filter isV).map fV).map (·.1)).Nodup
    rw [List.map_map]
    have hp:=List.pairwise_map.1 (filt_nd hnd isV)
    refine List.pairwise_map.2 (List.Pairwise.imp_of_mem (fun {a b} ha hb hab e=>hab ?_) hp)
    have:=congrArg keyV e
    simp only [Function.comp] at this
    rw [keyV_ok (List.mem_filter.1 ha).2,keyV_ok (List.mem_filter.1 hb).2] at this;exact this
  · show ((rows.filter isV).map fV).length≤16;rw [List.length_map];exact h5
  · obtain ⟨r,hr,rfl⟩:=List.mem_map.1 hp
    have:=(List.mem_filter.1 hr).2
    unfold isV at this
    simp only [Bool.and_eq_true,decide_eq_true_eq] at this
    exact ⟨this.1.2,this.2,this.1.1.1.2,this.1.1.2⟩
  · show (((rows.filter isV).map fV).map toV).Perm ((rows.filter isV).map (toV ∘ fV));rw [List.map_map]
  · unfold rowsK
    show rowN (tOf root rows) :: (((rows.filter isG).map fG).map rowG++((rows.filter isV).map fV).map rowV)=_
    rw [eG,eV]
  · rw [hs]
    show [s]=[(⟨[35],[hexT (lastS 0 rows).toNat]⟩:S_api_Row)]
    rw [hl,← e1]
theorem loaded_rows {root:List UInt8} (hr:root.length=32) {rows:List S_api_Row} (h:fine rows=true):sortS cfR (rowsK (tOf root rows))=rows:=by
  obtain ⟨h1,h2,_⟩:=fine_ok h
  obtain ⟨_,e1,e2⟩:=rel_load hr h
  obtain ⟨hs,hnd⟩:=rise_sd h1
  have hp:=three_perm rows h2
  rw [e2,List.singleton_append,← e1] at hp
  exact (sd_sortS cfR swoR hs hp.symm (key_injR ((hp.symm.map _).nodup_iff.1 hnd))).symm
/-! the law -/
theorem rowsK_small {t:PT} {r:RT} (h:Rel t r):(rowsK t).length≤40∧∀ x ∈ rowsK t,x.Columns.length≤2:=by
  have hl1:=h.gl;have hl2:=h.al
  refine ⟨by simp only [rowsK,List.length_append,List.length_map,List.length_cons];omega,fun x hx=>?_⟩
  rcases List.mem_cons.1 hx with rfl | hx
  · exact Nat.le_succ _
  · rcases List.mem_append.1 hx with hx | hx
    · obtain ⟨p,_,rfl⟩:=List.mem_map.1 hx;exact Nat.zero_le _
    · obtain ⟨p,_,rfl⟩:=List.mem_map.1 hx;exact Nat.le_succ _
theorem law_loads (root:List UInt8) (rows:List S_api_Row) (l:List S_hl09_Deed) (hr:root.length=32) (k:Nat) (hk:4000000000000≤k) (hR:∀ r ∈ rows,RowB (k+1200) r) (hN:rows.length≤3518437208780) (hB:∀ x,x ∈ l→DB (k+1200) x) (hl:l.length<4611686018427387904) :
    hl09_KeysLoads (k+1200) root rows l=some true:=by
  unfold hl09_KeysLoads
  rw [Load_eq (k+1200) (by omega) root rows hN hR,Option.bind_some,rLoad_eq (k+1200) (by omega) root rows hN hR,Option.bind_some,live_true k]
  cases hf:fine rows with
  | false=>rfl
  | true =>
    rw [if_pos rfl,if_pos rfl]
    obtain ⟨h,_,_⟩:=rel_load hr hf
    have hrow:=loaded_rows hr hf
    obtain ⟨t,r,h',_,hp⟩:=play_eq k (by omega) l hB hl h
    have hA:=rowsA k h.toA h.s1
    rw [hrow] at hA
    have hs1:=rowsK_small h;have hs2:=rowsK_small h'
    have hsm:hr06_SameRows (k+1200) rows rows=some true:=by
      have:=sortS_same (k+1200) 2 (rowsK (tOf root rows)) (by omega) (by omega) (by decide) (by omega) hs1.2
      rwa [hrow] at this
    have hA2:=rowsA k h'.toA h'.s1;have hB2:=rowsB k h' h'.s1
    have hsm2:=sortS_same (k+1200) 2 (rowsK t) (by omega) (by omega) (by decide) (by omega) hs2.2
    show (((some true).bind fun r_6=>(if (((!r_6)||(!decide ((0:Int)=0)))||(!decide (false=false)))=true then (some false) else ((keys_Tree_Rows (k+1200) (tOf root rows)).bind fun r_7=>((hr06_SameRows (k+1200) r_7 rows).bind fun r_8=>((if r_8=true then ((hl09_play (k+1200) (tOf root rows) (rOf root rows) l).bind fun r_9=>(some (r_9.1,r_9.2.1.root,r_9.2.1.sealed,r_9.2.1.gone,r_9.2.1.at_,r_9.2.2.root,r_9.2.2.sealed,r_9.2.2.gone,r_9.2.2.l))) else some _).bind _))))))=_
    rw [Option.bind_some,if_neg (by decide),hA,Option.bind_some,hsm,Option.bind_some,if_pos rfl,hp,Option.bind_some,Option.bind_some,if_pos rfl]
    show (((keys_Tree_Rows (k+1200) t).bind fun r_10=>(hr09_Tree_Rows (k+1200) r).bind fun r_11=>(hr06_SameRows (k+1200) r_10 r_11).bind fun r_12=>some r_12).bind _)=_
    rw [hA2,Option.bind_some,hB2,Option.bind_some,hsm2];rfl
theorem db_some:∀ l:List S_hl09_Deed,(∀ x,x ∈ l→ok27 x)→∃ k,9223372036854775807≤k∧∀ x,x ∈ l→DB (k+1200) x
  | [],_=>⟨9223372036854775807,Nat.le_refl _,fun x h=>by cases h⟩
  | y :: l,h=>by
    obtain ⟨k,hk,hl⟩:=db_some l fun x hx=>h x (List.mem_cons_of_mem _ hx)
    obtain ⟨_,h1,h2,h3,_,_⟩:=h y List.mem_cons_self
    refine ⟨k+y.Tenant.length+y.Purpose.length+y.Bytes.length,by omega,fun x hx=>?_⟩
    rcases List.mem_cons.1 hx with rfl | hx
    · exact ⟨⟨by omega,by omega,by omega,by omega⟩,by omega,by omega⟩
    · have d:=hl x hx
      exact ⟨⟨by have:=d.b.la;omega,by have:=d.b.lb;omega,d.b.ba,d.b.bb⟩,d.b1,by have:=d.b2;omega⟩
theorem rowB_of {k:Nat} (hk:9223372036854775807≤k) {r:S_api_Row} (h:ok78 r):RowB (k+1200) r:=by
  obtain ⟨h1,h2,h3⟩:=h
  exact ⟨⟨by omega,by omega⟩,⟨by omega,by omega⟩,h3⟩
theorem row_loads (root:List UInt8) (rows:List S_api_Row) (l:List S_hl09_Deed) (hr:root.length=32) (h1:∀ a ∈ rows,ok78 a) (h2:rows.length*40≤140737488351232) (h3:∀ a ∈ l,ok27 a) (h4:l.length*80≤140737488351232):∃ K,hl09_KeysLoads K root rows l=some true:=by
  obtain ⟨k,hk,hB⟩:=db_some l h3
  exact ⟨k+1200,law_loads root rows l hr k (by omega) (fun r h=>rowB_of hk (h1 r h)) (by omega) hB (by omega)⟩
end Go.Proofs.YtjgbakieogadfabGreatDoor
