/-
  Joined by strip.py from plain texts of another seat.
-/
import Derived.Test.YtjgbakieogadfabGreatDoorSealK
import Derived.Test.YtjgbakieogadfabGreatDoorMapK
import Derived.Test.YtjgbakieogadfabGreatDoorSrt
import Derived.Test.YtjgbakieogadfabGreatDoorNumG
namespace Go.Proofs.YtjgbakieogadfabGreatDoor
open Go L Go.Sort
theorem count_z {s:List UInt8} (h:∀ x ∈ s,x ≠ 0):Go.Lib.countByte s 0=0:=by
  unfold Go.Lib.countByte
  exact List.count_eq_zero.2 fun hm=>h 0 hm rfl
theorem replaceAll_eq (K:Nat) (s:List UInt8) (h:∀ x ∈ s,x ≠ 0):strings_ReplaceAll K s ([0]:List UInt8) ([0,255]:List UInt8)=some s:=by
  unfold strings_ReplaceAll strings_Replace strings_Count
  simp [count_z h]
theorem key3 (k:Nat) (a b c:List UInt8) (ha:∀ x ∈ a,x ≠ 0) (hb:∀ x ∈ b,x ≠ 0) (hc:∀ x ∈ c,x ≠ 0) (la:a.length≤9) (lb:b.length≤9) (lc:c.length≤17) :
    codec_Key (k+5) [a,b,c]=some (a++[0,1]++(b++[0,1])++(c++[0,1]),0):=by
  unfold codec_Key
  have e0:(decide ((([a,b,c]:List (List UInt8)).length:Int)<(1:Int))||decide ((8:Int)<(([a,b,c]:List (List UInt8)).length:Int)))=false:=by simp
  rw [if_neg (by rw [e0];simp)]
  have g0:gt [a,b,c] (0:Int)=some a:=rfl
  have g1:gt [a,b,c] (1:Int)=some b:=rfl
  have g2:gt [a,b,c] (2:Int)=some c:=rfl
  have w1:W ((0:Int)+1)=1:=rfl
  have w2:W ((1:Int)+1)=2:=rfl
  have w3:W ((2:Int)+1)=3:=rfl
  have step:∀ (K k:Nat) (i:Int) (out p:List UInt8),i<3→gt [a,b,c] i=some p→(∀ x ∈ p,x ≠ 0)→p.length≤17→out.length≤100 →
      codec_Key.l1 K (k+1) [a,b,c] out i=codec_Key.l1 K k [a,b,c] (out++(p++[0,1])) (W (i+1)):=by
    intro K k i out p hi hg hz hl ho
    rw [codec_Key.l1.eq_2]
    rw [if_pos (by simpa using hi),hg,Option.bind_some,if_neg (by simp only [decide_eq_true_eq];omega),replaceAll_eq K p hz,Option.bind_some,app_ok (by omega),Option.bind_some,Option.bind_some,
      app_ok (by simp only [List.length_append,List.length_cons,List.length_nil];omega),Option.bind_some,List.append_assoc]
  rw [step _ (k+4) 0 [] a (by omega) g0 ha (by omega) (by simp),w1,step _ (k+3) 1 _ b (by omega) g1 hb (by omega) (by simp;omega),w2,step _ (k+2) 2 _ c (by omega) g2 hc (by omega) (by simp;omega),w3]
  rw [codec_Key.l1.eq_2,if_neg (by simp)]
  simp only [Option.bind_some,lrc,List.nil_append]
  rw [if_neg (by simp only [decide_eq_true_eq,List.length_append,List.length_cons,List.length_nil];omega)]
theorem name_nz {s:List UInt8} (h:nameS s=true):(∀ x ∈ s,x ≠ 0)∧s.length≤9∧(∀ x ∈ s,x ≠ 47)∧(∀ x ∈ s,x ≠ 35)∧s ≠ []:=by
  unfold nameS at h
  simp only [Bool.and_eq_true,Bool.not_eq_true',decide_eq_false_iff_not,decide_eq_true_eq,List.all_eq_true] at h
  obtain ⟨⟨h1,h2⟩,h3⟩:=h
  refine ⟨fun x hx e=>?_,h2,fun x hx e=>?_,fun x hx e=>?_,h1⟩
  · have:=h3 x hx;rw [e] at this;revert this;decide
  · have:=h3 x hx;rw [e] at this;revert this;decide
  · have:=h3 x hx;rw [e] at this;revert this;decide
/-! versions as texts -/
def numV (n:Nat):List UInt8:=((codec_Number 20 (n:Int)).getD ([],0)).1
theorem num_v (k:Nat):∀ n:Nat,1≤n→n≤16→codec_Number (k+20) (n:Int)=some (numV n,0)∧(∀ x ∈ numV n,x ≠ 0)∧(numV n).length≤17
  | 0,h,_=>by omega
  | 1,_,_=>⟨by kernel_rfl,by decide +kernel,by decide +kernel⟩
  | 2,_,_=>⟨by kernel_rfl,by decide +kernel,by decide +kernel⟩
  | 3,_,_=>⟨by kernel_rfl,by decide +kernel,by decide +kernel⟩
  | 4,_,_=>⟨by kernel_rfl,by decide +kernel,by decide +kernel⟩
  | 5,_,_=>⟨by kernel_rfl,by decide +kernel,by decide +kernel⟩
  | 6,_,_=>⟨by kernel_rfl,by decide +kernel,by decide +kernel⟩
  | 7,_,_=>⟨by kernel_rfl,by decide +kernel,by decide +kernel⟩
  | 8,_,_=>⟨by kernel_rfl,by decide +kernel,by decide +kernel⟩
  | 9,_,_=>⟨by kernel_rfl,by decide +kernel,by decide +kernel⟩
  | 10,_,_=>⟨by kernel_rfl,by decide +kernel,by decide +kernel⟩
  | 11,_,_=>⟨by kernel_rfl,by decide +kernel,by decide +kernel⟩
  | 12,_,_=>⟨by kernel_rfl,by decide +kernel,by decide +kernel⟩
  | 13,_,_=>⟨by kernel_rfl,by decide +kernel,by decide +kernel⟩
  | 14,_,_=>⟨by kernel_rfl,by decide +kernel,by decide +kernel⟩
  | 15,_,_=>⟨by kernel_rfl,by decide +kernel,by decide +kernel⟩
  | 16,_,_=>⟨by kernel_rfl,by decide +kernel,by decide +kernel⟩
  | n+17,_,h=>by omega
/-! the tree -/
def kbS (a b:List UInt8) (n:Nat):List UInt8:=a ++ [0,1] ++ (b ++ [0,1]) ++ (numV n ++ [0,1])
def keyS (root a b:List UInt8) (n:Nat):List UInt8:=tagS root (kbS a b n)
theorem keyS_len (root a b:List UInt8) (n:Nat):(keyS root a b n).length=32:=tagS_len _ _
def curS (t:S_keys_Tree) (a b:List UInt8):Int×Int :=
  if (!nameS a||!nameS b)=true then (0,8) else if (mget t.gone a).getD false=true then (0,12) else (maxI ((mget t.at_ ⟨a,b⟩).getD 0) 1,0)
theorem cur_eq (K:Nat) (t:S_keys_Tree) (a b:List UInt8):keys_Tree_Current K t a b=some (curS t a b):=by
  unfold keys_Tree_Current curS
  simp only [IsName_eq,Option.bind_some]
  cases nameS a <;> cases nameS b <;> simp
  split <;> rfl
def WF (t:S_keys_Tree):Prop:=∀ p,p ∈ t.at_→1≤p.2∧p.2≤16
theorem cur_ok {t:S_keys_Tree} (hw:WF t) {a b:List UInt8} (h:(curS t a b).2=0):nameS a=true∧nameS b=true∧(mget t.gone a).getD false=false∧1≤(curS t a b).1∧(curS t a b).1≤16:=by
  unfold curS at *
  split at h
  · cases h
  · rename_i h1
    split at h
    · cases h
    · rename_i h2
      rw [if_neg h1,if_neg h2]
      simp only [Bool.or_eq_true,Bool.not_eq_true',not_or,Bool.not_eq_false] at h1
      refine ⟨h1.1,h1.2,by simpa using h2,?_⟩
      unfold maxI
      cases hm:mget t.at_ ⟨a,b⟩ with
      | none=>simp
      | some v =>
        have:=hw _ (mget_mem hm)
        simp only [Option.getD_some] at this ⊢
        split <;> omega
def z32:List UInt8:=[(0:UInt8),(0:UInt8),(0:UInt8),(0:UInt8),(0:UInt8),(0:UInt8),(0:UInt8),(0:UInt8),(0:UInt8),(0:UInt8),(0:UInt8),(0:UInt8),(0:UInt8),(0:UInt8),(0:UInt8),(0:UInt8),(0:UInt8),(0:UInt8),(0:UInt8),(0:UInt8),(0:UInt8),(0:UInt8),(0:UInt8),(0:UInt8),(0:UInt8),(0:UInt8),(0:UInt8),(0:UInt8),(0:UInt8),(0:UInt8),(0:UInt8),(0:UInt8)]
theorem derive_eq (k:Nat) (root a b:List UInt8) (n:Nat) (hr:root.length=32) (ha:nameS a=true) (hb:nameS b=true) (h1:1≤n) (h16:n≤16) :
    hash_Derive (k+1200) root [a,b,numV n]=some (keyS root a b n,0):=by
  obtain ⟨a1,a2,_⟩:=name_nz ha
  obtain ⟨b1,b2,_⟩:=name_nz hb
  obtain ⟨_,n1,n2⟩:=num_v 0 n h1 h16
  unfold hash_Derive
  rw [show k+1200=(k+1195)+5 from rfl,key3 (k+1195) a b (numV n) a1 b1 n1 a2 b2 n2,Option.bind_some,if_neg (by simp)]
  rw [tag_eq _ root _ (by omega) (by simp;omega) (by omega) (by simp;omega)]
  rfl
def keyAS (t:S_keys_Tree) (a b:List UInt8) (n:Int):List UInt8×Int :=
  if (curS t a b).2 ≠ 0 then (z32,(curS t a b).2) else if n<1 ∨ (curS t a b).1<n then (z32,2) else (keyS t.root a b n.toNat,0)
theorem keyAS_len (t:S_keys_Tree) (a b:List UInt8) (n:Int):(keyAS t a b n).1.length=32:=by
  unfold keyAS;split
  · rfl
  · split
    · rfl
    · exact keyS_len _ _ _ _
theorem keyA_eq (k:Nat) (t:S_keys_Tree) (hr:t.root.length=32) (hw:WF t) (a b:List UInt8) (n:Int):keys_Tree_Key (k+1200) t a b n=some (keyAS t a b n):=by
  unfold keys_Tree_Key keyAS
  rw [show (⟨t.root,t.sealed,t.gone,t.at_⟩:S_keys_Tree)=t from rfl,cur_eq,Option.bind_some]
  by_cases h:(curS t a b).2=0
  · rw [if_neg (show ¬ (curS t a b).2 ≠ 0 by simp [h]),if_neg (show ¬ (!decide ((curS t a b).2=0))=true by simp [h])]
    obtain ⟨ha,hb,_,h1,h16⟩:=cur_ok hw h
    by_cases hn:n<1 ∨ (curS t a b).1<n
    · rw [if_pos hn,if_pos (by simpa using hn)];rfl
    · rw [if_neg hn,if_neg (by simpa using hn)]
      have e:n=(n.toNat:Int):=by omega
      have:=num_v (k+1180) n.toNat (by omega) (by omega)
      rw [show k+1180+20=k+1200 from rfl] at this
      rw [e,this.1,Option.bind_some,Option.bind_some]
      simp only [Int.toNat_natCast]
      rw [derive_eq k t.root a b n.toNat hr ha hb (by omega) (by omega)];rfl
  · rw [if_pos (show (curS t a b).2 ≠ 0 from h),if_pos (by simpa using h)];rfl
def sealTS (t:S_keys_Tree) (a b p:List UInt8):List UInt8×Int×S_keys_Tree :=
  if (curS t a b).2 ≠ 0 then ([],(curS t a b).2,t)
  else if (sealA (keyS t.root a b (curS t a b).1.toNat) (iU64 t.sealed) p).2 ≠ 0 then ([],(sealA (keyS t.root a b (curS t a b).1.toNat) (iU64 t.sealed) p).2,t)
  else if 1099511627776≤t.sealed then ([],7,t)
  else (iU8 (curS t a b).1 :: (sealA (keyS t.root a b (curS t a b).1.toNat) (iU64 t.sealed) p).1,0,⟨t.root,W (t.sealed+1),t.gone,t.at_⟩)
theorem sealT_eq (k:Nat) (t:S_keys_Tree) (hr:t.root.length=32) (hw:WF t) (a b p:List UInt8):keys_Tree_Seal (k+1200) t a b p=some (sealTS t a b p):=by
  unfold keys_Tree_Seal sealTS
  rw [show (⟨t.root,t.sealed,t.gone,t.at_⟩:S_keys_Tree)=t from rfl,cur_eq,Option.bind_some]
  by_cases h:(curS t a b).2=0
  · obtain ⟨ha,hb,_,h1,h16⟩:=cur_ok hw h
    rw [if_neg (show ¬ (curS t a b).2 ≠ 0 by simp [h]),if_neg (show ¬ (!decide ((curS t a b).2=0))=true by simp [h]),keyA_eq k t hr hw]
    have hk:keyAS t a b (curS t a b).1=(keyS t.root a b (curS t a b).1.toNat,0):=by
      unfold keyAS;rw [if_neg (by simp [h]),if_neg (by omega)]
    rw [hk,Option.bind_some,seal_any (k+1200) (by omega) _ (keyS_len _ _ _ _),Option.bind_some]
    generalize hs:sealA (keyS t.root a b (curS t a b).1.toNat) (iU64 t.sealed) p=s
    have hl:s.1.length≤1048:=by rw [← hs];exact sealA_len _ _ _
    by_cases h2:s.2=0
    · rw [if_neg (show ¬ s.2 ≠ 0 by simp [h2]),if_neg (show ¬ (!decide (s.2=0))=true by simp [h2])]
      by_cases h3:1099511627776≤t.sealed
      · rw [if_pos h3,if_pos (by simpa using h3)]
      · rw [if_neg h3,if_neg (by simpa using h3),Option.bind_some,app_ok (by simp;omega),Option.bind_some];rfl
    · rw [if_pos (show s.2 ≠ 0 from h2),if_pos (by simpa using h2)]
  · rw [if_pos (show (curS t a b).2 ≠ 0 from h),if_pos (by simpa using h)]
def openTS (t:S_keys_Tree) (a b s:List UInt8):List UInt8×Int×Int :=
  if (curS t a b).2 ≠ 0 then ([],0,(curS t a b).2)
  else match s with
    | []=>([],0,3)
    | v :: s =>
      if (keyAS t a b (v.toNat:Int)).2 ≠ 0 then ([],0,(keyAS t a b (v.toNat:Int)).2)
      else if (openS (keyAS t a b (v.toNat:Int)).1 s).2.2 ≠ 0 then ([],0,(openS (keyAS t a b (v.toNat:Int)).1 s).2.2)
      else ((openS (keyAS t a b (v.toNat:Int)).1 s).1,(v.toNat:Int),0)
theorem openT_eq (k:Nat) (t:S_keys_Tree) (hr:t.root.length=32) (hw:WF t) (a b s:List UInt8) (hs:s.length<1000000000000000):keys_Tree_Open (k+1200) t a b s=some (openTS t a b s):=by
  unfold keys_Tree_Open openTS
  rw [show (⟨t.root,t.sealed,t.gone,t.at_⟩:S_keys_Tree)=t from rfl,cur_eq,Option.bind_some]
  by_cases h:(curS t a b).2=0
  · rw [if_neg (show ¬ (curS t a b).2 ≠ 0 by simp [h])]
    cases s with
    | nil =>
      rw [if_pos (by simp [h])]
      unfold keys_Tree_Open.j1
      rw [if_pos (by simp)]
    | cons v s =>
      rw [if_neg (by simp [h];omega)]
      unfold keys_Tree_Open.j1
      rw [if_neg (by simp [h])]
      rw [show gt (v :: s) (0:Int)=some v from rfl,Option.bind_some]
      rw [show (⟨t.root,t.sealed,t.gone,t.at_⟩:S_keys_Tree)=t from rfl,keyA_eq k t hr hw,Option.bind_some]
      dsimp only
      by_cases h2:(keyAS t a b (v.toNat:Int)).2=0
      · rw [if_neg (show ¬ (keyAS t a b (v.toNat:Int)).2 ≠ 0 by simp [h2]),if_neg (show ¬ (!decide ((keyAS t a b (v.toNat:Int)).2=0))=true by simp [h2])]
        rw [sub_ok (by omega) (by simp;omega) (by omega),Option.bind_some]
        have e:((v :: s).take ((v :: s).length:Int).toNat).drop (1:Int).toNat=s:=by simp
        rw [e,open_eq (k+1200) (by omega) _ (keyAS_len _ _ _ _) s (by simp at hs;omega),Option.bind_some]
        by_cases h3:(openS (keyAS t a b (v.toNat:Int)).1 s).2.2=0
        · rw [if_neg (show ¬ (openS (keyAS t a b (v.toNat:Int)).1 s).2.2 ≠ 0 by simp [h3]),if_neg (by simp [h3])]
        · rw [if_pos (show (openS (keyAS t a b (v.toNat:Int)).1 s).2.2 ≠ 0 from h3),if_pos (by simpa using h3)]
      · rw [if_pos (show (keyAS t a b (v.toNat:Int)).2 ≠ 0 from h2),if_pos (by simpa using h2)]
  · rw [if_pos (show (curS t a b).2 ≠ 0 from h),if_neg (by simp [h])]
    unfold keys_Tree_Open.j1
    rw [if_pos (by simpa using h)]
theorem open_seal {t t':S_keys_Tree} (hw:WF t) {a b p:List UInt8} (h:(sealTS t a b p).2.1=0) (hr:t'.root=t.root) (hc:(curS t' a b).2=0) (hle:(curS t a b).1≤(curS t' a b).1) :
    openTS t' a b (sealTS t a b p).1=(p,(curS t a b).1,0):=by
  unfold sealTS at *
  split at h
  · exact absurd h ‹_›
  · rename_i h0
    have h0':(curS t a b).2=0:=by simpa using h0
    obtain ⟨ha,hb,_,h1,h16⟩:=cur_ok hw h0'
    rw [if_neg h0]
    split at h
    · exact absurd h ‹_›
    · rename_i h2
      rw [if_neg h2]
      split at h
      · cases h
      · rename_i h3
        rw [if_neg h3]
        unfold openTS
        rw [if_neg (by simp [hc])]
        dsimp only
        have hv:((iU8 (curS t a b).1).toNat:Int)=(curS t a b).1:=by
          unfold iU8;rw [UInt8.toNat_ofNat'];omega
        have hk:keyAS t' a b (((iU8 (curS t a b).1).toNat:Nat):Int)=(keyS t.root a b (curS t a b).1.toNat,0):=by
          rw [hv];unfold keyAS;rw [if_neg (by simp [hc]),if_neg (by omega),hr]
        rw [hk]
        have hp:p.length≤1024:=by
          unfold sealA at h2
          by_cases hp:p.length≤1024
          · exact hp
          · rw [if_neg hp] at h2;exact absurd (by decide) h2
        have ho:openS (keyS t.root a b (curS t a b).1.toNat) (sealA (keyS t.root a b (curS t a b).1.toNat) (iU64 t.sealed) p).1=(p,iU64 t.sealed,0):=by
          unfold sealA;rw [if_pos hp];exact openS_seal _ _ _ hp
        simp only [ho,hv,ne_eq,not_true_eq_false,if_false]
open Go L Go.Sort
def nA:List UInt8:=[97]
def nM:List UInt8:=[109,97,105,108]
def rL:List UInt8:=[(1:UInt8),(0:UInt8),(0:UInt8),(0:UInt8),(0:UInt8),(0:UInt8),(0:UInt8),(0:UInt8),(0:UInt8),(0:UInt8),(0:UInt8),(0:UInt8),(0:UInt8),(0:UInt8),(0:UInt8),(0:UInt8),(0:UInt8),(0:UInt8),(0:UInt8),(0:UInt8),(0:UInt8),(0:UInt8),(0:UInt8),(0:UInt8),(0:UInt8),(0:UInt8),(0:UInt8),(0:UInt8),(0:UInt8),(0:UInt8),(0:UInt8),(0:UInt8)]
theorem seal_ok {t:S_keys_Tree} {a b p:List UInt8} (hc:(curS t a b).2=0) (hp:p.length≤1024) (hs:t.sealed<1099511627776) :
    sealTS t a b p=(iU8 (curS t a b).1 :: sealS (keyS t.root a b (curS t a b).1.toNat) (iU64 t.sealed) p,0,⟨t.root,W (t.sealed+1),t.gone,t.at_⟩):=by
  have e:sealA (keyS t.root a b (curS t a b).1.toNat) (iU64 t.sealed) p=(sealS (keyS t.root a b (curS t a b).1.toNat) (iU64 t.sealed) p,0):=by unfold sealA;rw [if_pos hp]
  unfold sealTS
  rw [if_neg (show ¬ (curS t a b).2 ≠ 0 by simp [hc]),e,if_neg (show ¬ (0:Int) ≠ 0 by simp),if_neg (show ¬ 1099511627776≤t.sealed by omega)]
theorem live_true (k:Nat):hl09_live (k+1200)=some true:=by
  unfold hl09_live
  rw [Option.bind_some]
  unfold keys_New
  have w0:WF (⟨rL,0,[],[]⟩:S_keys_Tree):=fun p hp=>by cases hp
  have c0:curS ⟨rL,0,[],[]⟩ nA nM=(1,0):=by decide
  have s0:=seal_ok (t:=⟨rL,0,[],[]⟩) (a:=nA) (b:=nM) (p:=[120]) (by rw [c0]) (by decide) (by decide)
  rw [Option.bind_some,Option.bind_some]
  have h1:=sealT_eq k (⟨rL,0,[],[]⟩:S_keys_Tree) rfl w0 nA nM [120]
  rw [s0] at h1
  have h2:keys_Tree_Rotate (k+1200) (⟨rL,W ((0:Int)+1),[],[]⟩:S_keys_Tree) nA nM=some (2,0,⟨rL,W ((0:Int)+1),[],[(⟨nA,nM⟩,2)]⟩):=by
    unfold keys_Tree_Rotate
    rw [show (⟨(⟨rL,W ((0:Int)+1),[],[]⟩:S_keys_Tree).root,(⟨rL,W ((0:Int)+1),[],[]⟩:S_keys_Tree).sealed,(⟨rL,W ((0:Int)+1),[],[]⟩:S_keys_Tree).gone,(⟨rL,W ((0:Int)+1),[],[]⟩:S_keys_Tree).at_⟩:S_keys_Tree)=⟨rL,W ((0:Int)+1),[],[]⟩ from rfl,cur_eq]
    have c1:curS (⟨rL,W ((0:Int)+1),[],[]⟩:S_keys_Tree) nA nM=(1,0):=by decide
    rw [c1];rfl
  have w2:WF (⟨rL,W ((0:Int)+1),[],[(⟨nA,nM⟩,2)]⟩:S_keys_Tree):=fun p hp=>by
    simp only [List.mem_singleton] at hp;subst hp;exact ⟨by decide,by decide⟩
  have c2:curS (⟨rL,W ((0:Int)+1),[],[(⟨nA,nM⟩,2)]⟩:S_keys_Tree) nA nM=(2,0):=by decide
  have o:=open_seal (t:=⟨rL,0,[],[]⟩) (t':=⟨rL,W ((0:Int)+1),[],[(⟨nA,nM⟩,2)]⟩) w0 (a:=nA) (b:=nM) (p:=[120]) (by rw [s0]) rfl (by rw [c2]) (by rw [c0,c2];decide)
  rw [s0,c0] at o
  have h3:=openT_eq k (⟨rL,W ((0:Int)+1),[],[(⟨nA,nM⟩,2)]⟩:S_keys_Tree) rfl w2 nA nM _ (show (iU8 (curS (⟨rL,0,[],[]⟩:S_keys_Tree) nA nM).1 :: sealS (keyS rL nA nM (curS (⟨rL,0,[],[]⟩:S_keys_Tree) nA nM).1.toNat) (iU64 0) [120]).length<1000000000000000 by
    rw [List.length_cons,sealS_len];decide)
  rw [show (iU8 (curS (⟨rL,0,[],[]⟩:S_keys_Tree) nA nM).1 :: sealS (keyS rL nA nM (curS (⟨rL,0,[],[]⟩:S_keys_Tree) nA nM).1.toNat) (iU64 0) [120])=(iU8 ((1,0):Int×Int).1 :: sealS (keyS rL nA nM ((1,0):Int×Int).1.toNat) (iU64 0) [120]) by rw [c0],o] at h3
  rw [c0] at h1
  show ((keys_Tree_Seal (k+1200) (⟨rL,0,[],[]⟩:S_keys_Tree) nA nM [120]).bind _)=_
  rw [h1,Option.bind_some]
  show ((keys_Tree_Rotate (k+1200) (⟨rL,W ((0:Int)+1),[],[]⟩:S_keys_Tree) nA nM).bind _)=_
  rw [h2,Option.bind_some]
  show ((keys_Tree_Open (k+1200) (⟨rL,W ((0:Int)+1),[],[(⟨nA,nM⟩,2)]⟩:S_keys_Tree) nA nM (iU8 ((1,0):Int×Int).1 :: sealS (keyS rL nA nM ((1,0):Int×Int).1.toNat) (iU64 0) [120])).bind _)=_
  rw [h3];rfl
open Go L Go.Sort
/-! names -/
def chS (c:UInt8):Bool:=((decide ((97:UInt8)≤c)&&decide (c≤(122:UInt8)))||(decide ((48:UInt8)≤c)&&decide (c≤(57:UInt8))))||decide (c=(45:UInt8))
theorem chS_eq:∀ c:UInt8,chS c=(([97,98,99,100,101,102,103,104,105,106,107,108,109,110,111,112,113,114,115,116,117,118,119,120,121,122,48,49,50,51,52,53,54,55,56,57,45]:List UInt8)).contains c:=by
  have h:∀ n:Fin 256,chS (UInt8.ofNat n.val)=(([97,98,99,100,101,102,103,104,105,106,107,108,109,110,111,112,113,114,115,116,117,118,119,120,121,122,48,49,50,51,52,53,54,55,56,57,45]:List UInt8)).contains (UInt8.ofNat n.val):=by decide +kernel
  intro c
  have:=h ⟨c.toNat,c.toNat_lt⟩
  simpa using this
theorem refIsName_l1 (s:List UInt8):∀ (n i k:Nat),i+n=s.length→n<k→s.length<4611686018427387904 →
    hr02_IsName.l1 k s (i:Int)=some (if (s.drop i).all chS=true then .go () else .ret false)
  | 0,i,k+1,h,_,_=>by
    rw [hr02_IsName.l1,if_neg (by simp;omega),List.drop_of_length_le (by omega)];rfl
  | n+1,i,k+1,h,hk,hb=>by
    rw [hr02_IsName.l1,if_pos (by simp;omega),gt_nat 0 (by omega),Option.bind_some]
    have hd:s.drop i=s.getD i 0 :: s.drop (i+1):=drop_succ' 0 (by omega)
    rw [hd,List.all_cons]
    show (if (!chS (s.getD i 0))=true then _ else _)=_
    cases hc:chS (s.getD i 0) with
    | false=>simp
    | true =>
      rw [W_succ (by omega),refIsName_l1 s n (i+1) k (by omega) (by omega) hb]
      simp
theorem refIsName_eq (K:Nat) (s:List UInt8) (hK:s.length<K) (hb:s.length<4611686018427387904):hr02_IsName K s=some (nameS s):=by
  unfold hr02_IsName
  rw [show (0:Int)=((0:Nat):Int) from rfl,refIsName_l1 s s.length 0 K (by omega) hK hb,Option.bind_some,List.drop_zero]
  unfold nameS
  have e:(s.all fun c=>(([97,98,99,100,101,102,103,104,105,106,107,108,109,110,111,112,113,114,115,116,117,118,119,120,121,122,48,49,50,51,52,53,54,55,56,57,45]:List UInt8)).contains c)=s.all chS:=by
    congr 1;funext c;exact (chS_eq c).symm
  rw [e]
  cases h:s.all chS with
  | false=>simp [lrc]
  | true =>
    simp only [if_true,lrc,Option.some.injEq,Bool.and_true]
    rw [Bool.eq_iff_iff]
    simp only [Bool.and_eq_true,decide_eq_true_eq,Bool.not_eq_true',decide_eq_false_iff_not]
    constructor
    · rintro ⟨h1,h2⟩;exact ⟨fun e=>by subst e;simp at h1,by omega⟩
    · rintro ⟨h1,h2⟩;exact ⟨by have:=List.length_pos_iff.2 h1;omega,by omega⟩
/-! what is gone -/
theorem isGone_l1 (r:S_hr09_Tree) (a:List UInt8) (hb:r.gone.length<4611686018427387904):∀ (n i k:Nat),i+n=r.gone.length→n<k →
    hr09_Tree_isGone.l1 k r a (i:Int)=some (if a ∈ r.gone.drop i then .ret true else .go ())
  | 0,i,k+1,h,_=>by
    rw [hr09_Tree_isGone.l1,if_neg (by simp;omega),List.drop_of_length_le (by omega)];simp
  | n+1,i,k+1,h,hk=>by
    rw [hr09_Tree_isGone.l1,if_pos (by simp;omega),gt_nat [] (by omega),Option.bind_some]
    have hd:r.gone.drop i=r.gone.getD i [] :: r.gone.drop (i+1):=drop_succ' [] (by omega)
    rw [hd]
    by_cases he:r.gone.getD i []=a
    · rw [if_pos (by simp only [decide_eq_true_eq];exact he),if_pos (by rw [he];exact List.mem_cons_self)]
    · rw [if_neg (by simp only [decide_eq_true_eq];exact he),W_succ (by omega),isGone_l1 r a hb n (i+1) k (by omega) (by omega)]
      congr 1
      by_cases hm:a ∈ r.gone.drop (i+1)
      · rw [if_pos hm,if_pos (List.mem_cons_of_mem _ hm)]
      · rw [if_neg hm,if_neg (by rw [List.mem_cons];rintro (e | e);exact he e.symm;exact hm e)]
theorem isGone_eq (K:Nat) (r:S_hr09_Tree) (a:List UInt8) (hK:r.gone.length<K) (hb:r.gone.length<4611686018427387904):hr09_Tree_isGone K r a=some (decide (a ∈ r.gone)):=by
  unfold hr09_Tree_isGone
  rw [show (0:Int)=((0:Nat):Int) from rfl,isGone_l1 r a hb r.gone.length 0 K (by omega) hK,Option.bind_some,List.drop_zero]
  by_cases h:a ∈ r.gone
  · rw [if_pos h];simp [lrc,h]
  · rw [if_neg h];simp [lrc,h]
/-! versions -/
def rgetS (l:List S_hr09_version) (a b:List UInt8):Option Int:=(l.find? fun v=>decide (v.tenant=a)&&decide (v.purpose=b)).map (·.n)
theorem cur_l1 (r:S_hr09_Tree) (a b:List UInt8) (hb:r.l.length<4611686018427387904):∀ (n i k:Nat),i+n=r.l.length→n<k →
    hr09_Tree_Current.l1 k r a b (i:Int)=some (match rgetS (r.l.drop i) a b with | some v => .ret (v,0) | none => .go ())
  | 0,i,k+1,h,_=>by
    rw [hr09_Tree_Current.l1,if_neg (by simp;omega),List.drop_of_length_le (by omega)];rfl
  | n+1,i,k+1,h,hk=>by
    have hd:r.l.drop i=r.l.getD i default :: r.l.drop (i+1):=drop_succ' default (by omega)
    rw [hr09_Tree_Current.l1,if_pos (by simp;omega)]
    simp only [gt_nat (xs:=r.l) (i:=i) default (by omega),Option.bind_some]
    rw [hd]
    unfold rgetS
    by_cases h1:(r.l.getD i default).tenant=a
    · rw [if_pos (by simp only [decide_eq_true_eq];exact h1),Option.bind_some]
      by_cases h2:(r.l.getD i default).purpose=b
      · rw [if_pos (by simp only [decide_eq_true_eq];exact h2),List.find?_cons_of_pos (by simp only [h1,h2,decide_true,Bool.and_self])];rfl
      · rw [if_neg (by simp only [decide_eq_true_eq];exact h2),List.find?_cons_of_neg (by simp only [h1,h2,decide_true,decide_false,Bool.and_false];simp),W_succ (by omega),cur_l1 r a b hb n (i+1) k (by omega) (by omega)];rfl
    · rw [if_neg (by simp only [decide_eq_true_eq];exact h1),Option.bind_some,if_neg (by simp),List.find?_cons_of_neg (by simp only [h1,decide_false,Bool.false_and];simp),W_succ (by omega),cur_l1 r a b hb n (i+1) k (by omega) (by omega)];rfl
def rcurS (r:S_hr09_Tree) (a b:List UInt8):Int×Int :=
  if (!nameS a||!nameS b)=true then (0,8) else if a ∈ r.gone then (0,12) else ((rgetS r.l a b).getD 1,0)
theorem rcur_eq (K:Nat) (r:S_hr09_Tree) (a b:List UInt8) (ha:a.length<K) (hb:b.length<K) (hg:r.gone.length<K) (hl:r.l.length<K) (ba:a.length<4611686018427387904) (bb:b.length<4611686018427387904)
    (bg:r.gone.length<4611686018427387904) (bl:r.l.length<4611686018427387904):hr09_Tree_Current K r a b=some (rcurS r a b):=by
  unfold hr09_Tree_Current rcurS
  rw [refIsName_eq K a ha ba,refIsName_eq K b hb bb,Option.bind_some]
  simp only [Option.bind_some]
  have key:((hr09_Tree_isGone K (⟨r.root,r.sealed,r.gone,r.l⟩:S_hr09_Tree) a).bind fun r_2=>if r_2=true then some ((0:Int),(12:Int)) else (hr09_Tree_Current.l1 K r a b (0:Int)).bind fun q=>lrc q (fun a=>some a) fun _=>some ((1:Int),(0:Int))) =
      some (if a ∈ r.gone then (0,12) else ((rgetS r.l a b).getD 1,0)):=by
    rw [show (⟨r.root,r.sealed,r.gone,r.l⟩:S_hr09_Tree)=r from rfl,isGone_eq K r a hg bg,Option.bind_some]
    by_cases h:a ∈ r.gone
    · rw [if_pos (by simpa using h),if_pos h]
    · rw [if_neg (by simpa using h),if_neg h,show (0:Int)=((0:Nat):Int) from rfl,cur_l1 r a b bl r.l.length 0 K (by omega) hl,Option.bind_some,List.drop_zero]
      cases rgetS r.l a b <;> rfl
  cases nameS a <;> cases nameS b <;> first | rfl | exact key
/-! keys -/
theorem refkey_l2 (parts:List (List UInt8)) (j:Int) (p:List UInt8) (hg:gt parts j=some p) (hz:∀ x ∈ p,x ≠ 0) (hp:p.length≤20):∀ (n i k:Nat) (out:List UInt8),i+n=p.length→n<k→out.length+n≤200 →
    hr02_Key.l2 k parts j out (i:Int)=some (out++p.drop i)
  | 0,i,k+1,out,h,_,_=>by
    rw [hr02_Key.l2,hg,Option.bind_some,if_neg (by simp;omega),List.drop_of_length_le (by omega),List.append_nil]
  | n+1,i,k+1,out,h,hk,ho=>by
    have hd:p.drop i=p.getD i 0 :: p.drop (i+1):=drop_succ' 0 (by omega)
    have hm:p.getD i 0 ∈ p:=List.mem_of_mem_drop (i:=i) (by rw [hd];exact List.mem_cons_self)
    rw [hr02_Key.l2,hg,Option.bind_some,if_pos (by simp;omega)]
    simp only [Option.bind_some,gt_nat (xs:=p) (i:=i) 0 (by omega)]
    rw [app_ok (by simp;omega),Option.bind_some,if_neg (by simp only [decide_eq_true_eq];exact hz _ hm),W_succ (by omega),
      refkey_l2 parts j p hg hz hp n (i+1) k (out++[p.getD i 0]) (by omega) (by omega) (by simp;omega),hd,List.append_assoc];rfl
theorem refkey3 (k:Nat) (a b c:List UInt8) (ha:∀ x ∈ a,x ≠ 0) (hb:∀ x ∈ b,x ≠ 0) (hc:∀ x ∈ c,x ≠ 0) (la:a.length≤9) (lb:b.length≤9) (lc:c.length≤17) :
    hr02_Key (k+30) [a,b,c]=some (a++[0,1]++(b++[0,1])++(c++[0,1]),0):=by
  unfold hr02_Key
  have e0:(decide ((([a,b,c]:List (List UInt8)).length:Int)<(1:Int))||decide ((8:Int)<(([a,b,c]:List (List UInt8)).length:Int)))=false:=by simp
  rw [if_neg (by rw [e0];simp)]
  have g0:gt [a,b,c] (0:Int)=some a:=rfl
  have g1:gt [a,b,c] (1:Int)=some b:=rfl
  have g2:gt [a,b,c] (2:Int)=some c:=rfl
  have w1:W ((0:Int)+1)=1:=rfl
  have w2:W ((1:Int)+1)=2:=rfl
  have w3:W ((2:Int)+1)=3:=rfl
  have step:∀ (m:Nat) (i:Int) (out p:List UInt8),i<3→gt [a,b,c] i=some p→(∀ x ∈ p,x ≠ 0)→p.length≤17→out.length≤100 →
      hr02_Key.l1 (k+30) (m+1) [a,b,c] out i=hr02_Key.l1 (k+30) m [a,b,c] (out++(p++[0,1])) (W (i+1)):=by
    intro m i out p hi hg hz hl ho
    rw [hr02_Key.l1.eq_2]
    rw [if_pos (by simpa using hi),hg,Option.bind_some,if_neg (by simp only [decide_eq_true_eq];omega),show (0:Int)=((0:Nat):Int) from rfl,
      refkey_l2 [a,b,c] i p hg hz (by omega) p.length 0 (k+30) out (by omega) (by omega) (by omega),Option.bind_some,List.drop_zero,Option.bind_some,
      app_ok (by simp only [List.length_append,List.length_cons,List.length_nil];omega),Option.bind_some,List.append_assoc]
  rw [show k+30=(k+29)+1 from rfl] at *
  rw [step (k+29) 0 [] a (by omega) g0 ha (by omega) (by simp),w1,show k+29=(k+28)+1 from rfl,step (k+28) 1 _ b (by omega) g1 hb (by omega) (by simp;omega),w2,
    show k+28=(k+27)+1 from rfl,step (k+27) 2 _ c (by omega) g2 hc (by omega) (by simp;omega),w3]
  rw [show k+27=(k+26)+1 from rfl,hr02_Key.l1.eq_2,if_neg (by simp)]
  simp only [Option.bind_some,lrc,List.nil_append]
  rw [if_neg (by simp only [decide_eq_true_eq,List.length_append,List.length_cons,List.length_nil];omega)]
theorem refnum_v (k:Nat):∀ n:Nat,1≤n→n≤16→hr02_Number (k+20) (n:Int)=some (numV n,0)
  | 0,h,_=>by omega
  | 1,_,_=>by kernel_rfl
  | 2,_,_=>by kernel_rfl
  | 3,_,_=>by kernel_rfl
  | 4,_,_=>by kernel_rfl
  | 5,_,_=>by kernel_rfl
  | 6,_,_=>by kernel_rfl
  | 7,_,_=>by kernel_rfl
  | 8,_,_=>by kernel_rfl
  | 9,_,_=>by kernel_rfl
  | 10,_,_=>by kernel_rfl
  | 11,_,_=>by kernel_rfl
  | 12,_,_=>by kernel_rfl
  | 13,_,_=>by kernel_rfl
  | 14,_,_=>by kernel_rfl
  | 15,_,_=>by kernel_rfl
  | 16,_,_=>by kernel_rfl
  | n+17,_,h=>by omega
theorem refderive_eq (k:Nat) (root a b:List UInt8) (n:Nat) (hr:root.length=32) (ha:nameS a=true) (hb:nameS b=true) (h1:1≤n) (h16:n≤16) :
    hr07_Derive (k+1200) root [a,b,numV n]=some (keyS root a b n,0):=by
  obtain ⟨a1,a2,_⟩:=name_nz ha
  obtain ⟨b1,b2,_⟩:=name_nz hb
  obtain ⟨_,n1,n2⟩:=num_v 0 n h1 h16
  unfold hr07_Derive
  rw [show k+1200=(k+1170)+30 from rfl,refkey3 (k+1170) a b (numV n) a1 b1 n1 a2 b2 n2,Option.bind_some,if_neg (by simp)]
  rw [ref_bytes _ root hr (by omega),Option.bind_some,reftag_eq _ root _ (by omega) (by simp;omega) (by omega) (by simp;omega)]
  rfl
open Go L Go.Sort
abbrev PT:=S_keys_Tree
abbrev RT:=S_hr09_Tree
def toV (p:S_keys_purpose×Int):S_hr09_version:=⟨p.1.tenant,p.1.name,p.2⟩
structure Rel (t:PT) (r:RT):Prop where
  root:r.root=t.root
  len:t.root.length=32
  sealed:r.sealed=t.sealed
  s0:0≤t.sealed
  s1:t.sealed≤1099511627776
  gk:r.gone=t.gone.map (·.1)
  gt:∀ p,p ∈ t.gone→p.2=true∧nameS p.1=true
  gn:NDK t.gone
  gl:t.gone.length≤16
  an:NDK t.at_
  al:t.at_.length≤16
  aw:∀ p,p ∈ t.at_→2≤p.2∧p.2≤16∧nameS p.1.tenant=true∧nameS p.1.name=true
  ap:(t.at_.map toV).Perm r.l
variable {t:PT} {r:RT}
theorem Rel.wf (h:Rel t r):WF t:=fun p hp=>by have:=h.aw p hp; omega
theorem Rel.rl (h:Rel t r):r.l.length≤16:=by have:=h.ap.length_eq; rw [List.length_map] at this; have:=h.al; omega
theorem Rel.rg (h:Rel t r):r.gone.length≤16:=by rw [h.gk,List.length_map]; exact h.gl
theorem Rel.isgone (h:Rel t r) (a:List UInt8):(mget t.gone a).getD false=decide (a ∈ r.gone):=by
  rw [h.gk]
  cases hm:mget t.gone a with
  | none=>rw [mget_none] at hm;simp only [Option.getD_none];exact (decide_eq_false hm).symm
  | some v =>
    have h1:=mget_mem hm
    have h2:=(h.gt _ h1).1
    simp only at h2;subst h2
    simp only [Option.getD_some];exact (decide_eq_true (List.mem_map.2 ⟨_,h1,rfl⟩)).symm
theorem Rel.rget (h:Rel t r) (a b:List UInt8):rgetS r.l a b=mget t.at_ ⟨a,b⟩:=by
  unfold rgetS
  cases hf:r.l.find? (fun v=>decide (v.tenant=a)&&decide (v.purpose=b)) with
  | none =>
    rw [Option.map_none];symm;rw [mget_none]
    intro hm
    obtain ⟨p,hp,he⟩:=List.mem_map.1 hm
    have h1:toV p ∈ r.l:=h.ap.mem_iff.1 (List.mem_map.2 ⟨p,hp,rfl⟩)
    have h2:=List.find?_eq_none.1 hf _ h1
    apply h2
    simp only [toV,he,decide_true,Bool.and_self]
  | some v =>
    rw [Option.map_some];symm
    have h1:=List.mem_of_find?_eq_some hf
    have h2:=List.find?_some hf
    simp only [Bool.and_eq_true,decide_eq_true_eq] at h2
    obtain ⟨p,hp,he⟩:=List.mem_map.1 (h.ap.mem_iff.2 h1)
    have:p=(⟨a,b⟩,v.n):=by
      obtain ⟨⟨pt,pn⟩,pv⟩:=p
      subst he
      obtain ⟨e1,e2⟩:=h2
      simp only [toV] at e1 e2 ⊢
      rw [e1,e2]
    exact mem_mget h.an (by rw [← this];exact hp)
theorem Rel.cur (h:Rel t r) (a b:List UInt8):rcurS r a b=curS t a b:=by
  unfold rcurS curS
  rw [h.isgone a,h.rget a b]
  split
  · rfl
  · by_cases hg:a ∈ r.gone
    · rw [if_pos hg,if_pos (by simpa using hg)]
    · rw [if_neg hg,if_neg (by simpa using hg)]
      cases hm:mget t.at_ ⟨a,b⟩ with
      | none=>rfl
      | some v =>
        have:=(h.aw _ (mget_mem hm)).1
        simp only [Option.getD_some,maxI]
        rw [if_neg (by simp only at this;omega)]
theorem Rel.rcur (h:Rel t r) (K:Nat) (a b:List UInt8) (hK:100≤K) (ha:a.length<K) (hb:b.length<K) (ba:a.length<4611686018427387904) (bb:b.length<4611686018427387904) :
    hr09_Tree_Current K r a b=some (curS t a b):=by
  have:=h.rl;have:=h.rg
  rw [rcur_eq K r a b ha hb (by omega) (by omega) ba bb (by omega) (by omega),h.cur]
/-! Rotate -/
def rotTS (t:PT) (a b:List UInt8):Int×Int×PT :=
  if (curS t a b).2 ≠ 0 then (0,(curS t a b).2,t)
  else if 16≤(curS t a b).1 ∨ (curS t a b).1=1∧16≤(t.at_.length:Int) then (0,7,t)
  else ((curS t a b).1+1,0,⟨t.root,t.sealed,t.gone,mset t.at_ ⟨a,b⟩ ((curS t a b).1+1)⟩)
theorem rot_eq (K:Nat) (t:PT) (hw:WF t) (a b:List UInt8):keys_Tree_Rotate K t a b=some (rotTS t a b):=by
  unfold keys_Tree_Rotate rotTS
  rw [show (⟨t.root,t.sealed,t.gone,t.at_⟩:S_keys_Tree)=t from rfl,cur_eq,Option.bind_some]
  by_cases h:(curS t a b).2=0
  · obtain ⟨_,_,_,h1,h16⟩:=cur_ok hw h
    rw [if_neg (show ¬ (curS t a b).2 ≠ 0 by simp [h]),if_neg (show ¬ (!decide ((curS t a b).2=0))=true by simp [h])]
    by_cases h2:16≤(curS t a b).1 ∨ (curS t a b).1=1∧16≤(t.at_.length:Int)
    · rw [if_pos h2,if_pos (by simpa using h2)]
    · rw [if_neg h2,if_neg (by simpa using h2),Option.bind_some,show W ((curS t a b).1+1)=(curS t a b).1+1 from L.W_id (by omega) (by omega)]
  · rw [if_pos (show (curS t a b).2 ≠ 0 from h),if_pos (by simpa using h)]
def notV (a b:List UInt8) (v:S_hr09_version):Bool:=!decide (v.tenant=a)||!decide (v.purpose=b)
theorem rrot_l1 (r:RT) (a b:List UInt8) (hb:r.l.length≤16):∀ (n i k:Nat) (out:List S_hr09_version),i+n=r.l.length→n<k→out.length≤i →
    hr09_Tree_Rotate.l1 k r a b out (i:Int)=some (out++(r.l.drop i).filter (notV a b))
  | 0,i,k+1,out,h,_,_=>by
    rw [hr09_Tree_Rotate.l1,if_neg (by simp;omega),List.drop_of_length_le (by omega)];simp
  | n+1,i,k+1,out,h,hk,ho=>by
    have hd:r.l.drop i=r.l.getD i default :: r.l.drop (i+1):=drop_succ' default (by omega)
    rw [hr09_Tree_Rotate.l1,if_pos (by simp;omega)]
    simp only [gt_nat (xs:=r.l) (i:=i) default (by omega),Option.bind_some]
    rw [hd]
    have e:(if (!decide ((r.l.getD i default).tenant=a))=true then some true else some (!decide ((r.l.getD i default).purpose=b)))=some (notV a b (r.l.getD i default)):=by
      unfold notV;by_cases h1:(r.l.getD i default).tenant=a
      · rw [if_neg (by simp only [decide_eq_true h1];decide)];simp only [decide_eq_true h1];simp
      · rw [if_pos (by simp only [decide_eq_false h1];decide)];simp only [decide_eq_false h1];simp
    rw [e,Option.bind_some]
    by_cases h1:notV a b (r.l.getD i default)=true
    · rw [if_pos h1,app_ok (by simp;omega),Option.bind_some,W_succ (by omega),rrot_l1 r a b hb n (i+1) k _ (by omega) (by omega) (by simp;omega),List.filter_cons_of_pos h1,List.append_assoc];rfl
    · rw [if_neg h1,W_succ (by omega),rrot_l1 r a b hb n (i+1) k _ (by omega) (by omega) (by omega),List.filter_cons_of_neg h1]
def rrotS (t:PT) (r:RT) (a b:List UInt8):Int×Int×RT :=
  if (curS t a b).2 ≠ 0 then (0,(curS t a b).2,r)
  else if 16≤(curS t a b).1 ∨ (curS t a b).1=1∧16≤(t.at_.length:Int) then (0,7,r)
  else ((curS t a b).1+1,0,⟨r.root,r.sealed,r.gone,r.l.filter (notV a b)++[⟨a,b,(curS t a b).1+1⟩]⟩)
theorem Rel.rrot (h:Rel t r) (K:Nat) (a b:List UInt8) (hK:100≤K) (ha:a.length<K) (hb:b.length<K) (ba:a.length<4611686018427387904) (bb:b.length<4611686018427387904) :
    hr09_Tree_Rotate K r a b=some (rrotS t r a b):=by
  have hl:=h.rl
  have he:r.l.length=t.at_.length:=by rw [← h.ap.length_eq,List.length_map]
  unfold hr09_Tree_Rotate rrotS
  rw [show (⟨r.root,r.sealed,r.gone,r.l⟩:RT)=r from rfl,h.rcur K a b hK ha hb ba bb,Option.bind_some]
  by_cases hc:(curS t a b).2=0
  · obtain ⟨_,_,_,h1,h16⟩:=cur_ok h.wf hc
    rw [if_neg (show ¬ (curS t a b).2 ≠ 0 by simp [hc]),if_neg (show ¬ (!decide ((curS t a b).2=0))=true by simp [hc]),he]
    by_cases h2:16≤(curS t a b).1 ∨ (curS t a b).1=1∧16≤(t.at_.length:Int)
    · rw [if_pos h2,if_pos (by simpa using h2)]
    · rw [if_neg h2,if_neg (by simpa using h2),show (0:Int)=((0:Nat):Int) from rfl,rrot_l1 r a b hl r.l.length 0 K [] (by omega) (by omega) (by simp),Option.bind_some,Option.bind_some,List.drop_zero,List.nil_append,
        show W ((curS t a b).1+1)=(curS t a b).1+1 from L.W_id (by omega) (by omega),app_ok (by have:=List.length_filter_le (notV a b) r.l;simp;omega),Option.bind_some]
  · rw [if_pos (show (curS t a b).2 ≠ 0 from hc),if_pos (by simpa using hc)]
theorem mset_perm {κ β:Type} [DecidableEq κ] {m:List (κ×β)} (k:κ) (v:β) (h:NDK m):(mset m k v).Perm (m.filter (fun p=>decide (p.1 ≠ k)) ++ [(k,v)]):=by
  induction m with
  | nil=>exact List.Perm.refl _
  | cons x m ih =>
    unfold NDK at h;rw [List.map_cons,List.nodup_cons] at h
    simp only [mset]
    split
    · rename_i hx
      have e:m.filter (fun p=>decide (p.1 ≠ k))=m:=List.filter_eq_self.2 fun p hp=>by
        simp only [ne_eq,decide_not,Bool.not_eq_true',decide_eq_false_iff_not]
        exact fun e=>h.1 (List.mem_map.2 ⟨p,hp,by rw [e,hx]⟩)
      rw [List.filter_cons_of_neg (by simp [hx]),e]
      subst hx
      exact (List.perm_append_singleton (x.1,v) m).symm
    · rename_i hx
      rw [List.filter_cons_of_pos (by simpa using hx)]
      exact (ih h.2).cons x
theorem mset_mem {κ β:Type} [DecidableEq κ] {m:List (κ×β)} {k:κ} {v:β} (h:NDK m) {p:κ×β} (hp:p ∈ mset m k v):p=(k,v) ∨ p ∈ m∧p.1 ≠ k:=by
  have:=(mset_perm k v h).mem_iff.1 hp
  rcases List.mem_append.1 this with h1 | h1
  · rw [List.mem_filter] at h1;exact .inr ⟨h1.1,by simpa using h1.2⟩
  · exact .inl (by simpa using h1)
theorem mset_len_old {κ β:Type} [DecidableEq κ] {m:List (κ×β)} {k:κ} {v w:β} (h:mget m k=some w):(mset m k v).length=m.length:=by
  have h1:=congrArg List.length (mset_keys m k v)
  rw [if_pos (List.mem_map.2 ⟨_,mget_mem h,rfl⟩)] at h1
  simpa using h1
theorem Rel.rot (h:Rel t r) (a b:List UInt8):(rotTS t a b).1=(rrotS t r a b).1∧(rotTS t a b).2.1=(rrotS t r a b).2.1∧Rel (rotTS t a b).2.2 (rrotS t r a b).2.2:=by
  unfold rotTS rrotS
  by_cases hc:(curS t a b).2=0
  · rw [if_neg (show ¬ (curS t a b).2 ≠ 0 by simp [hc]),if_neg (show ¬ (curS t a b).2 ≠ 0 by simp [hc])]
    obtain ⟨na,nb,_,h1,h16⟩:=cur_ok h.wf hc
    by_cases h2:16≤(curS t a b).1 ∨ (curS t a b).1=1∧16≤(t.at_.length:Int)
    · rw [if_pos h2,if_pos h2];exact ⟨rfl,rfl,h⟩
    · rw [if_neg h2,if_neg h2]
      refine ⟨rfl,rfl,⟨h.root,h.len,h.sealed,h.s0,h.s1,h.gk,h.gt,h.gn,h.gl,mset_nd h.an,?_,?_,?_⟩⟩
      · show (mset t.at_ _ _).length≤16
        cases hm:mget t.at_ ⟨a,b⟩ with
        | none =>
          have h3:(curS t a b).1=1:=by
            unfold curS at hc ⊢
            split at hc
            · cases hc
            · rename_i h4
              split at hc
              · cases hc
              · rename_i h5;rw [if_neg h4,if_neg h5,hm];rfl
          have:=mset_len t.at_ ⟨a,b⟩ ((curS t a b).1+1)
          have h6 : ¬ 16≤(t.at_.length:Int):=fun h6=>h2 (.inr ⟨h3,h6⟩)
          omega
        | some w=>rw [mset_len_old hm];exact h.al
      · intro p hp
        rcases mset_mem h.an hp with rfl | ⟨hp,_⟩
        · exact ⟨by simp only;omega,by simp only;omega,na,nb⟩
        · exact h.aw p hp
      · refine ((mset_perm ⟨a,b⟩ ((curS t a b).1+1) h.an).map toV).trans ?_
        rw [List.map_append,List.map_singleton]
        refine List.Perm.append ?_ (List.Perm.refl _)
        have e:(t.at_.filter (fun p=>decide (p.1 ≠ ⟨a,b⟩))).map toV=(t.at_.map toV).filter (notV a b):=by
          rw [List.filter_map]
          congr 1
          apply List.filter_congr
          intro p _
          obtain ⟨⟨pt,pn⟩,pv⟩:=p
          simp only [Function.comp,toV,notV,ne_eq,S_keys_purpose.mk.injEq]
          by_cases e1:pt=a <;> by_cases e2:pn=b <;> simp [e1,e2]
        rw [e]
        exact h.ap.filter _
  · rw [if_pos (show (curS t a b).2 ≠ 0 from hc),if_pos (show (curS t a b).2 ≠ 0 from hc)];exact ⟨rfl,rfl,h⟩
open Go L Go.Sort
variable {t:PT} {r:RT}
/-! Destroy -/
def desTS (t:PT) (a:List UInt8):Int×PT :=
  if nameS a=false then (8,t) else if (mget t.gone a).getD false=true then (12,t) else if 16≤(t.gone.length:Int) then (7,t)
  else (0,⟨t.root,t.sealed,mset t.gone a true,t.at_.filter fun p=>!decide (p.1.tenant=a)⟩)
theorem des_fold (K:Nat) (a:List UInt8):∀ (l s:List (S_keys_purpose×Int)),NDK s →
    mfold (keys_Tree_Destroy.m1 K a) l s=some (.go (s.filter fun p=>!(decide (p.1.tenant=a)&&decide (p.1 ∈ l.map (·.1)))))
  | [],s,_=>by
    show some _=_
    congr 2;symm;exact List.filter_eq_self.2 fun p _=>by simp
  | x :: l,s,hs=>by
    have hB:keys_Tree_Destroy.m1 K a x s=some (.go (s.filter fun p=>!(decide (p.1.tenant=a)&&decide (p.1=x.1)))):=by
      unfold keys_Tree_Destroy.m1
      by_cases h:x.1.tenant=a
      · show (if decide (x.1.tenant=a)=true then _ else _)=_
        rw [if_pos (by simpa using h),mdel_eq hs,Option.bind_some]
        congr 2
        apply List.filter_congr
        intro p _
        by_cases e:p.1=x.1
        · simp [e,h]
        · simp [e]
      · show (if decide (x.1.tenant=a)=true then _ else _)=_
        rw [if_neg (by simpa using h)]
        congr 2;symm
        refine List.filter_eq_self.2 fun p _=>?_
        by_cases e:p.1=x.1
        · simp [e,h]
        · simp [e]
    simp only [mfold,hB,Option.bind_some,lrc]
    rw [des_fold K a l _ (filter_nd _ hs),List.filter_filter]
    congr 2
    apply List.filter_congr
    intro p _
    rw [Bool.eq_iff_iff]
    simp only [Bool.and_eq_true,Bool.not_eq_true',Bool.and_eq_false_iff,decide_eq_false_iff_not,List.map_cons,List.mem_cons]
    generalize (p.1.tenant=a)=A;generalize (p.1=x.1)=E;generalize (p.1 ∈ l.map (·.1))=M
    by_cases A <;> by_cases E <;> by_cases M <;> simp [*]
theorem des_eq (K:Nat) (t:PT) (hn:NDK t.at_) (a:List UInt8):keys_Tree_Destroy K t a=some (desTS t a):=by
  unfold keys_Tree_Destroy desTS
  rw [IsName_eq,Option.bind_some]
  cases nameS a with
  | false=>rfl
  | true =>
    rw [if_neg (by simp),if_neg (show ¬ (true=false) by decide)]
    by_cases h1:(mget t.gone a).getD false=true
    · rw [if_pos h1,if_pos h1]
    · rw [if_neg h1,if_neg h1]
      by_cases h2:16≤(t.gone.length:Int)
      · rw [if_pos h2,if_pos (by simpa using h2)]
      · rw [if_neg h2,if_neg (by simpa using h2),Option.bind_some]
        refine mrngK_eq fun l hl=>?_
        rw [des_fold K a l _ hn,Option.bind_some]
        show some _=some _
        congr 3
        apply List.filter_congr
        intro p hp
        have:p.1 ∈ l.map (·.1):=List.mem_map.2 ⟨p,hl.mem_iff.2 hp,rfl⟩
        simp [this]
theorem rdes_l1 (r:RT) (a:List UInt8) (hb:r.l.length≤16):∀ (n i k:Nat) (out:List S_hr09_version),i+n=r.l.length→n<k→out.length≤i →
    hr09_Tree_Destroy.l1 k r a out (i:Int)=some (out++(r.l.drop i).filter fun v=>!decide (v.tenant=a))
  | 0,i,k+1,out,h,_,_=>by
    rw [hr09_Tree_Destroy.l1,if_neg (by simp;omega),List.drop_of_length_le (by omega)];simp
  | n+1,i,k+1,out,h,hk,ho=>by
    have hd:r.l.drop i=r.l.getD i default :: r.l.drop (i+1):=drop_succ' default (by omega)
    rw [hr09_Tree_Destroy.l1,if_pos (by simp;omega)]
    simp only [gt_nat (xs:=r.l) (i:=i) default (by omega),Option.bind_some]
    rw [hd]
    by_cases h1:(!decide ((r.l.getD i default).tenant=a))=true
    · rw [if_pos h1,app_ok (by simp;omega),Option.bind_some,W_succ (by omega),rdes_l1 r a hb n (i+1) k _ (by omega) (by omega) (by simp;omega),List.filter_cons_of_pos (p:=fun v:S_hr09_version=>!decide (v.tenant=a)) h1,List.append_assoc];rfl
    · rw [if_neg h1,W_succ (by omega),rdes_l1 r a hb n (i+1) k _ (by omega) (by omega) (by omega),List.filter_cons_of_neg (p:=fun v:S_hr09_version=>!decide (v.tenant=a)) h1]
def rdesS (t:PT) (r:RT) (a:List UInt8):Int×RT :=
  if nameS a=false then (8,r) else if (mget t.gone a).getD false=true then (12,r) else if 16≤(t.gone.length:Int) then (7,r)
  else (0,⟨r.root,r.sealed,r.gone++[a],r.l.filter fun v=>!decide (v.tenant=a)⟩)
theorem Rel.rdes (h:Rel t r) (K:Nat) (a:List UInt8) (hK:100≤K) (ha:a.length<K) (ba:a.length<4611686018427387904):hr09_Tree_Destroy K r a=some (rdesS t r a):=by
  have hl:=h.rl;have hg:=h.rg
  have he:r.gone.length=t.gone.length:=by rw [h.gk,List.length_map]
  unfold hr09_Tree_Destroy rdesS
  rw [refIsName_eq K a ha ba,Option.bind_some]
  cases nameS a with
  | false=>rfl
  | true =>
    rw [if_neg (by simp),if_neg (show ¬ (true=false) by decide),show (⟨r.root,r.sealed,r.gone,r.l⟩:RT)=r from rfl,isGone_eq K r a (by omega) (by omega),Option.bind_some,← h.isgone a]
    by_cases h1:(mget t.gone a).getD false=true
    · rw [if_pos h1,if_pos h1]
    · rw [if_neg h1,if_neg h1,he]
      by_cases h2:16≤(t.gone.length:Int)
      · rw [if_pos h2,if_pos (by simpa using h2)]
      · rw [if_neg h2,if_neg (by simpa using h2),Option.bind_some,app_ok (by simp;omega),Option.bind_some,show (0:Int)=((0:Nat):Int) from rfl,rdes_l1 r a hl r.l.length 0 K [] (by omega) (by omega) (by simp),Option.bind_some]
        rfl
theorem Rel.des (h:Rel t r) (a:List UInt8):(desTS t a).1=(rdesS t r a).1∧Rel (desTS t a).2 (rdesS t r a).2:=by
  unfold desTS rdesS
  cases hn:nameS a with
  | false=>exact ⟨rfl,h⟩
  | true =>
    rw [if_neg (show ¬ (true=false) by decide),if_neg (show ¬ (true=false) by decide)]
    by_cases h1:(mget t.gone a).getD false=true
    · rw [if_pos h1,if_pos h1];exact ⟨rfl,h⟩
    · rw [if_neg h1,if_neg h1]
      by_cases h2:16≤(t.gone.length:Int)
      · rw [if_pos h2,if_pos h2];exact ⟨rfl,h⟩
      · rw [if_neg h2,if_neg h2]
        have hk:a ∉ t.gone.map (·.1):=fun hm=>by
          have:=h.isgone a
          rw [h.gk] at this
          exact h1 (by rw [this];exact decide_eq_true hm)
        refine ⟨rfl,⟨h.root,h.len,h.sealed,h.s0,h.s1,?_,?_,mset_nd h.gn,?_,filter_nd _ h.an,?_,?_,?_⟩⟩
        · show r.gone++[a]=(mset t.gone a true).map (·.1)
          rw [mset_keys,if_neg hk,h.gk]
        · intro p hp
          rcases mset_mem h.gn hp with rfl | ⟨hp,_⟩
          · exact ⟨rfl,hn⟩
          · exact h.gt p hp
        · have:=mset_len t.gone a true
          show (mset t.gone a true).length≤16
          omega
        · exact Nat.le_trans (List.length_filter_le _ _) h.al
        · intro p hp;exact h.aw p (List.mem_filter.1 hp).1
        · have e:(t.at_.filter (fun p=>!decide (p.1.tenant=a))).map toV=(t.at_.map toV).filter fun v=>!decide (v.tenant=a):=by
            rw [List.filter_map];rfl
          show ((t.at_.filter (fun p=>!decide (p.1.tenant=a))).map toV).Perm _
          rw [e];exact h.ap.filter _
/-! Key,Seal,Open,Reseal -/
structure Bd2 (K:Nat) (a b:List UInt8):Prop where
  la:a.length<K
  lb:b.length<K
  ba:a.length<4611686018427387904
  bb:b.length<4611686018427387904
theorem Rel.rkey (h:Rel t r) (k:Nat) (a b:List UInt8) (hB:Bd2 (k+1200) a b) (n:Int):hr09_Tree_Key (k+1200) r a b n=some (keyAS t a b n):=by
  unfold hr09_Tree_Key keyAS
  rw [show (⟨r.root,r.sealed,r.gone,r.l⟩:RT)=r from rfl,h.rcur (k+1200) a b (by omega) hB.la hB.lb hB.ba hB.bb,Option.bind_some]
  by_cases hc:(curS t a b).2=0
  · rw [if_neg (show ¬ (curS t a b).2 ≠ 0 by simp [hc]),if_neg (show ¬ (!decide ((curS t a b).2=0))=true by simp [hc])]
    obtain ⟨ha,hb,_,h1,h16⟩:=cur_ok h.wf hc
    by_cases hn:n<1 ∨ (curS t a b).1<n
    · rw [if_pos hn,if_pos (by simpa using hn)];rfl
    · rw [if_neg hn,if_neg (by simpa using hn)]
      have e:n=(n.toNat:Int):=by omega
      have:=refnum_v (k+1180) n.toNat (by omega) (by omega)
      rw [show k+1180+20=k+1200 from rfl] at this
      rw [e,this,Option.bind_some,Option.bind_some]
      simp only [Int.toNat_natCast]
      rw [h.root,refderive_eq k t.root a b n.toNat h.len ha hb (by omega) (by omega)];rfl
  · rw [if_pos (show (curS t a b).2 ≠ 0 from hc),if_pos (by simpa using hc)];rfl
theorem Rel.rseal (h:Rel t r) (k:Nat) (a b:List UInt8) (hB:Bd2 (k+1200) a b) (p:List UInt8) :
    ∃ r',hr09_Tree_Seal (k+1200) r a b p=some ((sealTS t a b p).1,(sealTS t a b p).2.1,r')∧Rel (sealTS t a b p).2.2 r':=by
  unfold hr09_Tree_Seal sealTS
  rw [show (⟨r.root,r.sealed,r.gone,r.l⟩:RT)=r from rfl,h.rcur (k+1200) a b (by omega) hB.la hB.lb hB.ba hB.bb,Option.bind_some]
  by_cases hc:(curS t a b).2=0
  · obtain ⟨ha,hb,_,h1,h16⟩:=cur_ok h.wf hc
    rw [if_neg (show ¬ (curS t a b).2 ≠ 0 by simp [hc]),if_neg (show ¬ (!decide ((curS t a b).2=0))=true by simp [hc]),h.rkey k a b hB]
    have hk:keyAS t a b (curS t a b).1=(keyS t.root a b (curS t a b).1.toNat,0):=by
      unfold keyAS;rw [if_neg (by simp [hc]),if_neg (by omega)]
    rw [hk,Option.bind_some,h.sealed,refSeal_any (k+1200) (by omega) _ (keyS_len _ _ _ _),Option.bind_some]
    generalize hs:sealA (keyS t.root a b (curS t a b).1.toNat) (iU64 t.sealed) p=s
    have hl:s.1.length≤1048:=by rw [← hs];exact sealA_len _ _ _
    by_cases h2:s.2=0
    · rw [if_neg (show ¬ s.2 ≠ 0 by simp [h2]),if_neg (show ¬ (!decide (s.2=0))=true by simp [h2])]
      by_cases h3:1099511627776≤t.sealed
      · rw [if_pos h3,if_pos (by simpa using h3)];exact ⟨_,rfl,h⟩
      · rw [if_neg h3,if_neg (by simpa using h3),Option.bind_some,app_ok (by simp;omega),Option.bind_some]
        have hw:W (t.sealed+1)=t.sealed+1:=L.W_id (by have:=h.s0;omega) (by omega)
        have h0:=h.s0
        refine ⟨_,rfl,⟨h.root,h.len,rfl,?_,?_,h.gk,h.gt,h.gn,h.gl,h.an,h.al,h.aw,h.ap⟩⟩
        · show 0≤W (t.sealed+1);omega
        · show W (t.sealed+1)≤1099511627776;omega
    · rw [if_pos (show s.2 ≠ 0 from h2),if_pos (by simpa using h2)];exact ⟨_,rfl,h⟩
  · rw [if_pos (show (curS t a b).2 ≠ 0 from hc),if_pos (by simpa using hc)];exact ⟨_,rfl,h⟩
theorem Rel.ropen (h:Rel t r) (k:Nat) (a b:List UInt8) (hB:Bd2 (k+1200) a b) (s:List UInt8) (hs:s.length<1000000000000000):hr09_Tree_Open (k+1200) r a b s=some (openTS t a b s):=by
  unfold hr09_Tree_Open openTS
  rw [show (⟨r.root,r.sealed,r.gone,r.l⟩:RT)=r from rfl,h.rcur (k+1200) a b (by omega) hB.la hB.lb hB.ba hB.bb,Option.bind_some]
  by_cases hc:(curS t a b).2=0
  · rw [if_neg (show ¬ (curS t a b).2 ≠ 0 by simp [hc]),if_neg (show ¬ (!decide ((curS t a b).2=0))=true by simp [hc])]
    cases s with
    | nil=>rfl
    | cons v s =>
      rw [if_neg (by simp;omega),show L.gt (v :: s) (0:Int)=some v from rfl,Option.bind_some,h.rkey k a b hB,Option.bind_some]
      dsimp only
      by_cases h2:(keyAS t a b (v.toNat:Int)).2=0
      · rw [if_neg (show ¬ (keyAS t a b (v.toNat:Int)).2 ≠ 0 by simp [h2]),if_neg (show ¬ (!decide ((keyAS t a b (v.toNat:Int)).2=0))=true by simp [h2])]
        rw [sub_ok (by omega) (by simp;omega) (by omega),Option.bind_some]
        have e:((v :: s).take ((v :: s).length:Int).toNat).drop (1:Int).toNat=s:=by simp
        rw [e,refOpen_eq (k+1200) (by omega) _ (keyAS_len _ _ _ _) s (by simp at hs;omega),Option.bind_some]
        by_cases h3:(openS (keyAS t a b (v.toNat:Int)).1 s).2.2=0
        · rw [if_neg (show ¬ (openS (keyAS t a b (v.toNat:Int)).1 s).2.2 ≠ 0 by simp [h3]),if_neg (by simp [h3])];rfl
        · rw [if_pos (show (openS (keyAS t a b (v.toNat:Int)).1 s).2.2 ≠ 0 from h3),if_pos (by simpa using h3)]
      · rw [if_pos (show (keyAS t a b (v.toNat:Int)).2 ≠ 0 from h2),if_pos (by simpa using h2)]
  · rw [if_pos (show (curS t a b).2 ≠ 0 from hc),if_pos (by simpa using hc)]
def reseTS (t:PT) (a b s:List UInt8):List UInt8×Bool×Int×PT :=
  if (openTS t a b s).2.2 ≠ 0 then ([],false,(openTS t a b s).2.2,t) else if (curS t a b).1=(openTS t a b s).2.1 then (s,false,0,t)
  else ((sealTS t a b (openTS t a b s).1).1,decide ((sealTS t a b (openTS t a b s).1).2.1=0),(sealTS t a b (openTS t a b s).1).2.1,(sealTS t a b (openTS t a b s).1).2.2)
theorem rese_eq (k:Nat) (t:PT) (hr:t.root.length=32) (hw:WF t) (a b s:List UInt8) (hs:s.length≤140737488355328):keys_Tree_Reseal (k+1200) t a b s=some (reseTS t a b s):=by
  unfold keys_Tree_Reseal reseTS
  rw [show (⟨t.root,t.sealed,t.gone,t.at_⟩:S_keys_Tree)=t from rfl,openT_eq k t hr hw a b s (by omega),Option.bind_some]
  by_cases h1:(openTS t a b s).2.2=0
  · rw [if_neg (show ¬ (openTS t a b s).2.2 ≠ 0 by simp [h1]),if_neg (by simp [h1]),cur_eq,Option.bind_some]
    by_cases h2:(curS t a b).1=(openTS t a b s).2.1
    · rw [if_pos h2,if_pos (by simpa using h2)]
      unfold bytes_Clone
      rw [app_ok (by simpa using hs),Option.bind_some];rfl
    · rw [if_neg h2,if_neg (by simpa using h2),sealT_eq k t hr hw,Option.bind_some]
  · rw [if_pos (show (openTS t a b s).2.2 ≠ 0 from h1),if_pos (by simpa using h1)]
theorem Rel.rrese (h:Rel t r) (k:Nat) (a b:List UInt8) (hB:Bd2 (k+1200) a b) (s:List UInt8) (hs:s.length≤140737488355328) :
    ∃ r',hr09_Tree_Reseal (k+1200) r a b s=some ((reseTS t a b s).1,(reseTS t a b s).2.1,(reseTS t a b s).2.2.1,r')∧Rel (reseTS t a b s).2.2.2 r':=by
  unfold hr09_Tree_Reseal reseTS
  rw [show (⟨r.root,r.sealed,r.gone,r.l⟩:RT)=r from rfl,h.ropen k a b hB s (by omega),Option.bind_some]
  by_cases h1:(openTS t a b s).2.2=0
  · rw [if_neg (show ¬ (openTS t a b s).2.2 ≠ 0 by simp [h1]),if_neg (show ¬ (!decide ((openTS t a b s).2.2=0))=true by simp [h1]),h.rcur (k+1200) a b (by omega) hB.la hB.lb hB.ba hB.bb,Option.bind_some]
    by_cases h2:(curS t a b).1=(openTS t a b s).2.1
    · rw [if_pos h2,if_pos (by simpa using h2),app_ok (by simpa using hs),Option.bind_some];exact ⟨_,rfl,h⟩
    · rw [if_neg h2,if_neg (by simpa using h2)]
      obtain ⟨r',h3,h4⟩:=h.rseal k a b hB (openTS t a b s).1
      rw [h3,Option.bind_some];exact ⟨_,rfl,h4⟩
  · rw [if_pos (show (openTS t a b s).2.2 ≠ 0 from h1),if_pos (by simpa using h1)];exact ⟨_,rfl,h⟩
/-! lengths -/
theorem sealTS_len (t:PT) (a b p:List UInt8):(sealTS t a b p).1.length≤1049:=by
  unfold sealTS
  split
  · simp
  · split
    · simp
    · split
      · simp
      · have:=sealA_len (keyS t.root a b (curS t a b).1.toNat) (iU64 t.sealed) p
        simp only [List.length_cons];omega
theorem openTS_len (t:PT) (a b s:List UInt8):(openTS t a b s).1.length≤1024:=by
  unfold openTS
  split
  · simp
  · split
    · simp
    · split
      · simp
      · split
        · simp
        · exact openS_len _ _
theorem reseTS_len (t:PT) (a b s:List UInt8):(reseTS t a b s).1.length≤s.length+1049:=by
  unfold reseTS
  split
  · simp
  · split
    · simp
    · have:=sealTS_len t a b (openTS t a b s).1
      simp only;omega
open Go L Go.Sort
variable {t:PT} {r:RT}
theorem copy_eq (K:Nat) (b:List UInt8) (h:b.length≤140737488355328):hr01_Copy K b=some b:=by
  unfold hr01_Copy;rw [app_ok (by simpa using h)];rfl
theorem rotTS_sealed (t:PT) (a b:List UInt8):(rotTS t a b).2.2.sealed=t.sealed:=by unfold rotTS; split; rfl; split <;> rfl
theorem desTS_sealed (t:PT) (a:List UInt8):(desTS t a).2.sealed=t.sealed:=by unfold desTS; split; rfl; split; rfl; split <;> rfl
theorem sealTS_sealed (t:PT) (h0:0≤t.sealed) (a b p:List UInt8):(sealTS t a b p).2.2.sealed≤t.sealed+1:=by
  unfold sealTS;split
  · simp only;omega
  · split
    · simp only;omega
    · split
      · simp only;omega
      · simp only;rw [L.W_id (by omega) (by omega)];exact Int.le_refl _
theorem reseTS_sealed (t:PT) (h0:0≤t.sealed) (a b s:List UInt8):(reseTS t a b s).2.2.2.sealed≤t.sealed+1:=by
  unfold reseTS;split
  · simp only;omega
  · split
    · simp only;omega
    · exact sealTS_sealed t h0 a b _
theorem play_step (k:Nat) (lk) (e:S_hl09_Deed) (hB:Bd2 (k+1200) e.Tenant e.Purpose) (b:List UInt8) (hb1:b.length≤140737488355328) (hb2:b.length+1100<k+1200) (h:Rel t r) (last:List UInt8) (hl:last.length≤1049) (i1:Int) :
    ∃ t' r' last',Rel t' r'∧last'.length≤1049∧t'.sealed≤t.sealed+1 ∧
      hl09_play.j1 (k+1200) lk e t.root t.sealed t.gone t.at_ r.root r.sealed r.gone r.l last i1 b=lk t'.root t'.sealed t'.gone t'.at_ r'.root r'.sealed r'.gone r'.l last' (W (i1+1)):=by
  unfold hl09_play.j1
  rw [show (⟨t.root,t.sealed,t.gone,t.at_⟩:PT)=t from rfl,show (⟨r.root,r.sealed,r.gone,r.l⟩:RT)=r from rfl]
  by_cases h0:e.Kind=0
  · rw [if_pos (by simpa using h0),rot_eq _ t h.wf,Option.bind_some,h.rrot (k+1200) _ _ (by omega) hB.la hB.lb hB.ba hB.bb,Option.bind_some]
    obtain ⟨e1,e2,e3⟩:=h.rot e.Tenant e.Purpose
    rw [if_neg (by rw [e1,e2];simp)]
    exact ⟨_,_,last,e3,hl,by rw [rotTS_sealed];omega,rfl⟩
  rw [if_neg (by simpa using h0)]
  by_cases h1:e.Kind=1
  · rw [if_pos (by simpa using h1),des_eq _ t h.an,Option.bind_some,h.rdes (k+1200) _ (by omega) hB.la hB.ba,Option.bind_some]
    obtain ⟨e1,e3⟩:=h.des e.Tenant
    rw [if_neg (by rw [e1];simp)]
    exact ⟨_,_,last,e3,hl,by rw [desTS_sealed];omega,rfl⟩
  rw [if_neg (by simpa using h1)]
  by_cases h2:e.Kind=2
  · obtain ⟨r',e1,e3⟩:=h.rseal k e.Tenant e.Purpose hB b
    have hs:=sealTS_len t e.Tenant e.Purpose b
    rw [if_pos (by simpa using h2),sealT_eq k t h.len h.wf,Option.bind_some,e1,Option.bind_some,same_dec _ _ _ (by omega) (by omega),Option.bind_some,if_neg (by simp)]
    exact ⟨_,_,_,e3,hs,sealTS_sealed t h.s0 _ _ _,rfl⟩
  rw [if_neg (by simpa using h2)]
  by_cases h3:e.Kind=3
  · have hs:=openTS_len t e.Tenant e.Purpose b
    rw [if_pos (by simpa using h3),openT_eq k t h.len h.wf _ _ _ (by omega),Option.bind_some,h.ropen k e.Tenant e.Purpose hB b (by omega),Option.bind_some,same_dec _ _ _ (by omega) (by omega),Option.bind_some,if_neg (by simp)]
    exact ⟨t,r,last,h,hl,by omega,rfl⟩
  rw [if_neg (by simpa using h3)]
  by_cases h4:e.Kind=4
  · obtain ⟨r',e1,e3⟩:=h.rrese k e.Tenant e.Purpose hB b hb1
    have hs:=reseTS_len t e.Tenant e.Purpose b
    rw [if_pos (by simpa using h4),rese_eq k t h.len h.wf _ _ _ hb1,Option.bind_some,e1,Option.bind_some,same_dec _ _ _ (by omega) (by omega),Option.bind_some,if_neg (by simp)]
    exact ⟨_,_,last,e3,hl,reseTS_sealed t h.s0 _ _ _,rfl⟩
  rw [if_neg (by simpa using h4),keyA_eq k t h.len h.wf,Option.bind_some,h.rkey k e.Tenant e.Purpose hB,Option.bind_some,cur_eq,Option.bind_some,h.rcur (k+1200) _ _ (by omega) hB.la hB.lb hB.ba hB.bb,Option.bind_some,if_neg (by simp)]
  exact ⟨t,r,last,h,hl,by omega,rfl⟩
structure DB (K:Nat) (x:S_hl09_Deed):Prop where
  b:Bd2 K x.Tenant x.Purpose
  b1:x.Bytes.length≤140737488355328
  b2:x.Bytes.length+1100<K
theorem play_l1 (k:Nat) (hk:1200≤k) (l:List S_hl09_Deed) (hB:∀ x,x ∈ l→DB (k+1200) x) (hl:l.length<4611686018427387904):∀ (n i m:Nat) (t:PT) (r:RT) (last:List UInt8),i+n=min l.length 60→n<m→Rel t r→last.length≤1049 →
    ∃ t' r',Rel t' r'∧t'.sealed≤t.sealed+n∧hl09_play.l1 (k+1200) m l t.root t.sealed t.gone t.at_ r.root r.sealed r.gone r.l last (i:Int)=some (.go (t'.root,t'.sealed,t'.gone,t'.at_,r'.root,r'.sealed,r'.gone,r'.l))
  | 0,i,m+1,t,r,last,h1,_,h,_=>⟨t,r,h,by omega,by
    rw [hl09_play.l1,if_neg (by simp only [Bool.and_eq_true,decide_eq_true_eq];omega)]⟩
  | n+1,i,m+1,t,r,last,h1,h2,h,hla=>by
    have hi:i<l.length:=by omega
    have hm:l.getD i default ∈ l:=by rw [List.getD_eq_getElem?_getD,List.getElem?_eq_getElem hi];exact List.getElem_mem hi
    have hD:=hB _ hm
    rw [hl09_play.l1,if_pos (by simp only [Bool.and_eq_true,decide_eq_true_eq];omega),gt_nat default hi,Option.bind_some,copy_eq _ _ hD.b1,Option.bind_some]
    have fin:∀ b:List UInt8,b.length≤140737488355328→b.length+1100<k+1200→∃ t' r',Rel t' r'∧t'.sealed≤t.sealed+((n+1:Nat):Int) ∧
        hl09_play.j1 (k+1200) (hl09_play.l1 (k+1200) m l) (l.getD i default) t.root t.sealed t.gone t.at_ r.root r.sealed r.gone r.l last (i:Int) b=some (.go (t'.root,t'.sealed,t'.gone,t'.at_,r'.root,r'.sealed,r'.gone,r'.l)):=by
      intro b hb1 hb2
      obtain ⟨t1,r1,la1,g1,g2,g3,g4⟩:=play_step k (hl09_play.l1 (k+1200) m l) (l.getD i default) hD.b b hb1 hb2 h last hla (i:Int)
      obtain ⟨t',r',k1,k2,k3⟩:=play_l1 k hk l hB hl n (i+1) m t1 r1 la1 (by omega) (by omega) g1 g2
      refine ⟨t',r',k1,by omega,?_⟩
      rw [g4,W_succ (by omega),k3]
    by_cases hL:(l.getD i default).Last=true
    · rw [if_pos hL,copy_eq _ _ (by omega),Option.bind_some]
      exact fin last (by omega) (by omega)
    · rw [if_neg hL]
      exact fin _ hD.b1 hD.b2
theorem play_eq (k:Nat) (hk:1200≤k) (l:List S_hl09_Deed) (hB:∀ x,x ∈ l→DB (k+1200) x) (hl:l.length<4611686018427387904) (h:Rel t r) :
    ∃ t' r',Rel t' r'∧t'.sealed≤t.sealed+60∧hl09_play (k+1200) t r l=some (true,t',r'):=by
  obtain ⟨t',r',h1,h2,h3⟩:=play_l1 k hk l hB hl (min l.length 60) 0 (k+1200) t r [] (by omega) (by omega) h (by simp)
  refine ⟨t',r',h1,by omega,?_⟩
  unfold hl09_play
  rw [show (0:Int)=((0:Nat):Int) from rfl,h3];rfl
/-! what is rotated is rotated alone -/
/-! what is sealed anew -/
open Go L Go.Sort
abbrev numN (n:Nat):List UInt8:=hexT n
theorem numA (k:Nat) {n:Int} (h0:0≤n) (h:n≤1099511627776):keys_number (k+1200) n=some (numN n.toNat):=by
  have e:=number_eq (k+1200) n.toNat (by omega) (by omega)
  rw [Int.toNat_of_nonneg h0] at e
  unfold keys_number;rw [e];rfl
theorem name47 {s:List UInt8} (h:nameS s=true):(47:UInt8) ∉ s∧s.length≤9∧s ≠ [35]:=by
  unfold nameS at h
  simp only [Bool.and_eq_true,decide_eq_true_eq,List.all_eq_true] at h
  refine ⟨fun hm=>?_,h.1.2,fun e=>?_⟩
  · have:=h.2 47 hm
    revert this;decide
  · subst e;have:=h.2 35 List.mem_cons_self
    revert this;decide
def rowG (x:List UInt8×Bool):S_api_Row:=⟨x.1,[]⟩
def keyV (k:S_keys_purpose):List UInt8:=(k.tenant ++ [47]) ++ k.name
def rowV (x:S_keys_purpose×Int):S_api_Row:=⟨keyV x.1,[numN x.2.toNat]⟩
def rowN (t:S_keys_Tree):S_api_Row:=⟨[35],[numN t.sealed.toNat]⟩
def rowsK (t:S_keys_Tree):List S_api_Row:=rowN t :: (t.gone.map rowG ++ t.at_.map rowV)
theorem rowG_fold (K:Nat):∀ (l:List (List UInt8×Bool)) (out:List S_api_Row),out.length+l.length≤3518437208883→mfold (keys_Tree_Rows.m1 K) l out=some (.go (out ++ l.map rowG))
  | [],out,_=>by simp [mfold]
  | y :: l,out,hl=>by
    simp only [List.length_cons] at hl
    have a3:app 3518437208883 out ([rowG y]:List S_api_Row)=some (out++[rowG y]):=appn (by simp only [List.length_cons,List.length_nil];omega)
    have hB:keys_Tree_Rows.m1 K y out=some (.go (out++[rowG y])):=congrArg (fun z=>Option.bind z _) a3 |>.trans rfl
    simp only [mfold,hB,Option.bind_some,lrc]
    rw [rowG_fold K l _ (by simp only [List.length_append,List.length_cons,List.length_nil];omega),List.map_cons,List.append_assoc];rfl
theorem rowV_fold (k:Nat):∀ (l:List (S_keys_purpose×Int)) (out:List S_api_Row),(∀ p ∈ l,0≤p.2∧p.2≤1099511627776∧nameS p.1.tenant=true∧nameS p.1.name=true)→out.length+l.length≤3518437208883→mfold (keys_Tree_Rows.m2 (k+1200)) l out=some (.go (out ++ l.map rowV))
  | [],out,_,_=>by simp [mfold]
  | y :: l,out,hn,hl=>by
    obtain ⟨h1,h2,h3,h4⟩:=hn y List.mem_cons_self
    have l1:=(name47 h3).2.1;have l2:=(name47 h4).2.1
    simp only [List.length_cons] at hl
    have a1:app 9223372036854775807 y.1.tenant ([47]:List UInt8)=some (y.1.tenant++[47]):=appn (by simp only [List.length_cons,List.length_nil];omega)
    have a2:app 9223372036854775807 (y.1.tenant++[47]) y.1.name=some (keyV y.1):=appn (by simp only [List.length_append,List.length_cons,List.length_nil];omega)
    have a3:app 3518437208883 out ([rowV y]:List S_api_Row)=some (out++[rowV y]):=appn (by simp only [List.length_cons,List.length_nil];omega)
    have hB:keys_Tree_Rows.m2 (k+1200) y out=some (.go (out++[rowV y])):=by
      unfold keys_Tree_Rows.m2
      simp only [a1,a2,numA k h1 h2,Option.bind_some]
      exact congrArg (fun z=>Option.bind z _) a3 |>.trans rfl
    simp only [mfold,hB,Option.bind_some,lrc]
    rw [rowV_fold k l _ (fun p hp=>hn p (List.mem_cons_of_mem _ hp)) (by simp only [List.length_append,List.length_cons,List.length_nil];omega),List.map_cons,List.append_assoc];rfl
structure RelA (t:S_keys_Tree):Prop where
  s0:0≤t.sealed
  gt:∀ p,p ∈ t.gone→p.2=true∧nameS p.1=true
  gn:NDK t.gone
  gl:t.gone.length≤16
  an:NDK t.at_
  al:t.at_.length≤16
  aw:∀ p,p ∈ t.at_→2≤p.2∧p.2≤16∧nameS p.1.tenant=true∧nameS p.1.name=true
variable {t:S_keys_Tree}
theorem rowsK_nd (h:RelA t):((rowsK t).map (·.Key)).Nodup:=by
  have hG:∀ x ∈ t.gone.map rowG,nameS x.Key=true:=fun x hx=>by obtain ⟨p,hp,rfl⟩:=List.mem_map.1 hx;exact (h.gt p hp).2
  have hV:∀ x ∈ t.at_.map rowV,(47:UInt8) ∈ x.Key:=fun x hx=>by obtain ⟨p,hp,rfl⟩:=List.mem_map.1 hx;simp [rowV,keyV]
  unfold rowsK
  rw [List.map_cons,List.nodup_cons,List.map_append,List.nodup_append]
  refine ⟨fun hm=>?_,?_,?_,fun a ha b hb e=>?_⟩
  · rw [← List.map_append] at hm
    obtain ⟨x,hx,e⟩:=List.mem_map.1 hm
    rcases List.mem_append.1 hx with hx | hx
    · exact (name47 (hG x hx)).2.2 e
    · have:=hV x hx;rw [e] at this;simp [rowN] at this
  · rw [List.map_map];exact h.gn
  · rw [List.map_map,show (fun x:S_api_Row=>x.Key) ∘ rowV=keyV ∘ (·.1) from rfl,← List.map_map]
    refine nodup_map h.an fun a ha b hb e=>?_
    obtain ⟨p,hp,rfl⟩:=List.mem_map.1 ha
    obtain ⟨q,hq,rfl⟩:=List.mem_map.1 hb
    obtain ⟨e1,e2⟩:=cut_inj (name47 (h.aw p hp).2.2.1).1 (name47 (h.aw q hq).2.2.1).1 e
    cases hp1:p.1;cases hq1:q.1;simp_all
  · obtain ⟨x,hx,rfl⟩:=List.mem_map.1 ha
    obtain ⟨y,hy,rfl⟩:=List.mem_map.1 hb
    have:=hV y hy;rw [← e] at this;exact (name47 (hG x hx)).1 this
theorem rowsA (k:Nat) (h:RelA t) (hs:t.sealed≤1099511627776):keys_Tree_Rows (k+1200) t=some (sortS cfR (rowsK t)):=by
  unfold keys_Tree_Rows
  rw [numA k h.s0 hs,Option.bind_some,Option.bind_some,Option.bind_some]
  have hl1:=h.gl;have hl2:=h.al
  refine mrngK_eq fun l hp=>?_
  have e1:=hp.length_eq
  rw [show ([⟨[35],[numN t.sealed.toNat]⟩]:List S_api_Row)=[rowN t] from rfl,rowG_fold _ l _ (by simp only [List.length_cons,List.length_nil];omega)]
  simp only [Option.bind_some,lrc]
  refine mrngK_eq fun l' hp'=>?_
  have e2:=hp'.length_eq
  rw [rowV_fold k l' _ (fun p hm=>by have:=h.aw p (hp'.mem_iff.1 hm);exact ⟨by omega,by omega,this.2.2⟩) (by simp only [List.length_append,List.length_map,List.length_cons,List.length_nil];omega)]
  simp only [Option.bind_some,lrc]
  have hP:(rowsK t).Perm ([rowN t]++l.map rowG++l'.map rowV):=by
    unfold rowsK
    rw [List.append_assoc,List.singleton_append]
    exact ((hp.symm.map _).append (hp'.symm.map _)).cons _
  have hN:=rowsK_nd h
  unfold api_Row_41_f42
  rw [if_pos ⟨by rw [← hP.length_eq];simp only [rowsK,List.length_append,List.length_map,List.length_cons];omega,(hP.map _).nodup_iff.1 hN⟩,Option.bind_some]
  exact congrArg some (sortS_eq cfR swoR hP (key_injR hN)).symm
open Go L Go.Sort
theorem numB (k:Nat) {n:Int} (h0:0≤n) (h:n≤1099511627776):hr02_Number (k+1200) n=some (numN n.toNat,0):=by
  have e:=rnumber_eq (k+1200) n.toNat (by omega) (by omega)
  rw [Int.toNat_of_nonneg h0] at e;exact e
variable {t:PT} {r:RT}
def rowG' (x:List UInt8):S_api_Row:=⟨x,[]⟩
def rowV' (x:S_hr09_version):S_api_Row:=⟨(x.tenant ++ [47]) ++ x.purpose,[numN x.n.toNat]⟩
theorem refG (r:RT):∀ (d k i:Nat) (out:List S_api_Row),i+d=r.gone.length→d<k→out.length+d≤3518437208883→r.gone.length<4611686018427387904→hr09_Tree_Rows.l1 k r out (i:Int)=some (out ++ (r.gone.drop i).map rowG')
  | 0,k+1,i,out,h1,h2,h3,h4=>by
    rw [hr09_Tree_Rows.l1,if_neg (by simp;omega),List.drop_eq_nil_of_le (by omega)];simp
  | d+1,k+1,i,out,h1,h2,h3,h4=>by
    have hi:i<r.gone.length:=by omega
    rw [hr09_Tree_Rows.l1,if_pos (by simp;omega),gtn hi,Option.bind_some,Option.bind_some]
    rw [show (⟨r.gone[i],[]⟩:S_api_Row)=rowG' r.gone[i] from rfl,appn (by simp only [List.length_cons,List.length_nil];omega),Option.bind_some,wsucc (by omega),refG r d k (i+1) _ (by omega) (by omega) (by simp only [List.length_append,List.length_cons,List.length_nil];omega) h4,
      List.drop_eq_getElem_cons hi,List.map_cons,List.append_assoc];rfl
theorem refV (K:Nat) (r:RT) (hw:∀ p ∈ r.l,0≤p.n∧p.n≤1099511627776∧nameS p.tenant=true∧nameS p.purpose=true):∀ (d k i:Nat) (out:List S_api_Row),i+d=r.l.length→d<k→out.length+d≤3518437208883→r.l.length<4611686018427387904→hr09_Tree_Rows.l2 (K+1200) k r out (i:Int)=some (out ++ (r.l.drop i).map rowV')
  | 0,k+1,i,out,h1,h2,h3,h4=>by
    rw [hr09_Tree_Rows.l2,if_neg (by simp;omega),List.drop_eq_nil_of_le (by omega)];simp
  | d+1,k+1,i,out,h1,h2,h3,h4=>by
    have hi:i<r.l.length:=by omega
    obtain ⟨w1,w2,w3,w4⟩:=hw r.l[i] (List.getElem_mem hi)
    have l1:=(name47 w3).2.1;have l2:=(name47 w4).2.1
    simp only [hr09_Tree_Rows.l2,gtn hi,Option.bind_some,numB K w1 w2]
    rw [if_pos (by simp;omega),appn (by simp only [List.length_cons,List.length_nil];omega),Option.bind_some,appn (by simp only [List.length_append,List.length_cons,List.length_nil];omega),Option.bind_some,
      show (⟨(r.l[i].tenant++[47])++r.l[i].purpose,[numN r.l[i].n.toNat]⟩:S_api_Row)=rowV' r.l[i] from rfl,appn (by simp only [List.length_cons,List.length_nil];omega),Option.bind_some,wsucc (by omega),
      refV K r hw d k (i+1) _ (by omega) (by omega) (by simp only [List.length_append,List.length_cons,List.length_nil];omega) h4,List.drop_eq_getElem_cons hi,List.map_cons,List.append_assoc];rfl
theorem Rel.toA (h:Rel t r):RelA t:=⟨h.s0,h.gt,h.gn,h.gl,h.an,h.al,h.aw⟩
theorem rowsB (k:Nat) (h:Rel t r) (hs:t.sealed≤1099511627776):hr09_Tree_Rows (k+1200) r=some (sortS cfR (rowsK t)):=by
  have h1:=h.rl;have h2:=h.rg;have h3:=h.gl;have h4:=h.al
  unfold hr09_Tree_Rows
  rw [numB k (by rw [h.sealed];exact h.s0) (by rw [h.sealed];exact hs),Option.bind_some,Option.bind_some,Option.bind_some]
  rw [show hr09_Tree_Rows.l1 (k+1200) r [⟨[35],[numN r.sealed.toNat]⟩] 0=some ([⟨[35],[numN r.sealed.toNat]⟩]++(r.gone.drop 0).map rowG') from refG r r.gone.length (k+1200) 0 _ (by omega) (by omega) (by simp only [List.length_cons,List.length_nil];omega) (by omega),Option.bind_some]
  rw [show hr09_Tree_Rows.l2 (k+1200) (k+1200) r _ 0=_ from refV k r (fun p hp=>by
    obtain ⟨q,hq,rfl⟩:=List.mem_map.1 (h.ap.mem_iff.2 hp)
    have:=h.aw q hq;exact ⟨by simp only [toV];omega,by simp only [toV];omega,this.2.2⟩) r.l.length (k+1200) 0 _ (by omega) (by omega) (by simp only [List.length_append,List.length_map,List.length_drop,List.length_cons,List.length_nil];omega) (by omega),Option.bind_some]
  have hP:(rowsK t).Perm ([⟨[35],[numN r.sealed.toNat]⟩]++(r.gone.drop 0).map rowG'++(r.l.drop 0).map rowV'):=by
    rw [List.drop_zero,List.drop_zero,h.sealed,h.gk,List.map_map,List.append_assoc,List.singleton_append]
    refine List.Perm.cons _ (List.Perm.append_left _ ?_)
    have:=h.ap.map rowV'
    rw [List.map_map] at this;exact this
  have hN:=rowsK_nd h.toA
  rw [Sorted_eq _ _ (by rw [← hP.length_eq];simp only [rowsK,List.length_append,List.length_map,List.length_cons];omega) (by rw [← hP.length_eq];simp only [rowsK,List.length_append,List.length_map,List.length_cons];omega) ((hP.map _).nodup_iff.1 hN),Option.bind_some]
  exact congrArg some (sortS_eq cfR swoR hP (key_injR hN)).symm
end Go.Proofs.YtjgbakieogadfabGreatDoor
