/-
  Keys: all deeds on both trees tell the same. Plain Lean.
-/
import Derived.Test.YtjgbakieogadfabGreatDoorKeyS
namespace Go.Proofs.YtjgbakieogadfabGreatDoor
open Go L Go.Sort
variable {t : PT} {r : RT}
/-! Destroy -/
def desTS (t : PT) (a : List UInt8) : Int × PT :=
  if nameS a=false then (8,t) else if (mget t.gone a).getD false=true then (12,t) else if 16≤(t.gone.length:Int) then (7,t)
  else (0,⟨t.root,t.sealed,mset t.gone a true,t.at_.filter fun p => !decide (p.1.tenant=a)⟩)
theorem des_fold (K : Nat) (a : List UInt8) : ∀ (l s : List (S_keys_purpose × Int)), NDK s →
    mfold (keys_Tree_Destroy.m1 K a) l s=some (.go (s.filter fun p => !(decide (p.1.tenant=a) && decide (p.1 ∈ l.map (·.1)))))
  | [],s,_=>by
    show some _=_
    congr 2;symm;exact List.filter_eq_self.2 fun p _=>by simp
  | x :: l,s,hs=>by
    have hB:keys_Tree_Destroy.m1 K a x s=some (.go (s.filter fun p => !(decide (p.1.tenant=a) && decide (p.1=x.1)))):=by
      unfold keys_Tree_Destroy.m1
      by_cases h:x.1.tenant=a
      · show (if decide (x.1.tenant=a)=true then _ else _)=_
        rw [if_pos (by simpa using h),mdel_eq hs,Option.bind_some]
        congr 2
        apply List.filter_congr
        intro p _
        by_cases e:p.1=x.1
        · simp [e,h]
        · simp [e]
      · show (if decide (x.1.tenant=a)=true then _ else _)=_
        rw [if_neg (by simpa using h)]
        congr 2;symm
        refine List.filter_eq_self.2 fun p _=>?_
        by_cases e:p.1=x.1
        · simp [e,h]
        · simp [e]
    simp only [mfold,hB,Option.bind_some,lrc]
    rw [des_fold K a l _ (filter_nd _ hs),List.filter_filter]
    congr 2
    apply List.filter_congr
    intro p _
    rw [Bool.eq_iff_iff]
    simp only [Bool.and_eq_true,Bool.not_eq_true',Bool.and_eq_false_iff,decide_eq_false_iff_not,List.map_cons,List.mem_cons]
    generalize (p.1.tenant=a)=A;generalize (p.1=x.1)=E;generalize (p.1 ∈ l.map (·.1))=M
    by_cases A <;> by_cases E <;> by_cases M <;> simp [*]
theorem des_eq (K : Nat) (t : PT) (hn : NDK t.at_) (a : List UInt8) : keys_Tree_Destroy K t a = some (desTS t a) := by
  unfold keys_Tree_Destroy desTS
  rw [IsName_eq,Option.bind_some]
  cases nameS a with
  | false=>rfl
  | true =>
    rw [if_neg (by simp),if_neg (show ¬ (true=false) by decide)]
    by_cases h1:(mget t.gone a).getD false=true
    · rw [if_pos h1,if_pos h1]
    · rw [if_neg h1,if_neg h1]
      by_cases h2:16≤(t.gone.length:Int)
      · rw [if_pos h2,if_pos (by simpa using h2)]
      · rw [if_neg h2,if_neg (by simpa using h2),Option.bind_some]
        refine mrngK_eq fun l hl=>?_
        rw [des_fold K a l _ hn,Option.bind_some]
        show some _=some _
        congr 3
        apply List.filter_congr
        intro p hp
        have:p.1 ∈ l.map (·.1):=List.mem_map.2 ⟨p,hl.mem_iff.2 hp,rfl⟩
        simp [this]
theorem rdes_l1 (r : RT) (a : List UInt8) (hb : r.l.length ≤ 16) : ∀ (n i k : Nat) (out : List S_holdfastref09_version), i + n = r.l.length → n < k → out.length ≤ i →
    holdfastref09_Tree_Destroy.l1 k r a out (i:Int)=some (out++(r.l.drop i).filter fun v => !decide (v.tenant=a))
  | 0,i,k + 1,out,h,_,_=>by
    rw [holdfastref09_Tree_Destroy.l1,if_neg (by simp;omega),List.drop_of_length_le (by omega)];simp
  | n + 1,i,k + 1,out,h,hk,ho=>by
    have hd:r.l.drop i=r.l.getD i default :: r.l.drop (i + 1):=drop_succ' default (by omega)
    rw [holdfastref09_Tree_Destroy.l1,if_pos (by simp;omega)]
    simp only [gt_nat (xs:=r.l) (i:=i) default (by omega),Option.bind_some]
    rw [hd]
    by_cases h1:(!decide ((r.l.getD i default).tenant=a))=true
    · rw [if_pos h1,app_ok (by simp;omega),Option.bind_some,W_succ (by omega),rdes_l1 r a hb n (i + 1) k _ (by omega) (by omega) (by simp;omega),List.filter_cons_of_pos (p:=fun v:S_holdfastref09_version => !decide (v.tenant=a)) h1,List.append_assoc];rfl
    · rw [if_neg h1,W_succ (by omega),rdes_l1 r a hb n (i + 1) k _ (by omega) (by omega) (by omega),List.filter_cons_of_neg (p:=fun v:S_holdfastref09_version => !decide (v.tenant=a)) h1]
def rdesS (t : PT) (r : RT) (a : List UInt8) : Int × RT :=
  if nameS a=false then (8,r) else if (mget t.gone a).getD false=true then (12,r) else if 16≤(t.gone.length:Int) then (7,r)
  else (0,⟨r.root,r.sealed,r.gone++[a],r.l.filter fun v => !decide (v.tenant=a)⟩)
theorem Rel.rdes (h : Rel t r) (K : Nat) (a : List UInt8) (hK : 100 ≤ K) (ha : a.length < K) (ba : a.length < 4611686018427387904) : holdfastref09_Tree_Destroy K r a = some (rdesS t r a) := by
  have hl:=h.rl;have hg:=h.rg
  have he:r.gone.length=t.gone.length:=by rw [h.gk,List.length_map]
  unfold holdfastref09_Tree_Destroy rdesS
  rw [refIsName_eq K a ha ba,Option.bind_some]
  cases nameS a with
  | false=>rfl
  | true =>
    rw [if_neg (by simp),if_neg (show ¬ (true=false) by decide),show (⟨r.root,r.sealed,r.gone,r.l⟩ : RT)=r from rfl,isGone_eq K r a (by omega) (by omega),Option.bind_some,← h.isgone a]
    by_cases h1:(mget t.gone a).getD false=true
    · rw [if_pos h1,if_pos h1]
    · rw [if_neg h1,if_neg h1,he]
      by_cases h2:16≤(t.gone.length:Int)
      · rw [if_pos h2,if_pos (by simpa using h2)]
      · rw [if_neg h2,if_neg (by simpa using h2),Option.bind_some,app_ok (by simp;omega),Option.bind_some,show (0:Int)=((0:Nat):Int) from rfl,rdes_l1 r a hl r.l.length 0 K [] (by omega) (by omega) (by simp),Option.bind_some]
        rfl
theorem Rel.des (h : Rel t r) (a : List UInt8) : (desTS t a).1 = (rdesS t r a).1 ∧ Rel (desTS t a).2 (rdesS t r a).2 := by
  unfold desTS rdesS
  cases hn:nameS a with
  | false=>exact ⟨rfl,h⟩
  | true =>
    rw [if_neg (show ¬ (true=false) by decide),if_neg (show ¬ (true=false) by decide)]
    by_cases h1:(mget t.gone a).getD false=true
    · rw [if_pos h1,if_pos h1];exact ⟨rfl,h⟩
    · rw [if_neg h1,if_neg h1]
      by_cases h2:16≤(t.gone.length:Int)
      · rw [if_pos h2,if_pos h2];exact ⟨rfl,h⟩
      · rw [if_neg h2,if_neg h2]
        have hk:a ∉ t.gone.map (·.1):=fun hm=>by
          have:=h.isgone a
          rw [h.gk] at this
          exact h1 (by rw [this];exact decide_eq_true hm)
        refine ⟨rfl,⟨h.root,h.len,h.sealed,h.s0,h.s1,?_,?_,mset_nd h.gn,?_,filter_nd _ h.an,?_,?_,?_⟩⟩
        · show r.gone++[a]=(mset t.gone a true).map (·.1)
          rw [mset_keys,if_neg hk,h.gk]
        · intro p hp
          rcases mset_mem h.gn hp with rfl | ⟨hp,_⟩
          · exact ⟨rfl,hn⟩
          · exact h.gt p hp
        · have:=mset_len t.gone a true
          show (mset t.gone a true).length≤16
          omega
        · exact Nat.le_trans (List.length_filter_le _ _) h.al
        · intro p hp;exact h.aw p (List.mem_filter.1 hp).1
        · have e:(t.at_.filter (fun p => !decide (p.1.tenant=a))).map toV=(t.at_.map toV).filter fun v => !decide (v.tenant=a):=by
            rw [List.filter_map];rfl
          show ((t.at_.filter (fun p => !decide (p.1.tenant=a))).map toV).Perm _
          rw [e];exact h.ap.filter _
/-! Key, Seal, Open, Reseal -/
structure Bd2 (K : Nat) (a b : List UInt8) : Prop where
  la:a.length < K
  lb:b.length < K
  ba:a.length < 4611686018427387904
  bb:b.length < 4611686018427387904
theorem Rel.rkey (h : Rel t r) (k : Nat) (a b : List UInt8) (hB : Bd2 (k + 1200) a b) (n : Int) : holdfastref09_Tree_Key (k + 1200) r a b n = some (keyAS t a b n) := by
  unfold holdfastref09_Tree_Key keyAS
  rw [show (⟨r.root,r.sealed,r.gone,r.l⟩ : RT)=r from rfl,h.rcur (k + 1200) a b (by omega) hB.la hB.lb hB.ba hB.bb,Option.bind_some]
  by_cases hc:(curS t a b).2=0
  · rw [if_neg (show ¬ (curS t a b).2 ≠ 0 by simp [hc]),if_neg (show ¬ (!decide ((curS t a b).2=0))=true by simp [hc])]
    obtain ⟨ha,hb,_,h1,h16⟩:=cur_ok h.wf hc
    by_cases hn:n < 1 ∨ (curS t a b).1 < n
    · rw [if_pos hn,if_pos (by simpa using hn)];rfl
    · rw [if_neg hn,if_neg (by simpa using hn)]
      have e:n=(n.toNat:Int):=by omega
      have:=refnum_v (k + 1180) n.toNat (by omega) (by omega)
      rw [show k + 1180 + 20=k + 1200 from rfl] at this
      rw [e,this,Option.bind_some,Option.bind_some]
      simp only [Int.toNat_natCast]
      rw [h.root,refderive_eq k t.root a b n.toNat h.len ha hb (by omega) (by omega)];rfl
  · rw [if_pos (show (curS t a b).2 ≠ 0 from hc),if_pos (by simpa using hc)];rfl
theorem Rel.rseal (h : Rel t r) (k : Nat) (a b : List UInt8) (hB : Bd2 (k + 1200) a b) (p : List UInt8) :
    ∃ r',holdfastref09_Tree_Seal (k + 1200) r a b p=some ((sealTS t a b p).1,(sealTS t a b p).2.1,r')∧Rel (sealTS t a b p).2.2 r':=by
  unfold holdfastref09_Tree_Seal sealTS
  rw [show (⟨r.root,r.sealed,r.gone,r.l⟩ : RT)=r from rfl,h.rcur (k + 1200) a b (by omega) hB.la hB.lb hB.ba hB.bb,Option.bind_some]
  by_cases hc:(curS t a b).2=0
  · obtain ⟨ha,hb,_,h1,h16⟩:=cur_ok h.wf hc
    rw [if_neg (show ¬ (curS t a b).2 ≠ 0 by simp [hc]),if_neg (show ¬ (!decide ((curS t a b).2=0))=true by simp [hc]),h.rkey k a b hB]
    have hk:keyAS t a b (curS t a b).1=(keyS t.root a b (curS t a b).1.toNat,0):=by
      unfold keyAS;rw [if_neg (by simp [hc]),if_neg (by omega)]
    rw [hk,Option.bind_some,h.sealed,refSeal_any (k + 1200) (by omega) _ (keyS_len _ _ _ _),Option.bind_some]
    generalize hs:sealA (keyS t.root a b (curS t a b).1.toNat) (iU64 t.sealed) p=s
    have hl:s.1.length≤1048:=by rw [← hs];exact sealA_len _ _ _
    by_cases h2:s.2=0
    · rw [if_neg (show ¬ s.2 ≠ 0 by simp [h2]),if_neg (show ¬ (!decide (s.2=0))=true by simp [h2])]
      by_cases h3:1099511627776≤t.sealed
      · rw [if_pos h3,if_pos (by simpa using h3)];exact ⟨_,rfl,h⟩
      · rw [if_neg h3,if_neg (by simpa using h3),Option.bind_some,app_ok (by simp;omega),Option.bind_some]
        have hw:W (t.sealed + 1)=t.sealed + 1:=L.W_id (by have:=h.s0;omega) (by omega)
        have h0:=h.s0
        refine ⟨_,rfl,⟨h.root,h.len,rfl,?_,?_,h.gk,h.gt,h.gn,h.gl,h.an,h.al,h.aw,h.ap⟩⟩
        · show 0≤W (t.sealed + 1);omega
        · show W (t.sealed + 1)≤1099511627776;omega
    · rw [if_pos (show s.2 ≠ 0 from h2),if_pos (by simpa using h2)];exact ⟨_,rfl,h⟩
  · rw [if_pos (show (curS t a b).2 ≠ 0 from hc),if_pos (by simpa using hc)];exact ⟨_,rfl,h⟩
theorem Rel.ropen (h : Rel t r) (k : Nat) (a b : List UInt8) (hB : Bd2 (k + 1200) a b) (s : List UInt8) (hs : s.length < 1000000000000000) : holdfastref09_Tree_Open (k + 1200) r a b s = some (openTS t a b s) := by
  unfold holdfastref09_Tree_Open openTS
  rw [show (⟨r.root,r.sealed,r.gone,r.l⟩ : RT)=r from rfl,h.rcur (k + 1200) a b (by omega) hB.la hB.lb hB.ba hB.bb,Option.bind_some]
  by_cases hc:(curS t a b).2=0
  · rw [if_neg (show ¬ (curS t a b).2 ≠ 0 by simp [hc]),if_neg (show ¬ (!decide ((curS t a b).2=0))=true by simp [hc])]
    cases s with
    | nil=>rfl
    | cons v s =>
      rw [if_neg (by simp;omega),show L.gt (v :: s) (0:Int)=some v from rfl,Option.bind_some,h.rkey k a b hB,Option.bind_some]
      dsimp only
      by_cases h2:(keyAS t a b (v.toNat:Int)).2=0
      · rw [if_neg (show ¬ (keyAS t a b (v.toNat:Int)).2 ≠ 0 by simp [h2]),if_neg (show ¬ (!decide ((keyAS t a b (v.toNat:Int)).2=0))=true by simp [h2])]
        rw [sub_ok (by omega) (by simp;omega) (by omega),Option.bind_some]
        have e:((v :: s).take ((v :: s).length:Int).toNat).drop (1:Int).toNat=s:=by simp
        rw [e,refOpen_eq (k + 1200) (by omega) _ (keyAS_len _ _ _ _) s (by simp at hs;omega),Option.bind_some]
        by_cases h3:(openS (keyAS t a b (v.toNat:Int)).1 s).2.2=0
        · rw [if_neg (show ¬ (openS (keyAS t a b (v.toNat:Int)).1 s).2.2 ≠ 0 by simp [h3]),if_neg (by simp [h3])];rfl
        · rw [if_pos (show (openS (keyAS t a b (v.toNat:Int)).1 s).2.2 ≠ 0 from h3),if_pos (by simpa using h3)]
      · rw [if_pos (show (keyAS t a b (v.toNat:Int)).2 ≠ 0 from h2),if_pos (by simpa using h2)]
  · rw [if_pos (show (curS t a b).2 ≠ 0 from hc),if_pos (by simpa using hc)]
def reseTS (t : PT) (a b s : List UInt8) : List UInt8 × Bool × Int × PT :=
  if (openTS t a b s).2.2 ≠ 0 then ([],false,(openTS t a b s).2.2,t) else if (curS t a b).1=(openTS t a b s).2.1 then (s,false,0,t)
  else ((sealTS t a b (openTS t a b s).1).1,decide ((sealTS t a b (openTS t a b s).1).2.1=0),(sealTS t a b (openTS t a b s).1).2.1,(sealTS t a b (openTS t a b s).1).2.2)
theorem rese_eq (k : Nat) (t : PT) (hr : t.root.length = 32) (hw : WF t) (a b s : List UInt8) (hs : s.length ≤ 140737488355328) : keys_Tree_Reseal (k + 1200) t a b s = some (reseTS t a b s) := by
  unfold keys_Tree_Reseal reseTS
  rw [show (⟨t.root,t.sealed,t.gone,t.at_⟩ : S_keys_Tree)=t from rfl,openT_eq k t hr hw a b s (by omega),Option.bind_some]
  by_cases h1:(openTS t a b s).2.2=0
  · rw [if_neg (show ¬ (openTS t a b s).2.2 ≠ 0 by simp [h1]),if_neg (by simp [h1]),cur_eq,Option.bind_some]
    by_cases h2:(curS t a b).1=(openTS t a b s).2.1
    · rw [if_pos h2,if_pos (by simpa using h2)]
      unfold bytes_Clone
      rw [app_ok (by simpa using hs),Option.bind_some];rfl
    · rw [if_neg h2,if_neg (by simpa using h2),sealT_eq k t hr hw,Option.bind_some]
  · rw [if_pos (show (openTS t a b s).2.2 ≠ 0 from h1),if_pos (by simpa using h1)]
theorem Rel.rrese (h : Rel t r) (k : Nat) (a b : List UInt8) (hB : Bd2 (k + 1200) a b) (s : List UInt8) (hs : s.length ≤ 140737488355328) :
    ∃ r',holdfastref09_Tree_Reseal (k + 1200) r a b s=some ((reseTS t a b s).1,(reseTS t a b s).2.1,(reseTS t a b s).2.2.1,r')∧Rel (reseTS t a b s).2.2.2 r':=by
  unfold holdfastref09_Tree_Reseal reseTS
  rw [show (⟨r.root,r.sealed,r.gone,r.l⟩ : RT)=r from rfl,h.ropen k a b hB s (by omega),Option.bind_some]
  by_cases h1:(openTS t a b s).2.2=0
  · rw [if_neg (show ¬ (openTS t a b s).2.2 ≠ 0 by simp [h1]),if_neg (show ¬ (!decide ((openTS t a b s).2.2=0))=true by simp [h1]),h.rcur (k + 1200) a b (by omega) hB.la hB.lb hB.ba hB.bb,Option.bind_some]
    by_cases h2:(curS t a b).1=(openTS t a b s).2.1
    · rw [if_pos h2,if_pos (by simpa using h2),app_ok (by simpa using hs),Option.bind_some];exact ⟨_,rfl,h⟩
    · rw [if_neg h2,if_neg (by simpa using h2)]
      obtain ⟨r',h3,h4⟩:=h.rseal k a b hB (openTS t a b s).1
      rw [h3,Option.bind_some];exact ⟨_,rfl,h4⟩
  · rw [if_pos (show (openTS t a b s).2.2 ≠ 0 from h1),if_pos (by simpa using h1)];exact ⟨_,rfl,h⟩
/-! lengths -/
theorem sealTS_len (t : PT) (a b p : List UInt8) : (sealTS t a b p).1.length ≤ 1049 := by
  unfold sealTS
  split
  · simp
  · split
    · simp
    · split
      · simp
      · have:=sealA_len (keyS t.root a b (curS t a b).1.toNat) (iU64 t.sealed) p
        simp only [List.length_cons];omega
theorem openTS_len (t : PT) (a b s : List UInt8) : (openTS t a b s).1.length ≤ 1024 := by
  unfold openTS
  split
  · simp
  · split
    · simp
    · split
      · simp
      · split
        · simp
        · exact openS_len _ _
theorem reseTS_len (t : PT) (a b s : List UInt8) : (reseTS t a b s).1.length ≤ s.length + 1049 := by
  unfold reseTS
  split
  · simp
  · split
    · simp
    · have:=sealTS_len t a b (openTS t a b s).1
      simp only;omega
end Go.Proofs.YtjgbakieogadfabGreatDoor
