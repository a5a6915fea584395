/-
  The document's order of rows,and what it calls the same rows. Plain Lean.
-/
import Derived.Test.YtjgbakieogadfabGreatDoorSrtR
namespace Go.Proofs.YtjgbakieogadfabGreatDoor
open Go L Go.Sort
theorem srt_l2 (out l:List S_api_Row) (i:Nat) (hi:i<l.length) (ho:out.length<4611686018427387904) (k:Nat) (hk:out.length<k) :
    ∃ q:Nat,q≤out.length∧hr09_Sorted.l2 k out l (i:Int) (out.length:Int)=some (q:Int)∧(∀ y ∈ out.drop q,ltOf cfR l[i] y=true)∧∀ y,0<q→out[q-1]?=some y→ltOf cfR l[i] y=false:=by
  refine l2_spec (lt:=ltOf cfR) (x:=l[i]) (out:=out) (g:=fun k p=>hr09_Sorted.l2 k out l (i:Int) (p:Int)) (fun k=>?_) (fun k p hp=>?_) k out.length (Nat.le_refl _) hk (by simp)
  · rw [hr09_Sorted.l2,if_neg (by simp)];rfl
  · rw [hr09_Sorted.l2,if_pos (decide_eq_true (by omega)),wpred (by omega) (by omega),Nat.add_sub_cancel,gtn hp,Option.bind_some,gtn hi,Option.bind_some,gtS_eq,ltR]
theorem Sorted_eq (K:Nat) (l:List S_api_Row) (hl:l.length≤1759218604441) (hK:l.length<K) (hn:(l.map (·.Key)).Nodup):hr09_Sorted K l=some (sortS cfR l):=by
  have key:=l1_spec (lt:=ltOf cfR) (n:=l.length) (sel:=fun i=>(l[i]?).elim [] fun y=>[y]) (g:=fun k i out=>hr09_Sorted.l1 K k l out (i:Int))
    (fun k out=>by rw [hr09_Sorted.l1,if_neg (by simp)])
    (fun k i out hi ho hs=>by
      obtain ⟨q,h1,h2,h3,h4⟩:=srt_l2 out l i hi (by omega) K (by omega)
      refine ⟨out.take q++[l[i]]++out.drop q,?_,ins_sd swoR hs h1 h3 h4,?_,?_⟩
      · rw [hr09_Sorted.l1,if_pos (by simpa using hi),h2,Option.bind_some,show sub out 0 (q:Int)=some ((out.take q).drop 0) from subn (Nat.zero_le _) h1,Option.bind_some,List.drop_zero,
          appn (by simp only [List.length_nil,List.length_take];omega),Option.bind_some,gtn hi,Option.bind_some,Option.bind_some,List.nil_append,
          appn (by simp only [List.length_take,List.length_cons,List.length_nil];omega),Option.bind_some,subn h1 (Nat.le_refl _),Option.bind_some,List.take_length,
          appn (by simp only [List.length_append,List.length_take,List.length_drop,List.length_cons,List.length_nil];omega),Option.bind_some,wsucc (by omega)]
      · rw [List.getElem?_eq_getElem hi];exact ins_perm _ _ _
      · simp only [List.length_append,List.length_take,List.length_drop,List.length_cons,List.length_nil];omega)
    l.length K 0 [] (by omega) hK (Nat.le_refl _) List.Pairwise.nil
  obtain ⟨r,h1,h2,h3⟩:=key
  rw [List.nil_append,range_sel (fun y=>[y]) l,List.flatMap_singleton'] at h3
  unfold hr09_Sorted
  rw [show hr09_Sorted.l1 K K l [] 0=some r from h1,Option.bind_some]
  rw [sd_sortS cfR swoR h2 h3 (key_injR hn)]
/-! the same rows -/
theorem texts_loop (a:List (List UInt8)) (hl:a.length<4611686018427387904):∀ (k i:Nat),i≤a.length→a.length<i+k→hr02_SameTexts.l1 k a a (i:Int)=some (.go ())
  | 0,i,h1,h2=>by omega
  | k+1,i,h1,h2=>by
    unfold hr02_SameTexts.l1
    by_cases hc:i<a.length
    · rw [if_pos (by simpa using hc),gtn hc,Option.bind_some,Option.bind_some,if_neg (by simp),wsucc (by omega)]
      exact texts_loop a hl k (i+1) (by omega) (by omega)
    · rw [if_neg (by simpa using hc)]
theorem texts_same (K:Nat) (a:List (List UInt8)) (hl:a.length<4611686018427387904) (hK:a.length<K):hr02_SameTexts K a a=some true:=by
  unfold hr02_SameTexts
  rw [if_neg (by simp),show hr02_SameTexts.l1 K a a 0=some (.go ()) from texts_loop a hl K 0 (by omega) (by omega)];rfl
theorem rows_loop (K:Nat) (a:List S_api_Row) (hl:a.length<4611686018427387904) (hr:∀ x ∈ a,x.Columns.length<4611686018427387904∧x.Columns.length<K):∀ (k i:Nat),i≤a.length→a.length<i+k→hr06_SameRows.l1 K k a a (i:Int)=some (.go ())
  | 0,i,h1,h2=>by omega
  | k+1,i,h1,h2=>by
    unfold hr06_SameRows.l1
    by_cases hc:i<a.length
    · have hx:=hr a[i] (List.getElem_mem _)
      simp only [gtn hc,Option.bind_some]
      rw [if_pos (by simpa using hc),if_neg (by simp),texts_same K _ hx.1 hx.2,Option.bind_some,if_neg (by simp),wsucc (by omega)]
      exact rows_loop K a hl hr k (i+1) (by omega) (by omega)
    · rw [if_neg (by simpa using hc)]
theorem rows_same (K:Nat) (a:List S_api_Row) (hl:a.length<4611686018427387904) (hK:a.length<K) (hr:∀ x ∈ a,x.Columns.length<4611686018427387904∧x.Columns.length<K):hr06_SameRows K a a=some true:=by
  unfold hr06_SameRows
  rw [if_neg (by simp),show hr06_SameRows.l1 K K a a 0=some (.go ()) from rows_loop K a hl hr K 0 (by omega) (by omega)];rfl
theorem sortS_same (K:Nat) (n:Nat) (a:List S_api_Row) (hl:a.length<4611686018427387904) (hK:a.length<K) (hn:n<4611686018427387904) (hnK:n<K) (hr:∀ x ∈ a,x.Columns.length≤n):hr06_SameRows K (sortS cfR a) (sortS cfR a)=some true:=by
  have p:=(sortS_sorted cfR swoR a).1
  have e:=p.length_eq
  exact rows_same K _ (by omega) (by omega) fun x hx=>⟨Nat.lt_of_le_of_lt (hr x (p.mem_iff.1 hx)) hn,Nat.lt_of_le_of_lt (hr x (p.mem_iff.1 hx)) hnK⟩
end Go.Proofs.YtjgbakieogadfabGreatDoor
