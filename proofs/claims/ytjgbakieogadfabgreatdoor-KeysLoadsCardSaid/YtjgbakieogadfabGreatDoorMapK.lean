/-
  Joined by strip.py from plain texts of another seat.
-/
import Derived.Test.YtjgbakieogadfabGreatDoorPure
namespace Go.Proofs.YtjgbakieogadfabGreatDoor
open Go L Go.Sort
/-! maps as lists of pairs -/
section
variable {κ β:Type} [DecidableEq κ]
def NDK (m:List (κ×β)):Prop:=(m.map (·.1)).Nodup
theorem mget_none {m:List (κ×β)} {a:κ} : mget m a=none ↔ a ∉ m.map (·.1):=by
  induction m with
  | nil=>simp [mget]
  | cons x m ih =>
    simp only [mget,List.map_cons,List.mem_cons,not_or]
    split
    · rename_i h;subst h;simp
    · rename_i h;rw [ih];exact ⟨fun k=>⟨fun e=>h e.symm,k⟩,fun k=>k.2⟩
theorem mget_mem {m:List (κ×β)} {a:κ} {v:β} (h:mget m a=some v):(a,v) ∈ m:=by
  induction m with
  | nil=>simp [mget] at h
  | cons x m ih =>
    simp only [mget] at h
    split at h
    · rename_i hx;cases h;subst hx;exact List.mem_cons_self
    · exact List.mem_cons_of_mem _ (ih h)
theorem mem_mget {m:List (κ×β)} {a:κ} {v:β} (hn:NDK m) (h:(a,v) ∈ m):mget m a=some v:=by
  induction m with
  | nil=>cases h
  | cons x m ih =>
    unfold NDK at hn;rw [List.map_cons,List.nodup_cons] at hn
    simp only [mget]
    rcases List.mem_cons.1 h with rfl | h
    · rw [if_pos rfl]
    · rw [if_neg (fun e=>hn.1 (List.mem_map.2 ⟨_,h,e.symm⟩))];exact ih hn.2 h
theorem mset_keys (m:List (κ×β)) (a:κ) (v:β):(mset m a v).map (·.1)=if a ∈ m.map (·.1) then m.map (·.1) else m.map (·.1) ++ [a]:=by
  induction m with
  | nil=>simp [mset]
  | cons x m ih =>
    simp only [mset]
    split
    · rename_i h;subst h;simp
    · rename_i h
      simp only [List.map_cons,ih,List.mem_cons]
      by_cases ha:a ∈ m.map (·.1)
      · rw [if_pos ha,if_pos (.inr ha)]
      · rw [if_neg ha,if_neg (by rintro (e | e);exact h e.symm;exact ha e)];rfl
theorem mset_nd {m:List (κ×β)} {a:κ} {v:β} (h:NDK m):NDK (mset m a v):=by
  unfold NDK at *;rw [mset_keys];split
  · exact h
  · rename_i ha
    rw [List.nodup_append]
    exact ⟨h,by simp,fun x hx y hy=>by simp at hy;subst hy;exact fun e=>ha (e ▸ hx)⟩
theorem mset_len (m:List (κ×β)) (a:κ) (v:β):(mset m a v).length≤m.length+1:=by
  have:=congrArg List.length (mset_keys m a v)
  rw [List.length_map] at this;rw [this];split <;> simp
theorem mdel_eq {m:List (κ×β)} {a:κ} (h:NDK m):mdel m a=m.filter fun p=>decide (p.1 ≠ a):=by
  induction m with
  | nil=>rfl
  | cons x m ih =>
    unfold NDK at h;rw [List.map_cons,List.nodup_cons] at h
    simp only [mdel]
    split
    · rename_i hx
      rw [List.filter_cons_of_neg (by simp [hx])]
      exact (List.filter_eq_self.2 fun p hp=>by
        simp only [ne_eq,decide_not,Bool.not_eq_true',decide_eq_false_iff_not]
        exact fun e=>h.1 (List.mem_map.2 ⟨p,hp,by rw [e,hx]⟩)).symm
    · rename_i hx
      rw [List.filter_cons_of_pos (by simpa using hx),ih h.2]
omit [DecidableEq κ] in
theorem filter_nd {m:List (κ×β)} (p:κ×β→Bool) (h:NDK m):NDK (m.filter p) :=
  h.sublist (List.filter_sublist.map _)
end
/-! going through a map -/
section
variable {γ σ ρ:Type}
end
/-! sorting -/
/-! names -/
theorem dw_nil {p:UInt8→Bool} : ∀ (l:List UInt8),l.dropWhile p=[] ↔ l.all p=true
  | []=>by simp
  | x :: l=>by
    rw [List.dropWhile_cons,List.all_cons]
    split
    · rename_i h;rw [dw_nil l,h,Bool.true_and]
    · rename_i h;simp [h]
def nameS (s:List UInt8):Bool:=!decide (s=[])&&decide (s.length≤9)&&s.all fun c=>(([97,98,99,100,101,102,103,104,105,106,107,108,109,110,111,112,113,114,115,116,117,118,119,120,121,122,48,49,50,51,52,53,54,55,56,57,45]:List UInt8)).contains c
theorem IsName_eq (K:Nat) (s:List UInt8):codec_IsName K s=some (nameS s):=by
  unfold codec_IsName nameS
  by_cases h:((!decide (s=([]:List UInt8)))&&(decide ((s.length:Int)≤(9:Int))))=true
  · rw [if_pos h]
    simp only [Bool.and_eq_true,Bool.not_eq_true',decide_eq_false_iff_not,decide_eq_true_eq] at h
    have h9:s.length≤9:=by omega
    unfold strings_Trim
    rw [if_pos ⟨by decide,by omega,by decide⟩]
    simp only [Option.bind_some,h.1,decide_false,Bool.not_false,h9,decide_true,Bool.true_and]
    congr 1
    rw [Bool.eq_iff_iff,decide_eq_true_eq]
    unfold Go.Lib.trimS Go.Lib.trimLeftS
    rw [dw_nil]
    unfold Go.Lib.trimRightS
    rw [List.all_reverse]
    generalize ([97,98,99,100,101,102,103,104,105,106,107,108,109,110,111,112,113,114,115,116,117,118,119,120,121,122,48,49,50,51,52,53,54,55,56,57,45]:List UInt8)=cs
    constructor
    · intro ha
      have hd:(s.reverse.dropWhile (cs.contains ·)).all (cs.contains ·)=true:=ha
      have:s.reverse.all (cs.contains ·)=true:=by
        have h2:=List.takeWhile_append_dropWhile (p:=(cs.contains ·)) (l:=s.reverse)
        rw [← h2,List.all_append,hd,Bool.and_true]
        exact List.all_takeWhile
      rwa [List.all_reverse] at this
    · intro ha
      have:s.reverse.dropWhile (cs.contains ·)=[]:=(dw_nil _).2 (by rw [List.all_reverse];exact ha)
      rw [this];rfl
  · rw [if_neg h]
    simp only [Option.bind_some]
    congr 1
    symm
    simp only [Bool.and_eq_true,Bool.not_eq_true',decide_eq_false_iff_not,decide_eq_true_eq,not_and] at h
    by_cases h1:s=[]
    · simp [h1]
    · have:=h h1
      have h9 : ¬ s.length≤9:=by omega
      simp [h9]

end Go.Proofs.YtjgbakieogadfabGreatDoor
