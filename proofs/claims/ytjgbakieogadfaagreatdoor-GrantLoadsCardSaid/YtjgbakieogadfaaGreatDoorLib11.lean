/-
  Bytes and texts;an array value's element. No program in sight.
-/
import Derived.Test.YtjgbakieogadfaaGreatDoorLib10
import Derived.Laws.IdiomStrings
namespace Go.Proofs.YtjgbakieogadfaaGreatDoor.L
open Go
section
variable {P : Program} {f : Fr} {w : World} {c : Col} {o : Oper} {R : Value → World → Prop} {x y : Operand} {v u p q : Value}
theorem fl_get1 {α : Type} {E : Enc α} {xs : List α} {k : Nat} {a : α} (h1 : E.sz = 1) (h : xs[k]? = some a) (he : E.e a = [u]) : (fl E xs)[k]? = some u := by
  have:=fl_get (E:=E) xs k a h 0 u (by simp [he])
  rwa [h1,Nat.mul_one,Nat.add_zero] at this
theorem OS.bytesToStr {i : Nat} {xs : List UInt8} {s t e : TypeId} (ho : o.op = .convert s t x) (hs : P.underlying s = some (.slice e)) (he : P.underlying e = some (.int .u8)) (ht : P.underlying t = some .string) (hx : ev f x = v)
    (hv:Vw (eU8 e) i w c v xs) (h:R (vS xs) w):OS P o f w R:=by
  refine OS.val (v:=vS xs) (w':=w) ?_ h
  unfold execOp;rw [ho]
  rcases hv with ⟨rfl | ⟨a0,q0,rfl⟩,rfl⟩ | ⟨b,off,cap,cs,T,fz,h1,h2,h3,h4,h5⟩
  · have hr:(convert s t (.slice none 0 0)).run P w = .ok (vS []) w:=by
      rw [run_convert_bytes_string w s t e none 0 0 hs he ht];simp [Conv.bytesToString];rfl
    simp [hx,hr]
  · have hr:=run_convert_bytes_back (P:=P) w s t e a0 q0 [] hs he ht (fun j hj=>by simp at hj)
    simp only [List.length_nil] at hr
    simp [hx,hr]
  · have hr:=run_convert_bytes_back (P:=P) w s t e ⟨b,off,none⟩ cap xs hs he ht (fun j hj=>by
      rw [Addr.add_lit,cell_of_row w b _ cs T fz h4]
      exact h5 j _ (fl_get1 rfl (List.getElem?_eq_getElem hj) rfl))
    simp [hx,h1,hr]
theorem OS.strToBytes {xs : List UInt8} {s t e : TypeId} (i : Nat) (ho : o.op = .convert s t x) (hs : P.underlying s = some .string) (ht : P.underlying t = some (.slice e)) (he : P.underlying e = some (.int .u8)) (hx : ev f x = vS xs)
    (h:∀ v w' c',Vw (eU8 e) i w' c' v xs→St [] w c w' c'→R v w'):OS P o f w R:=by
  have hr:=run_bytes_of_string (P:=P) w s t e ⟨xs.toArray⟩ hs ht he
  refine OS.val (by unfold execOp;rw [ho];simp only [hx,Sem.run_bind,hr,Result.andThen_ok];rfl) (h _ _ (pc c w.heap.size i) (.inr ⟨w.heap.size,0,_,_,_,_,rfl,?_,pc_same,heap_alloc_new w.drew _,fun j u hu=>?_⟩) (((St.drew (w:=w) (c:=c)).t (St.alloc _ i)).mono (by simp)))
  · have:=grownCap_ge w xs.length 0 e;exact this
  · have hj:j < xs.length:=by
      rcases Nat.lt_or_ge j xs.length with h | h
      · exact h
      · rw [List.getElem?_eq_none (by rw [fl_length];show xs.length * 1≤j;omega)] at hu;cases hu
    have h1:=fl_get1 (E:=eU8 e) (u:=vU8 xs[j]) rfl (List.getElem?_eq_getElem hj) rfl
    rw [h1] at hu;cases hu
    rw [Nat.zero_add]
    unfold bytesRow
    rw [Array.getElem?_append_left (by simpa using hj)]
    simp [hj]
theorem Vw.recol {α : Type} {E : Enc α} {i : Nat} {xs : List α} (h : Vw E i w c v xs) (j : Nat) : ∃ c', St [i] w c w c' ∧ Vw E j w c' v xs := by
  rcases h with h | ⟨b,off,cap,cs,T,fz,h1,h2,h3,h4,h5⟩
  · exact ⟨c,St.refl.mono (by simp),.inl h⟩
  · have hs:=St.recol (w:=w) (c:=c) b j
    rw [h3] at hs
    exact ⟨_,hs,.inr ⟨b,off,cap,cs,T,fz,h1,h2,pc_same,h4,h5⟩⟩
def LdC (i : Nat) (w : World) (c : Col) (p : Value) (us : List Value) : Prop :=
  ∃ b o cs T fz,p = .pointer (some ⟨b,o,none⟩)∧c b=i∧w.heap[b]?=some (.cells cs T fz)∧∀ (j:Nat) (u:Value),us[j]?=some u→cs[o + j]?=some u
theorem LdC.keep {i : Nat} {I : List Nat} {w' : World} {c' : Col} {us : List Value} (h : LdC i w c p us) (s : St I w c w' c') (hi : i ∉ I := by decide) : LdC i w' c' p us := by
  obtain ⟨b,o,cs,T,fz,h1,h2,h3,h4⟩:=h
  have hn:c b ∉ I:=by rw [h2];exact hi
  exact ⟨b,o,cs,T,fz,h1,by rw [s.col b (blk_lt h3) hn,h2],by rw [s.blk b (blk_lt h3) hn,h3],h4⟩
theorem LdC.ld {i : Nat} {us : List Value} (h : LdC i w c p us) : Ld w p us := by
  obtain ⟨b,o,cs,T,fz,h1,h2,h3,h4⟩:=h
  exact ⟨b,o,h1,fun j u hu=>by rw [cell_of_row w b _ cs T fz h3];exact h4 j u hu⟩
theorem fnQ.lsN {fn : Func} {Rr : Ending → World → Prop} (hr : fn.results = #[]) (h : Rr (.returned (.tuple #[])) w) : fnQ P fn Rr .normal f w := fnQ.ls (rs := []) (vs := []) (f := f) hr trivial h (by simp)
theorem fnQM.lsN {fn : Func} {Rr : Ending → World → Prop} {w' : World} (hr : fn.results = #[]) (ht : Taken P (dec (f fn.ntmps)) w w') (h : Rr (.returned (.tuple #[])) w') : fnQM P fn Rr .normal f w := fnQM.ls (rs := []) (vs := []) (f := f) hr ht trivial h (by simp)
end
end Go.Proofs.YtjgbakieogadfaaGreatDoor.L
