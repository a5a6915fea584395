/-
  Joined by strip.py from plain texts of another seat.
-/
import Derived.Test.YtgmgahphjiiceaaGreatLib41
import Derived.Test.YtgmgahphjiiceaaGreatTypes
namespace Go.Proofs.YtgmgahphjiiceaaGreat
open Go Go.Proofs L Go.RowKit Go.Lib
set_option linter.unusedVariables false
set_option linter.unusedSimpArgs false
set_option maxHeartbeats 4000000 in
set_option maxRecDepth 100000 in
theorem ins_shift (b off n c i vb voff m vc : Nat) (cs vs : List Value) (w : World) (hi : i < n) (hm : 0 < m) (hroom : n + m ≤ c) (hc63 : c ≤ 9223372036854775807) (hvb : vb ≠ b)
    (hcl:cs.length=n * 3) (hvl:vs.length=m * 3)
    (hcs:∀ j v,cs[j]?=some v→w.cell? ⟨b,off + j,none⟩=some v) (hsp:∀ j,j < (n + m) * 3→(w.cell? ⟨b,off + j,none⟩).isSome=true) (hfz:∀ j,j < (n + m) * 3→w.frozen? ⟨b,off + j,none⟩=false)
    (hvs:∀ j v,vs[j]?=some v→w.cell? ⟨vb,voff + j,none⟩=some v) (h1c:∀ v ∈ cs,v.oneCell'=true) (h1v:∀ v ∈ vs,v.oneCell'=true)
    (hov:∀ lb cb,(callFunc 69 #[.slice (some ⟨vb,voff,none⟩) m vc,.slice (some ⟨b,off + (i + m) * 3,none⟩) lb cb]).run Tryz.prog w = .ok (.value (.bool false)) w) :
    Calls Tryz.prog 32 #[.slice (some ⟨b,off,none⟩) n c,.int .i64 i,.slice (some ⟨vb,voff,none⟩) m vc] w fun e w' =>
      e = .returned (.slice (some ⟨b,off,none⟩) (n + m) c)∧w'=(w.drew.setCells b (off + (i + m) * 3) (cs.drop (i * 3))).setCells b (off + i * 3) vs:=by
  have t3:=Tryz.underlying3;have t4:=Tryz.underlying4;have t66:=Tryz.underlying66
  have a3:=Tryz.isAgg3;have z3:=Tryz.sizeOf3;have a4:=Tryz.isAgg4;have z4:=Tryz.sizeOf4;have z72:=Tryz.sizeOf72;have a66:=Tryz.isAgg66;have z66:=Tryz.sizeOf66
  have u3:=run_underlying t3;have u4:=run_underlying t4;have u66:=run_underlying t66
  have hz1 : ¬ ((m:Int)=0):=by omega
  have hz2 : ¬ ((i:Int)=(n:Int)):=by omega
  have hdl:(cs.drop (i * 3)).length=(n - i) * 3:=by rw [List.length_drop,hcl];omega
  have mixed:=hmix
  have hw1:IntKind.i64.wrap ((i:Int) + (m:Int))=(i:Int) + (m:Int):=by rw [IntKind.wrap_i64];omega
  have hb1:(0:Int)≤(i:Int) + (m:Int):=by omega
  have hin:i≤n:=by omega
  have htn:((i:Int) + (m:Int)).toNat=i + m:=by omega
  have hb2 : ¬ (c=i + m):=by omega
  have hb3:(i:Int)≤(n:Int) + (m:Int):=by omega
  have hb4 : ¬ (c=i):=by omega
  have hcp1:∀ ty dc sc,(Builtin.copy_ #[66,66] ty #[.slice (some ⟨b,off + (i + m) * 3,none⟩) (n + m - (i + m)) dc,.slice (some ⟨b,off + i * 3,none⟩) (n + m - i) sc]).run Tryz.prog w.drew = .ok (goInt ((n + m - i).min (n + m - (i + m)))) (w.drew.setCells b (off + (i + m) * 3) (cs.drop (i * 3))):=fun ty dc sc =>
    run_copy_cellsN w.drew _ _ ty 72 3 b (off + (i + m) * 3) (n + m - (i + m)) dc ⟨b,off + i * 3,none⟩ (n + m - i) sc (cs.drop (i * 3)) t66 z72 (by rw [hdl];simp only [Nat.min_def];split <;> omega)
      (fun j v hj=>by rw [Addr.add_lit,Nat.add_assoc];exact hcs (i * 3 + j) v (by rwa [List.getElem?_drop] at hj))
      (fun j hj=>by rw [Nat.add_assoc];exact hsp _ (by omega)) (fun j hj=>by rw [Nat.add_assoc];exact hfz _ (by omega)) (fun v hv=>h1c v (List.mem_of_mem_drop hv))
  obtain ⟨W1,hW1⟩ : ∃ W1,W1=w.drew.setCells b (off + (i + m) * 3) (cs.drop (i * 3)):=⟨_,rfl⟩
  have hsp1:∀ k,k < (n + m) * 3→(W1.cell? ⟨b,off + k,none⟩).isSome=true:=fun k hk=>by
    rw [hW1]
    exact isSome_setCells b _ _ _ (fun j hj=>by rw [Nat.add_assoc];exact hsp _ (by omega)) _ (hsp k hk)
  have hcp2:∀ (W:World),(∀ x,W.cell? x=W1.cell? x)→(∀ x,W.frozen? x=W1.frozen? x)→∀ ty dc,(Builtin.copy_ #[66,66] ty #[.slice (some ⟨b,off + i * 3,none⟩) (n + m - i) dc,.slice (some ⟨vb,voff,none⟩) m vc]).run Tryz.prog W = .ok (goInt (m.min (n + m - i))) (W.setCells b (off + i * 3) vs):=fun W hWc hWf ty dc =>
    run_copy_cellsN W _ _ ty 72 3 b (off + i * 3) (n + m - i) dc ⟨vb,voff,none⟩ m vc vs t66 z72 (by rw [hvl];simp only [Nat.min_def];split <;> omega)
      (fun j v hj=>by
        rw [Addr.add_lit,hWc,hW1,World.cell?_setCells_out b _ _ _ _ (fun h _=>absurd h hvb)]
        exact hvs j v hj)
      (fun j hj=>by rw [hWc,Nat.add_assoc];exact hsp1 _ (by omega)) (fun j hj=>by rw [hWf,hW1,World.frozen?_setCells,Nat.add_assoc];exact hfz _ (by omega)) h1v
  rw [← hW1] at hcp1
  go_enter Tryz.func32,Tryz.ntmps32
  go_wp2_with (simp only [hov])
  go_region_law_o (refine step_copy_runI rfl _ _ 66 66 rfl _ _ (by simp [Act.eval,Act.put]) (by simp [Act.eval,Act.put]) (hcp1 _ _ _) ?_)
  go_wp2_with (at_builtin;refine wpList_copy_runI _ rfl _ _ 66 66 rfl _ _ rfl rfl (hcp2 _ (fun _=>rfl) (fun _=>rfl) _ _) ?_)
  go_ret
  first | exact ⟨rfl,rfl⟩ | exact ⟨rfl,by rw [hW1]⟩
open Go Go.Proofs L Go.RowKit Go.Lib
set_option linter.unusedVariables false
set_option linter.unusedSimpArgs false
def zE : Array Value := #[.slice none 0 0, .slice none 0 0, .int .i64 0]
set_option maxHeartbeats 4000000 in
set_option maxRecDepth 100000 in
theorem ins_grow (b off n c i vb voff m vc : Nat) (cs vs : List Value) (w : World) (hi : i < n) (hm : 0 < m) (hnc : n ≤ c) (hroom : c < n + m) (hbig : (n + m) * 56 ≤ 140737488355328)
    (hcl:cs.length=n * 3) (hvl:vs.length=m * 3)
    (hcs:∀ j v,cs[j]?=some v→w.cell? ⟨b,off + j,none⟩=some v)
    (hvs:∀ j v,vs[j]?=some v→w.cell? ⟨vb,voff + j,none⟩=some v) (h1c:∀ v ∈ cs,v.oneCell'=true) (h1v:∀ v ∈ vs,v.oneCell'=true) :
    Calls Tryz.prog 32 #[.slice (some ⟨b,off,none⟩) n c,.int .i64 i,.slice (some ⟨vb,voff,none⟩) m vc] w fun e w' =>
      e = .returned (.slice (some ⟨w.heap.size,0,none⟩) (n + m) (grownCap w (n + m) c 72)) ∧
      w'=(((w.alloc (.cells ((cs.take (i * 3)).toArray++Builtin.zeroCells zE (n + m - i)++Builtin.zeroCells zE (grownCap w (n + m) c 72 - (n + m))) 72)).drew.setCells w.heap.size (i * 3) vs).drew).setCells w.heap.size ((i + m) * 3) (cs.drop (i * 3)):=by
  have t3:=Tryz.underlying3;have t4:=Tryz.underlying4;have t66:=Tryz.underlying66
  have a3:=Tryz.isAgg3;have z3:=Tryz.sizeOf3;have a4:=Tryz.isAgg4;have z4:=Tryz.sizeOf4;have z72:=Tryz.sizeOf72;have a66:=Tryz.isAgg66;have z66:=Tryz.sizeOf66
  have u3:=run_underlying t3;have u4:=run_underlying t4;have u66:=run_underlying t66
  have mixed:=hmix
  have hz1 : ¬ ((m:Int)=0):=by omega
  have hz2 : ¬ ((i:Int)=(n:Int)):=by omega
  have hz3:(c:Int) < (n:Int) + (m:Int):=by omega
  have hbw:b < w.heap.size:=block_lt_of_cell (hcs 0 _ (List.getElem?_eq_getElem (by omega)))
  have hvw:vb < w.heap.size:=block_lt_of_cell (hvs 0 _ (List.getElem?_eq_getElem (by omega)))
  have hkk:(n:Int) + (m:Int) - (i:Int)=((n + m - i:Nat):Int):=by omega
  have hik:i + (n + m - i)=n + m:=by omega
  have hold:(Builtin.firstCells 3 i (.slice (some ⟨b,off,none⟩) i c)).run Tryz.prog w.drew = .ok (cs.take (i * 3)).toArray w.drew:=by
    exact run_firstCells_some w.drew 3 i ⟨b,off,none⟩ i c (cs.take (i * 3)) (by rw [List.length_take];omega) (fun j v hj=>by
      rw [Addr.add_lit]
      rw [List.getElem?_take] at hj
      split at hj
      · exact hcs j v hj
      · cases hj)
  have hrz:∀ ty,(Builtin.append_ #[66,3] ty #[.slice (some ⟨b,off,none⟩) i c,.int .i64 ((n:Int) + (m:Int) - (i:Int))]).run Tryz.prog w =
      .ok (.slice (some ⟨w.heap.size,0,none⟩) (n + m) (grownCap w (n + m) c 72)) (w.drew.alloc (.cells ((cs.take (i * 3)).toArray++Builtin.zeroCells zE (n + m - i)++Builtin.zeroCells zE (grownCap w (n + m) c 72 - (n + m))) 72)):=fun ty=>by
    have h:=Lib.run_append_grow_zeros w 66 3 ty 72 Tryz.t72 (.agg zE) .i64 .i64 t66 t3 I72 rfl (some ⟨b,off,none⟩) i c (cs.take (i * 3)) hold (n + m - i) (by omega) (by decide) (by omega) (by omega) (by show (n + m - i) * 56≤_;omega) (by rw [hik];exact growslice_fits hroom hbig)
    rw [hik] at h
    rw [hkk]
    exact h
  obtain ⟨G,hG⟩ : ∃ G,G=grownCap w (n + m) c 72:=⟨_,rfl⟩
  obtain ⟨ROW,hROW⟩ : ∃ ROW:Array Value,ROW=(cs.take (i * 3)).toArray++Builtin.zeroCells zE (n + m - i)++Builtin.zeroCells zE (G - (n + m)):=⟨_,rfl⟩
  rw [← hG] at hrz ⊢
  rw [← hROW] at hrz ⊢
  have hRl:(n + m) * 3≤ROW.size:=by
    rw [hROW]
    simp [Builtin.zeroCells,zE]
    omega
  obtain ⟨W1,hW1⟩ : ∃ W1,W1=w.drew.alloc (.cells ROW 72):=⟨_,rfl⟩
  rw [← hW1] at hrz
  have hN:∀ j,j < (n + m) * 3→(W1.cell? ⟨w.heap.size,j,none⟩).isSome=true:=fun j hj=>by
    rw [hW1,World.cell?_alloc_at (w:=w.drew) ROW _ w.heap.size j rfl,Array.getElem?_eq_getElem (by omega)];rfl
  have hNf:∀ j,W1.frozen? ⟨w.heap.size,j,none⟩=false:=fun j=>by rw [hW1];exact World.frozen?_alloc_at (w:=w.drew) ROW _ w.heap.size j rfl
  have hOb:∀ j v,w.cell? ⟨b,j,none⟩=some v→W1.cell? ⟨b,j,none⟩=some v:=fun j v h=>by rw [hW1,World.cell?_alloc_past (w:=w.drew) _ b j hbw];exact h
  have hOv:∀ j v,w.cell? ⟨vb,j,none⟩=some v→W1.cell? ⟨vb,j,none⟩=some v:=fun j v h=>by rw [hW1,World.cell?_alloc_past (w:=w.drew) _ vb j hvw];exact h
  have hcpA:∀ (W:World),(∀ x,W.cell? x=W1.cell? x)→(∀ x,W.frozen? x=W1.frozen? x)→∀ ty dc,(Builtin.copy_ #[66,66] ty #[.slice (some ⟨w.heap.size,i * 3,none⟩) (n + m - i) dc,.slice (some ⟨vb,voff,none⟩) m vc]).run Tryz.prog W = .ok (goInt (m.min (n + m - i))) (W.setCells w.heap.size (i * 3) vs):=fun W hWc hWf ty dc =>
    run_copy_cellsN W _ _ ty 72 3 w.heap.size (i * 3) (n + m - i) dc ⟨vb,voff,none⟩ m vc vs t66 z72 (by rw [hvl];simp only [Nat.min_def];split <;> omega)
      (fun j v hj=>by rw [Addr.add_lit,hWc];exact hOv _ v (hvs j v hj))
      (fun j hj=>by rw [hWc];exact hN _ (by omega)) (fun j hj=>by rw [hWf];exact hNf _) h1v
  have hGn:n + m≤G:=by rw [hG];exact grownCap_ge w _ _ _
  have hG63:G≤9223372036854775807:=by
    have:=grownCap_le_maxLen w (n + m) c 72 (by unfold maxLen;omega)
    rw [← hG] at this
    unfold maxLen at this
    omega
  have hGi : ¬ (G=i):=by omega
  have hGim : ¬ (G=i + m):=by omega
  have hci : ¬ (c=i):=by omega
  have hbN:b ≠ w.heap.size:=by omega
  have hdl:(cs.drop (i * 3)).length=(n - i) * 3:=by rw [List.length_drop,hcl];omega
  have hcpB:∀ (W:World),(∀ x,W.cell? x=(W1.setCells w.heap.size (i * 3) vs).cell? x)→(∀ x,W.frozen? x=(W1.setCells w.heap.size (i * 3) vs).frozen? x)→∀ ty dc sc,(Builtin.copy_ #[66,66] ty #[.slice (some ⟨w.heap.size,(i + m) * 3,none⟩) (n + m - (i + m)) dc,.slice (some ⟨b,off + i * 3,none⟩) (n - i) sc]).run Tryz.prog W = .ok (goInt ((n - i).min (n + m - (i + m)))) (W.setCells w.heap.size ((i + m) * 3) (cs.drop (i * 3))):=fun W hWc hWf ty dc sc =>
    run_copy_cellsN W _ _ ty 72 3 w.heap.size ((i + m) * 3) (n + m - (i + m)) dc ⟨b,off + i * 3,none⟩ (n - i) sc (cs.drop (i * 3)) t66 z72 (by rw [hdl];simp only [Nat.min_def];split <;> omega)
      (fun j v hj=>by
        rw [Addr.add_lit,hWc,World.cell?_setCells_out _ _ _ _ _ (fun h _=>absurd h hbN),Nat.add_assoc]
        exact hOb _ v (hcs (i * 3 + j) v (by rwa [List.getElem?_drop] at hj)))
      (fun j hj=>by rw [hWc];exact isSome_setCells _ _ _ _ (fun t ht=>hN _ (by omega)) _ (hN _ (by omega)))
      (fun j hj=>by rw [hWf,World.frozen?_setCells];exact hNf _) (fun v hv=>h1c v (List.mem_of_mem_drop hv))
  subst hW1
  have hE1:∀ x,((w.alloc (.cells ROW 72)).drew).cell? x=(w.drew.alloc (.cells ROW 72)).cell? x:=fun x=>rfl
  have hE2:∀ x,((w.alloc (.cells ROW 72)).drew).frozen? x=(w.drew.alloc (.cells ROW 72)).frozen? x:=fun x=>rfl
  have hF1:∀ x,(((w.alloc (.cells ROW 72)).drew.setCells w.heap.size (i * 3) vs).drew).cell? x=((w.drew.alloc (.cells ROW 72)).setCells w.heap.size (i * 3) vs).cell? x:=fun x=>rfl
  have hF2:∀ x,(((w.alloc (.cells ROW 72)).drew.setCells w.heap.size (i * 3) vs).drew).frozen? x=((w.drew.alloc (.cells ROW 72)).setCells w.heap.size (i * 3) vs).frozen? x:=fun x=>rfl
  have hw1:IntKind.i64.wrap ((i:Int) + (m:Int))=(i:Int) + (m:Int):=by rw [IntKind.wrap_i64];omega
  have hb1:(0:Int)≤(i:Int) + (m:Int):=by omega
  have hin:i≤n:=by omega
  have htn:((i:Int) + (m:Int)).toNat=i + m:=by omega
  have hb3:(i:Int)≤(n:Int):=by omega
  clear hkk hik hold hROW hG hRl
  go_enter Tryz.func32,Tryz.ntmps32
  go_wp2_with (first
    | (at_builtin;refine Lib.wpList_append_run _ rfl _ _ _ _ rfl _ _ rfl rfl _ _ (hrz _) ?_)
    | (at_builtin;refine wpList_copy_runI _ rfl _ _ 66 66 rfl _ _ rfl rfl (hcpA _ hE1 hE2 _ _) ?_)
    | (at_builtin;refine wpList_copy_runI _ rfl _ _ 66 66 rfl _ _ rfl rfl (hcpB _ (fun _=>rfl) (fun _=>rfl) _ _ _) ?_))
  go_region_law_o (refine step_copy_runI rfl _ _ 66 66 rfl (.slice (some ⟨w.heap.size,(i + m) * 3,none⟩) (n + m - (i + m)) (G - (i + m))) (.slice (some ⟨b,off + i * 3,none⟩) (n - i) (c - i)) (by simp [Act.eval,Act.put]) (by simp [Act.eval,Act.put]) (hcpB _ hF1 hF2 3 (G - (i + m)) (c - i)) ?_)
  go_wp2
  go_ret
  exact ⟨rfl,rfl⟩
open Go Go.Proofs L Go.RowKit Go.Lib
set_option linter.unusedVariables false
theorem setCells_row {g : Nat} {t : TypeId} : ∀ (vs : List Value) (o : Nat) (cur : Array Value) (w : World), w.heap[g]? = some (.cells cur t (0, 0)) → o + vs.length ≤ cur.size →
    w.setCells g o vs=w.setRow g (cur.toList.take o++vs++cur.toList.drop (o + vs.length)).toArray
  | [],o,cur,w,hg,_=>by
    simp only [World.setCells,List.append_nil,List.length_nil,Nat.add_zero,List.take_append_drop,Array.toArray_toList]
    rw [setRow_self w g cur t (0,0) hg]
  | v :: rest,o,cur,w,hg,hl=>by
    have hl' : o + (rest.length + 1)≤cur.size:=by simpa using hl
    have ih:=setCells_row rest (o + 1) (cur.setIfInBounds o v) (w.setRow g (cur.setIfInBounds o v)) (setRow_heap w g cur _ t _ hg) (by simp;omega)
    rw [World.setCells,setCell_eq_setRow w g o cur t (0,0) v hg,ih,setRow_setRow]
    have e:=list_seg_step cur.toList o v rest (by simpa using hl')
    congr 2
    simpa [Array.toList_setIfInBounds,Nat.add_assoc] using e
theorem setCells_at {g : Nat} {t : TypeId} {vs : List Value} {o : Nat} {cur : Array Value} {w : World} (hg : w.heap[g]? = some (.cells cur t (0, 0))) (hl : o + vs.length ≤ cur.size) :
    ∃ cur',cur'.size=cur.size∧cur'.toList=cur.toList.take o++vs++cur.toList.drop (o + vs.length)∧w.setCells g o vs=w.setRow g cur'∧(w.setCells g o vs).heap[g]?=some (.cells cur' t (0,0)):=by
  refine ⟨_,?_,rfl,setCells_row vs o cur w hg hl,?_⟩
  · simp;omega
  · rw [setCells_row vs o cur w hg hl];exact setRow_heap w g cur _ t _ hg
theorem W32 : InsC Tryz.prog 32 E72 := by
  intro w c i j v u ps qs n hv hu hij h0 hn hq hlim
  obtain ⟨k,rfl⟩ : ∃ k:Nat,n=(k:Int):=⟨n.toNat,by omega⟩
  simp only [Int.toNat_natCast]
  obtain ⟨⟨hl2,h2 | ⟨g2,cap2,cur2,rfl,-,hg2,hc3,hc4,hsz2,htk2⟩⟩,hcol2⟩:=id hu
  · exact absurd h2.2 hq
  have hgc2:c g2=j:=hcol2 g2 rfl
  have hl2' : (fl E72 qs).length=qs.length * 3:=hl2
  have cv:∀ t x,(fl E72 qs)[t]?=some x→w.cell? ⟨g2,0 + t,none⟩=some x:=fun t x hx=>by
    rw [← htk2,List.getElem?_take] at hx
    split at hx
    · simpa [World.cell?,hg2] using hx
    · cases hx
  rcases Nat.lt_or_eq_of_le (show k≤ps.length by omega) with hk | hk
  · obtain ⟨⟨hl1,h1 | ⟨g,cap,cur,rfl,-,hg,hc1,hc2,hsz,htk⟩⟩,hcol⟩:=hv
    · exact absurd h1.2 (by omega)
    have hgc:c g=i:=hcol g rfl
    have hne:g2 ≠ g:=fun e=>hij (by rw [← hgc,← hgc2,e])
    have hl1' : (fl E72 ps).length=ps.length * 3:=hl1
    have hsz' : cur.size=cap * 3:=hsz
    have htk' : cur.toList.take (ps.length * 3)=fl E72 ps:=htk
    have cc:∀ t x,(fl E72 ps)[t]?=some x→w.cell? ⟨g,0 + t,none⟩=some x:=fun t x hx=>by
      rw [← htk,List.getElem?_take] at hx
      split at hx
      · simpa [World.cell?,hg] using hx
      · cases hx
    have hdl:((fl E72 ps).drop (k * 3)).length=(ps.length - k) * 3:=by rw [List.length_drop,hl1'];omega
    have hfl:fl E72 (ps.take k++qs++ps.drop k)=(fl E72 ps).take (k * 3)++fl E72 qs++(fl E72 ps).drop (k * 3):=by
      rw [fl_append,fl_append,← fl_take,← fl_drop]
    have hln:(ps.take k++qs++ps.drop k).length=ps.length + qs.length:=by simp;omega
    have hmx:cap≤9223372036854775807:=by unfold maxLen at hc2;omega
    by_cases hroom:ps.length + qs.length≤cap
    · refine (ins_shift g 0 ps.length cap k g2 0 qs.length cap2 (fl E72 ps) (fl E72 qs) w hk (by omega) hroom hmx hne hl1' hl2' cc (fun t ht=>?_) (fun t ht=>by simp [World.frozen?,hg]) cv (fl_one _) (fl_one _) (fun lb cb=>?_)).mono ?_
      · have h3:0 + t < cur.size:=by omega
        simp [World.cell?,hg];omega
      · rw [run_callFunc_extern Tryz.func69 (by kernel_rfl) (by kernel_rfl) (by kernel_rfl) (e:=Extern.SlicesOverlaps.overlaps #[66,66] #[4]) (by kernel_rfl),
          Lib.run_overlaps_apart w 66 4 72 Tryz.underlying66 3 Tryz.sizeOf72 ⟨g2,0,none⟩ ⟨g,0 + (k + qs.length) * 3,none⟩ qs.length cap2 lb cb hne 72 72 cur2.size cur.size (by simp [World.shape?,hg2]) (by simp [World.shape?,hg]) (by omega) (by simp [World.frozen?,hg2]) (by simp [World.frozen?,hg2])]
        rfl
      · rintro _ _ ⟨rfl,rfl⟩
        have hg' : w.drew.heap[g]?=some (.cells cur 72 (0,0)):=hg
        obtain ⟨cu1,s1,t1,e1,g1⟩:=setCells_at (vs:=(fl E72 ps).drop (k * 3)) (o:=0 + (k + qs.length) * 3) hg' (by rw [hdl];omega)
        obtain ⟨cu2,s2,t2,e2,g3⟩:=setCells_at (vs:=fl E72 qs) (o:=0 + k * 3) g1 (by omega)
        refine ⟨_,c,rfl,⟨⟨by simp only [fl_length],.inr ⟨g,cap,cu2,by rw [hln],Nat.zero_le _,g3,by rw [hln];exact hroom,hc2,by rw [s2,s1];exact hsz,?_⟩⟩,fun x hx=>by simp only [Value.ownBlock,Option.some.injEq] at hx;rw [← hx];exact hgc⟩,?_⟩
        · show cu2.toList.take ((ps.take k++qs++ps.drop k).length * 3)=_
          rw [hln,hfl,t2,t1,Nat.zero_add,Nat.zero_add]
          have hkl:k * 3≤(cur.toList.take ((k + qs.length) * 3)).length:=by simp;omega
          have e3:cur.toList.take (k * 3)=(fl E72 ps).take (k * 3):=by rw [← htk',List.take_take];congr 1;omega
          have hA:(cur.toList.take ((k + qs.length) * 3)).length=(k + qs.length) * 3:=by simp;omega
          rw [hl2',show k * 3 + qs.length * 3=(k + qs.length) * 3 by omega]
          rw [List.append_assoc (cur.toList.take _),List.take_append_of_le_length hkl,List.take_take,Nat.min_eq_left (by omega),e3]
          rw [List.drop_append,hA,Nat.sub_self,List.drop_zero,List.drop_of_length_le (by omega),List.nil_append]
          rw [List.append_assoc,List.append_assoc,← List.append_assoc (fl E72 qs),← List.append_assoc,← List.append_assoc]
          rw [List.take_append_of_le_length (by simp only [List.length_append,List.length_take,hl1',hl2',hdl];omega),List.take_of_length_le (by simp only [List.length_append,List.length_take,hl1',hl2',hdl];omega)]
        · rw [e2,e1,setRow_setRow];exact ((St.drew (w:=w) (c:=c)).t (St.setRow hgc)).mono (by simp)
    · have hgr:=ins_grow g 0 ps.length cap k g2 0 qs.length cap2 (fl E72 ps) (fl E72 qs) w hk (by omega) hc1 (by omega) (by omega) hl1' hl2' cc cv (fl_one _) (fl_one _)
      refine hgr.mono ?_
      rintro _ _ ⟨rfl,rfl⟩
      obtain ⟨G,hG⟩ : ∃ G,G=grownCap w (ps.length + qs.length) cap 72:=⟨_,rfl⟩
      rw [← hG]
      have hGn:ps.length + qs.length≤G:=by rw [hG];exact grownCap_ge w _ _ _
      have hGm:G≤maxLen:=by rw [hG];exact grownCap_le_maxLen w _ cap 72 (by unfold maxLen;omega)
      obtain ⟨ROW,hROW⟩ : ∃ ROW:Array Value,ROW=((fl E72 ps).take (k * 3)).toArray++Builtin.zeroCells zE (ps.length + qs.length - k)++Builtin.zeroCells zE (G - (ps.length + qs.length)):=⟨_,rfl⟩
      rw [← hROW]
      have hRs:ROW.size=G * 3:=by rw [hROW];simp [Builtin.zeroCells,zE,hl1'];omega
      have hRt:ROW.toList.take (k * 3)=(fl E72 ps).take (k * 3):=by
        rw [hROW];simp only [Array.toList_append,List.append_assoc]
        rw [List.take_append_of_le_length (by simp;omega),List.take_of_length_le (by simp;omega)]
      have hlt:=blk_lt hg
      have hg' : (w.alloc (.cells ROW 72)).drew.heap[w.heap.size]?=some (.cells ROW 72 (0,0)):=heap_alloc_new w _
      obtain ⟨cu1,s1,t1,e1,g1⟩:=setCells_at (vs:=fl E72 qs) (o:=k * 3) hg' (by omega)
      have g1' : ((w.alloc (.cells ROW 72)).drew.setCells w.heap.size (k * 3) (fl E72 qs)).drew.heap[w.heap.size]?=some (.cells cu1 72 (0,0)):=g1
      obtain ⟨cu2,s2,t2,e2,g3⟩:=setCells_at (vs:=(fl E72 ps).drop (k * 3)) (o:=(k + qs.length) * 3) g1' (by rw [hdl];omega)
      refine ⟨_,pc c w.heap.size i,rfl,⟨⟨by simp only [fl_length],.inr ⟨w.heap.size,G,cu2,by rw [hln],Nat.zero_le _,g3,by rw [hln];exact hGn,hGm,by rw [s2,s1];exact hRs,?_⟩⟩,fun x hx=>by simp only [Value.ownBlock,Option.some.injEq] at hx;rw [← hx];exact pc_same⟩,?_⟩
      · show cu2.toList.take ((ps.take k++qs++ps.drop k).length * 3)=_
        rw [hln,hfl,t2,t1,hRt]
        have hA:((fl E72 ps).take (k * 3)++fl E72 qs).length=(k + qs.length) * 3:=by simp only [List.length_append,List.length_take,hl1',hl2'];omega
        have e4:((fl E72 ps).take (k * 3)++fl E72 qs++ROW.toList.drop (k * 3 + (fl E72 qs).length)).take ((k + qs.length) * 3)=(fl E72 ps).take (k * 3)++fl E72 qs:=by
          rw [List.take_append_of_le_length (by omega),List.take_of_length_le (by omega)]
        rw [e4,List.take_append_of_le_length (by rw [List.length_append,hA,hdl];omega),List.take_of_length_le (by rw [List.length_append,hA,hdl];omega)]
      · rw [e2,e1]
        have a1:=St.alloc (w:=w) (c:=c) (.cells ROW 72) i
        have a2:=(St.drew (w:=w.alloc (.cells ROW 72)) (c:=pc c w.heap.size i))
        have a3:St [i] (w.alloc (.cells ROW 72)).drew (pc c w.heap.size i) ((w.alloc (.cells ROW 72)).drew.setRow w.heap.size cu1) (pc c w.heap.size i):=St.setRow pc_same
        have a4:=(St.drew (w:=(w.alloc (.cells ROW 72)).drew.setRow w.heap.size cu1) (c:=pc c w.heap.size i))
        have a5:St [i] ((w.alloc (.cells ROW 72)).drew.setRow w.heap.size cu1).drew (pc c w.heap.size i) (((w.alloc (.cells ROW 72)).drew.setRow w.heap.size cu1).drew.setRow w.heap.size cu2) (pc c w.heap.size i):=St.setRow pc_same
        exact ((((a1.t a2).t a3).t a4).t a5).mono (by simp)
  · subst hk
    have hm0 : ¬ ((qs.length:Int)=0):=by omega
    refine calls_intro Tryz.func32 rfl Tryz.ntmps32 rfl ?_
    refine sr ?_;refine ag (v := .slice none 0 0) rfl rfl ?_;refine WR.nil ?_
    refine sr ?_;refine mv (v:=v) rfl rfl ?_;refine mv (v:=vI (ps.length:Int)) rfl rfl ?_
    refine kk rfl (OS.sliceV (E:=E72) rfl Tryz.underlying66 Tryz.sizeOf72 rfl hv.vw (Bd.some rfl h0) Bd.none rfl (by omega) (by omega) ?_);intro y _;refine WR.nil ?_
    refine sr ?_;refine mv (v := .slice (some ⟨g2,0,none⟩) qs.length cap2) rfl rfl ?_;refine kk rfl (OS.lenSl rfl Tryz.runUnderlying66 rfl hu.isSl ?_);refine ag (v:=vI (qs.length:Int)) rfl rfl ?_;refine WR.nil ?_
    refine WC.seq ?_;refine sr ?_;refine mv (v:=vI (qs.length:Int)) rfl rfl ?_;refine bn (a:=vI (qs.length:Int)) (b:=vI (0:Int)) rfl rfl rfl bI_eql ?_;refine WR.nil ?_
    refine WC.condF (congrArg Value.bool (decide_eq_false hm0)) ?_;refine WC.skip ?_
    refine sr ?_;refine mv (v:=v) rfl rfl ?_;refine kk rfl (OS.lenSl rfl Tryz.runUnderlying66 rfl hv.isSl ?_);refine ag (v:=vI (ps.length:Int)) rfl rfl ?_;refine WR.nil ?_
    refine WC.seq ?_;refine sr ?_;refine mv (v:=vI (ps.length:Int)) rfl rfl ?_;refine mv (v:=vI (ps.length:Int)) rfl rfl ?_;refine bn (a:=vI (ps.length:Int)) (b:=vI (ps.length:Int)) rfl rfl rfl bI_eql ?_;refine WR.nil ?_
    refine WC.condT (congrArg Value.bool (decide_eq_true rfl)) ?_
    refine sr ?_;refine mv (v:=v) rfl rfl ?_;refine mv (v := .slice (some ⟨g2,0,none⟩) qs.length cap2) rfl rfl ?_
    refine kk rfl (OS.append (E:=E72) (c:=c) (i:=i) (xs:=ps) (ys:=qs) rfl Tryz.underlying66 Tryz.underlying66 (.inl rfl) I72 rfl rfl rfl rfl rfl hv hu.vw.src (lim_bytes (by decide) (Nat.le_trans hlim (by decide))) (lim_max (b:=56) (by decide) (Nat.le_trans hlim (by decide))) ?_)
    intro v' w' c' o' s'
    refine ag (v:=v') rfl rfl ?_;refine WR.nil ?_;refine WC.ret ?_;repeat first | refine thenQ_ret ?_ | refine blkQ_ret ?_
    exact fnQ.l1 (fn:=Tryz.f32) rfl (.inl ⟨_,rfl,rfl⟩) ⟨v',c',rfl,by simpa using o',s'⟩
end Go.Proofs.YtgmgahphjiiceaaGreat
