import Derived.Test.YtbbenllkjpomdaaLib11
namespace Go.Proofs.Ytbbenllkjpomdaa
open Go L

-- holdfast/seal.eight
def seal_eight.l1 : Nat → (List UInt8) → UInt64 → (List UInt8) → Int → Option (List UInt8)
  | 0, _, _, _, _ => none
  | k + 1, out, n1, out1, x8 => if (decide (x8 < (out.length : Int))) = true then ((shc (W ((56 : Int) - (W ((8 : Int) * x8))))).bind fun k1 => ((req (0 ≤ x8 ∧ x8 < (out1.length : Int))).bind fun u => ((some (out1.set (x8).toNat ((shr64 n1 (W ((56 : Int) - (W ((8 : Int) * x8)))).toNat).toUInt8))).bind fun out3 => (seal_eight.l1 k out n1 out3 (W (x8 + (1 : Int))))))) else (some out1)
def seal_eight (K : Nat) (n1 : UInt64) : Option (List UInt8) :=
  (some (List.replicate 8 (0 : UInt8))).bind fun out => ((seal_eight.l1 K out n1 out (0 : Int)).bind fun out2 => (some out2))

-- slices.Grow[[]byte,byte]
def slices_Grow_byte_byte.j2 (K : Nat) (s1 : List UInt8) : Option (List UInt8) :=
  some s1
def slices_Grow_byte_byte.j1 (K : Nat) (n1 : Int) : Option (List UInt8) :=
  if (decide ((0 : Int) < W (n1 - (W ((0 : Int) - (0 : Int)))))) = true then ((sub ([] : List UInt8) (0 : Int) (0 : Int)).bind fun ys => (((mks 140737488355328 (0 : UInt8) (W (n1 - (W ((0 : Int) - (0 : Int)))))).bind fun z1 => app 140737488355328 ys z1).bind fun xs => ((sub xs (0 : Int) (0 : Int)).bind fun ys1 => (slices_Grow_byte_byte.j2 K ys1)))) else (slices_Grow_byte_byte.j2 K ([] : List UInt8))
def slices_Grow_byte_byte (K : Nat) (n1 : Int) : Option (List UInt8) :=
  if (decide (n1 < (0 : Int))) = true then (none) else (slices_Grow_byte_byte.j1 K n1)

-- slices.Concat[[]byte,byte]
def slices_Concat_byte_byte.l1 : Nat → (List (List UInt8)) → Int → Int → Option Int
  | 0, _, _, _ => none
  | k + 1, slices, size, x11 => if (decide (x11 < (slices.length : Int))) = true then ((gt slices x11).bind fun e => (if (decide (W (size + (e.length : Int)) < (0 : Int))) = true then (none) else (slices_Concat_byte_byte.l1 k slices (W (size + (e.length : Int))) (W (x11 + (1 : Int)))))) else (some size)
def slices_Concat_byte_byte.l2 : Nat → (List (List UInt8)) → (List UInt8) → Int → Option (List UInt8)
  | 0, _, _, _ => none
  | k + 1, slices, newslice, x27 => if (decide (x27 < (slices.length : Int))) = true then ((gt slices x27).bind fun e2 => ((app 140737488355328 newslice e2).bind fun newslice2 => (slices_Concat_byte_byte.l2 k slices newslice2 (W (x27 + (1 : Int)))))) else (some newslice)
def slices_Concat_byte_byte (K : Nat) (slices : List (List UInt8)) : Option (List UInt8) :=
  (slices_Concat_byte_byte.l1 K slices (0 : Int) (0 : Int)).bind fun size1 => ((slices_Grow_byte_byte K size1).bind fun r_ => ((slices_Concat_byte_byte.l2 K slices r_ (0 : Int)).bind fun newslice1 => (some newslice1)))

-- holdfast/hash.rounds
def hash_rounds (K : Nat) : Option (List UInt32) :=
  (some ([(1116352408 : UInt32), (1899447441 : UInt32), (3049323471 : UInt32), (3921009573 : UInt32), (961987163 : UInt32), (1508970993 : UInt32), (2453635748 : UInt32), (2870763221 : UInt32), (3624381080 : UInt32), (310598401 : UInt32), (607225278 : UInt32), (1426881987 : UInt32), (1925078388 : UInt32), (2162078206 : UInt32), (2614888103 : UInt32), (3248222580 : UInt32), (3835390401 : UInt32), (4022224774 : UInt32), (264347078 : UInt32), (604807628 : UInt32), (770255983 : UInt32), (1249150122 : UInt32), (1555081692 : UInt32), (1996064986 : UInt32), (2554220882 : UInt32), (2821834349 : UInt32), (2952996808 : UInt32), (3210313671 : UInt32), (3336571891 : UInt32), (3584528711 : UInt32), (113926993 : UInt32), (338241895 : UInt32), (666307205 : UInt32), (773529912 : UInt32), (1294757372 : UInt32), (1396182291 : UInt32), (1695183700 : UInt32), (1986661051 : UInt32), (2177026350 : UInt32), (2456956037 : UInt32), (2730485921 : UInt32), (2820302411 : UInt32), (3259730800 : UInt32), (3345764771 : UInt32), (3516065817 : UInt32), (3600352804 : UInt32), (4094571909 : UInt32), (275423344 : UInt32), (430227734 : UInt32), (506948616 : UInt32), (659060556 : UInt32), (883997877 : UInt32), (958139571 : UInt32), (1322822218 : UInt32), (1537002063 : UInt32), (1747873779 : UInt32), (1955562222 : UInt32), (2024104815 : UInt32), (2227730452 : UInt32), (2361852424 : UInt32), (2428436474 : UInt32), (2756734187 : UInt32), (3204031479 : UInt32), (3329325298 : UInt32)] : List UInt32)).bind fun l1 => (some l1)

-- math/bits.RotateLeft32
def bits_RotateLeft32 (K : Nat) (x : UInt32) (k1 : Int) : Option UInt32 :=
  some ((shl32 x ((iU64 k1) &&& (31 : UInt64)).toNat) ||| (shr32 x ((32 : UInt64) - ((iU64 k1) &&& (31 : UInt64))).toNat))

-- (holdfast/hash.words).mix
def hash_words_mix.l1 (K : Nat) : Nat → (List UInt8) → (List UInt32) → Int → Option (List UInt32)
  | 0, _, _, _ => none
  | k + 1, b, xs, x18 => if (decide (x18 < (64 : Int))) = true then (if (decide (x18 < (16 : Int))) = true then ((gt b (W ((4 : Int) * x18))).bind fun e => ((gt b (W ((W ((4 : Int) * x18)) + (1 : Int)))).bind fun e1 => ((gt b (W ((W ((4 : Int) * x18)) + (2 : Int)))).bind fun e2 => ((gt b (W ((W ((4 : Int) * x18)) + (3 : Int)))).bind fun e3 => ((req (0 ≤ x18 ∧ x18 < (xs.length : Int))).bind fun u => ((some (xs.set (x18).toNat ((((shl32 e.toUInt32 24) ||| (shl32 e1.toUInt32 16)) ||| (shl32 e2.toUInt32 8)) ||| e3.toUInt32))).bind fun xs2 => (hash_words_mix.l1 K k b xs2 (W (x18 + (1 : Int)))))))))) else ((gt xs (W (x18 - (15 : Int)))).bind fun e4 => ((bits_RotateLeft32 K e4 (-7 : Int)).bind fun r_ => ((gt xs (W (x18 - (15 : Int)))).bind fun e5 => ((bits_RotateLeft32 K e5 (-18 : Int)).bind fun r_1 => ((gt xs (W (x18 - (15 : Int)))).bind fun e6 => ((gt xs (W (x18 - (2 : Int)))).bind fun e7 => ((bits_RotateLeft32 K e7 (-17 : Int)).bind fun r_2 => ((gt xs (W (x18 - (2 : Int)))).bind fun e8 => ((bits_RotateLeft32 K e8 (-19 : Int)).bind fun r_3 => ((gt xs (W (x18 - (2 : Int)))).bind fun e9 => ((gt xs (W (x18 - (16 : Int)))).bind fun e10 => ((gt xs (W (x18 - (7 : Int)))).bind fun e11 => ((req (0 ≤ x18 ∧ x18 < (xs.length : Int))).bind fun u1 => ((some (xs.set (x18).toNat (((e10 + ((r_ ^^^ r_1) ^^^ (shr32 e6 3))) + e11) + ((r_2 ^^^ r_3) ^^^ (shr32 e9 10))))).bind fun xs3 => (hash_words_mix.l1 K k b xs3 (W (x18 + (1 : Int))))))))))))))))))) else (some xs)
def hash_words_mix.l2 (K : Nat) : Nat → (List UInt32) → (List UInt32) → (List UInt32) → Int → Option (List UInt32)
  | 0, _, _, _, _ => none
  | k + 1, k1, xs1, h38, x109 => if (decide (x109 < (64 : Int))) = true then ((bits_RotateLeft32 K (h38.getD 4 0) (-6 : Int)).bind fun r_4 => ((bits_RotateLeft32 K (h38.getD 4 0) (-11 : Int)).bind fun r_5 => ((bits_RotateLeft32 K (h38.getD 4 0) (-25 : Int)).bind fun r_6 => ((gt k1 x109).bind fun e12 => ((gt xs1 x109).bind fun e13 => ((bits_RotateLeft32 K (h38.getD 0 0) (-2 : Int)).bind fun r_7 => ((bits_RotateLeft32 K (h38.getD 0 0) (-13 : Int)).bind fun r_8 => ((bits_RotateLeft32 K (h38.getD 0 0) (-22 : Int)).bind fun r_9 => ((some (h38.take 1 ++ ((h38.take 7).drop 0).take 7 ++ h38.drop (1 + min ((h38.take 7).drop 0).length 7))).bind fun h74 => ((some (h74.set 4 ((h74.getD 4 0) + (((((h38.getD 7 0) + ((r_4 ^^^ r_5) ^^^ r_6)) + ((h38.getD 6 0) ^^^ ((h38.getD 4 0) &&& ((h38.getD 5 0) ^^^ (h38.getD 6 0))))) + e12) + e13)))).bind fun h75 => ((some (h75.set 0 ((((((h38.getD 7 0) + ((r_4 ^^^ r_5) ^^^ r_6)) + ((h38.getD 6 0) ^^^ ((h38.getD 4 0) &&& ((h38.getD 5 0) ^^^ (h38.getD 6 0))))) + e12) + e13) + (((r_7 ^^^ r_8) ^^^ r_9) + (((h38.getD 0 0) &&& (h38.getD 1 0)) ||| ((h38.getD 2 0) &&& ((h38.getD 0 0) ||| (h38.getD 1 0)))))))).bind fun h76 => (hash_words_mix.l2 K k k1 xs1 h76 (W (x109 + (1 : Int))))))))))))))) else (some h38)
def hash_words_mix.l3 : Nat → (List UInt32) → (List UInt32) → Int → Option (List UInt32)
  | 0, _, _, _ => none
  | k + 1, h39, h80, x189 => if (decide (x189 < (8 : Int))) = true then ((gt h80 x189).bind fun e14 => ((gt h39 x189).bind fun e15 => ((req (0 ≤ x189 ∧ x189 < (h80.length : Int))).bind fun u2 => ((some (h80.set (x189).toNat (e14 + e15))).bind fun h90 => (hash_words_mix.l3 k h39 h90 (W (x189 + (1 : Int)))))))) else (some h80)
def hash_words_mix (K : Nat) (h : List UInt32) (k1 : List UInt32) (b : List UInt8) : Option (List UInt32) :=
  (hash_words_mix.l1 K K b (List.replicate 64 (0 : UInt32)) (0 : Int)).bind fun xs1 => ((hash_words_mix.l2 K K k1 xs1 h (0 : Int)).bind fun h39 => ((hash_words_mix.l3 K h39 h (0 : Int)).bind fun h81 => (some h81)))

-- bytes.Clone
def bytes_Clone (K : Nat) (b : List UInt8) : Option (List UInt8) := app 140737488355328 ([] : List UInt8) b

-- holdfast/hash.Sum
def hash_Sum.l1 (K : Nat) : Nat → (List UInt32) → (List UInt8) → (List UInt32) → Option ((List UInt8) × (List UInt32))
  | 0, _, _, _ => none
  | k + 1, r_, b1, l2 => if (decide ((64 : Int) ≤ (b1.length : Int))) = true then ((hash_words_mix K l2 r_ b1).bind fun r_1 => ((sub b1 (64 : Int) (b1.length : Int)).bind fun ys => (hash_Sum.l1 K k r_ ys r_1))) else (some (b1, l2))
def hash_Sum.l2 : Nat → (List UInt8) → (List UInt8) → Int → Option (List UInt8)
  | 0, _, _, _ => none
  | k + 1, b, end_, x35 => if (decide (x35 < (8 : Int))) = true then ((shc (W ((56 : Int) - (W ((8 : Int) * x35))))).bind fun k1 => ((some ([(shr64 (shl64 (iU64 (b.length : Int)) 3) (W ((56 : Int) - (W ((8 : Int) * x35)))).toNat).toUInt8] : List UInt8)).bind fun l11 => ((app 140737488355328 end_ l11).bind fun end_2 => (hash_Sum.l2 k b end_2 (W (x35 + (1 : Int))))))) else (some end_)
def hash_Sum.l3 (K : Nat) : Nat → (List UInt32) → (List UInt32) → (List UInt8) → Option (List UInt32)
  | 0, _, _, _ => none
  | k + 1, r_, l12, end_3 => if (decide ((0 : Int) < (end_3.length : Int))) = true then ((hash_words_mix K l12 r_ end_3).bind fun r_4 => ((sub end_3 (64 : Int) (end_3.length : Int)).bind fun ys1 => (hash_Sum.l3 K k r_ r_4 ys1))) else (some l12)
def hash_Sum.l4 : Nat → (List UInt32) → (List UInt8) → Int → Option (List UInt8)
  | 0, _, _, _ => none
  | k + 1, l13, xs1, x58 => if (decide (x58 < (8 : Int))) = true then ((gt l13 x58).bind fun e => ((req (0 ≤ W ((4 : Int) * x58) ∧ W ((4 : Int) * x58) < (xs1.length : Int))).bind fun u => ((some (xs1.set (W ((4 : Int) * x58)).toNat ((shr32 e 24).toUInt8))).bind fun xs3 => ((req (0 ≤ W ((W ((4 : Int) * x58)) + (1 : Int)) ∧ W ((W ((4 : Int) * x58)) + (1 : Int)) < (xs3.length : Int))).bind fun u1 => ((some (xs3.set (W ((W ((4 : Int) * x58)) + (1 : Int))).toNat ((shr32 e 16).toUInt8))).bind fun xs4 => ((req (0 ≤ W ((W ((4 : Int) * x58)) + (2 : Int)) ∧ W ((W ((4 : Int) * x58)) + (2 : Int)) < (xs4.length : Int))).bind fun u2 => ((some (xs4.set (W ((W ((4 : Int) * x58)) + (2 : Int))).toNat ((shr32 e 8).toUInt8))).bind fun xs5 => ((req (0 ≤ W ((W ((4 : Int) * x58)) + (3 : Int)) ∧ W ((W ((4 : Int) * x58)) + (3 : Int)) < (xs5.length : Int))).bind fun u3 => ((some (xs5.set (W ((W ((4 : Int) * x58)) + (3 : Int))).toNat e.toUInt8)).bind fun xs6 => (hash_Sum.l4 k l13 xs6 (W (x58 + (1 : Int))))))))))))) else (some xs1)
def hash_Sum (K : Nat) (b : List UInt8) : Option (List UInt8) :=
  (some ([(1779033703 : UInt32), (3144134277 : UInt32), (1013904242 : UInt32), (2773480762 : UInt32), (1359893119 : UInt32), (2600822924 : UInt32), (528734635 : UInt32), (1541459225 : UInt32)] : List UInt32)).bind fun l1 => ((hash_rounds K).bind fun r_ => ((hash_Sum.l1 K K r_ b l1).bind fun q => ((fun b2 l3 => (bytes_Clone K b2).bind fun r_2 => ((some ([(128 : UInt8)] : List UInt8)).bind fun l9 => ((app 140737488355328 r_2 l9).bind fun r_3 => (((mks 140737488355328 (0 : UInt8) ((W ((119 : Int) - (b2.length : Int))).tmod (64 : Int))).bind fun z1 => app 140737488355328 r_3 z1).bind fun xs => ((hash_Sum.l2 K b xs (0 : Int)).bind fun end_1 => ((hash_Sum.l3 K K r_ l3 end_1).bind fun l13 => ((hash_Sum.l4 K l13 (List.replicate 32 (0 : UInt8)) (0 : Int)).bind fun xs2 => (some xs2)))))))) q.1 q.2)))

-- holdfast/hash.Tag
def hash_Tag.l1 : Nat → (List UInt8) → (List UInt8) → Int → Option ((List UInt8) × (List UInt8))
  | 0, _, _, _ => none
  | k + 1, xs1, xs2, x20 => if (decide (x20 < (64 : Int))) = true then ((gt xs1 x20).bind fun e => ((req (0 ≤ x20 ∧ x20 < (xs1.length : Int))).bind fun u => ((some (xs1.set (x20).toNat (e ^^^ (54 : UInt8)))).bind fun xs5 => ((gt xs2 x20).bind fun e1 => ((req (0 ≤ x20 ∧ x20 < (xs2.length : Int))).bind fun u1 => ((some (xs2.set (x20).toNat (e1 ^^^ (92 : UInt8)))).bind fun xs6 => (hash_Tag.l1 k xs5 xs6 (W (x20 + (1 : Int)))))))))) else (some (xs1, xs2))
def hash_Tag.j1 (K : Nat) (b : List UInt8) (key1 : List UInt8) : Option (List UInt8) :=
  (some ((List.replicate 64 (0 : UInt8)).take 0 ++ key1.take 64 ++ (List.replicate 64 (0 : UInt8)).drop (0 + min key1.length 64))).bind fun xs => ((hash_Tag.l1 K xs xs (0 : Int)).bind fun q => ((fun xs3 xs4 => (app 140737488355328 xs3 b).bind fun xs7 => ((hash_Sum K xs7).bind fun r_1 => ((app 140737488355328 xs4 r_1).bind fun xs8 => ((hash_Sum K xs8).bind fun r_2 => (some r_2))))) q.1 q.2))
def hash_Tag (K : Nat) (key : List UInt8) (b : List UInt8) : Option (List UInt8) :=
  if (decide ((64 : Int) < (key.length : Int))) = true then ((hash_Sum K key).bind fun r_ => (hash_Tag.j1 K b r_)) else (hash_Tag.j1 K b key)

-- holdfast/seal.blocks$1
def seal_blocks_1.l1 {σ : Type} (Y : σ → (List UInt8) → Option (Bool × σ)) (K : Nat) : Nat → UInt64 → (List UInt8) → σ → UInt64 → Option σ
  | 0, _, _, _, _ => none
  | k + 1, x2, x1, yield1, i => (some ([(115 : UInt8)] : List UInt8)).bind fun l2 => ((seal_eight K x2).bind fun r_ => ((seal_eight K i).bind fun r_1 => ((slices_Concat_byte_byte K ([l2, r_, r_1] : List (List UInt8))).bind fun r_2 => ((hash_Tag K x1 r_2).bind fun r_3 => ((Y yield1 r_3).bind fun q1 => (if q1.1 = true then (seal_blocks_1.l1 Y K k x2 x1 q1.2 (i + (1 : UInt64))) else (some q1.2)))))))
def seal_blocks_1 {σ : Type} (Y : σ → (List UInt8) → Option (Bool × σ)) (K : Nat) (yield : σ) (x1 : List UInt8) (x2 : UInt64) : Option σ :=
  (seal_blocks_1.l1 Y K K x2 x1 yield (0 : UInt64)).bind fun yield2 => (some yield2)

-- holdfast/seal.blocks
def seal_blocks (K : Nat) (key : List UInt8) (once : UInt64) : Option ((List UInt8) × UInt64) :=
  some (key, once)

-- holdfast/seal.Stream
def seal_Stream.y1 (K : Nat) (n1 : Int) (s : (List UInt8)) (x : (List UInt8)) : Option (Option Nat × (List UInt8)) :=
  (fun xs => if (decide (n1 ≤ (xs.length : Int))) = true then (some (some 1, xs)) else ((app 140737488355328 xs x).bind fun xs1 => (some (none, xs1)))) s
def seal_Stream (K : Nat) (key : List UInt8) (once : UInt64) (n1 : Int) : Option ((List UInt8) × Int) :=
  if ((decide (n1 < (0 : Int))) || (decide ((1024 : Int) < n1))) = true then (some ([], (2 : Int))) else ((seal_blocks K key once).bind fun r_ => ((seal_blocks_1 (Yc (seal_Stream.y1 K n1)) K (([] : List UInt8), none) r_.1 r_.2).bind fun q => ((fun xs j => jm j ((sub xs (0 : Int) n1).bind fun ys => (some (ys, (0 : Int)))) (fun j => if j = 1 then ((sub xs (0 : Int) n1).bind fun ys1 => (some (ys1, (0 : Int)))) else none)) q.1 q.2)))

-- holdfast/seal.hidden
def seal_hidden.l1 : Nat → (List UInt8) → (List UInt8) → Int → Option (List UInt8)
  | 0, _, _, _ => none
  | k + 1, b, out, x21 => if (decide (x21 < (b.length : Int))) = true then ((gt b x21).bind fun e => ((gt out x21).bind fun e1 => ((req (0 ≤ x21 ∧ x21 < (out.length : Int))).bind fun u => ((some (out.set (x21).toNat (e1 ^^^ e))).bind fun out2 => (seal_hidden.l1 k b out2 (W (x21 + (1 : Int)))))))) else (some out)
def seal_hidden (K : Nat) (key : List UInt8) (once : UInt64) (b : List UInt8) : Option (List UInt8) :=
  (seal_Stream K key once (b.length : Int)).bind fun r_ => ((seal_hidden.l1 K b r_.1 (0 : Int)).bind fun out1 => (some out1))

-- holdfast/seal.tagOf
def seal_tagOf (K : Nat) (key : List UInt8) (body : List UInt8) : Option (List UInt8) :=
  (some ([(116 : UInt8)] : List UInt8)).bind fun l1 => ((app 140737488355328 l1 body).bind fun l2 => ((hash_Tag K key l2).bind fun r_ => ((req (16 ≤ ((r_.take 16).drop 0).length)).bind fun u => (some (((r_.take 16).drop 0).take 16)))))

-- holdfast/seal.Seal
def seal_Seal (K : Nat) (key : List UInt8) (once : UInt64) (plain : List UInt8) : Option ((List UInt8) × Int) :=
  if (decide ((1024 : Int) < (plain.length : Int))) = true then (some ([], (6 : Int))) else ((seal_eight K once).bind fun r_ => ((seal_hidden K key once plain).bind fun r_1 => ((app 140737488355328 r_ r_1).bind fun r_2 => ((seal_tagOf K key r_2).bind fun r_3 => ((app 140737488355328 r_2 r_3).bind fun r_4 => (some (r_4, (0 : Int))))))))

-- holdfast/holdfastref08.eight
def holdfastref08_eight.l1 : Nat → UInt64 → (List UInt8) → Int → Option (List UInt8)
  | 0, _, _, _ => none
  | k + 1, n1, out, i => if (decide (i < (8 : Int))) = true then ((shc (W ((56 : Int) - (W ((8 : Int) * i))))).bind fun k1 => ((some ([(shr64 n1 (W ((56 : Int) - (W ((8 : Int) * i)))).toNat).toUInt8] : List UInt8)).bind fun l1 => ((app 140737488355328 out l1).bind fun out2 => (holdfastref08_eight.l1 k n1 out2 (W (i + (1 : Int))))))) else (some out)
def holdfastref08_eight (K : Nat) (n1 : UInt64) : Option (List UInt8) :=
  (holdfastref08_eight.l1 K n1 ([] : List UInt8) (0 : Int)).bind fun out1 => (some out1)

-- holdfast/holdfastref07.bytesOf
def holdfastref07_bytesOf.l1 : Nat → (List UInt8) → (List UInt8) → Int → Option (List UInt8)
  | 0, _, _, _ => none
  | k + 1, h, out, i => if (decide (i < (32 : Int))) = true then ((gt h i).bind fun e => ((some ([e] : List UInt8)).bind fun l2 => ((app 140737488355328 out l2).bind fun out2 => (holdfastref07_bytesOf.l1 k h out2 (W (i + (1 : Int))))))) else (some out)
def holdfastref07_bytesOf (K : Nat) (h : List UInt8) : Option (List UInt8) :=
  (holdfastref07_bytesOf.l1 K h ([] : List UInt8) (0 : Int)).bind fun out1 => (some out1)

-- holdfast/holdfastref07.Bytes
def holdfastref07_Bytes (K : Nat) (h : List UInt8) : Option (List UInt8) :=
  (holdfastref07_bytesOf K h).bind fun r_ => (some r_)

-- holdfast/holdfastref07.constants
def holdfastref07_constants (K : Nat) : Option (List UInt32) :=
  (some ([(1116352408 : UInt32), (1899447441 : UInt32), (3049323471 : UInt32), (3921009573 : UInt32), (961987163 : UInt32), (1508970993 : UInt32), (2453635748 : UInt32), (2870763221 : UInt32), (3624381080 : UInt32), (310598401 : UInt32), (607225278 : UInt32), (1426881987 : UInt32), (1925078388 : UInt32), (2162078206 : UInt32), (2614888103 : UInt32), (3248222580 : UInt32), (3835390401 : UInt32), (4022224774 : UInt32), (264347078 : UInt32), (604807628 : UInt32), (770255983 : UInt32), (1249150122 : UInt32), (1555081692 : UInt32), (1996064986 : UInt32), (2554220882 : UInt32), (2821834349 : UInt32), (2952996808 : UInt32), (3210313671 : UInt32), (3336571891 : UInt32), (3584528711 : UInt32), (113926993 : UInt32), (338241895 : UInt32), (666307205 : UInt32), (773529912 : UInt32), (1294757372 : UInt32), (1396182291 : UInt32), (1695183700 : UInt32), (1986661051 : UInt32), (2177026350 : UInt32), (2456956037 : UInt32), (2730485921 : UInt32), (2820302411 : UInt32), (3259730800 : UInt32), (3345764771 : UInt32), (3516065817 : UInt32), (3600352804 : UInt32), (4094571909 : UInt32), (275423344 : UInt32), (430227734 : UInt32), (506948616 : UInt32), (659060556 : UInt32), (883997877 : UInt32), (958139571 : UInt32), (1322822218 : UInt32), (1537002063 : UInt32), (1747873779 : UInt32), (1955562222 : UInt32), (2024104815 : UInt32), (2227730452 : UInt32), (2361852424 : UInt32), (2428436474 : UInt32), (2756734187 : UInt32), (3204031479 : UInt32), (3329325298 : UInt32)] : List UInt32)).bind fun l1 => (some l1)

-- holdfast/holdfastref07.turn
def holdfastref07_turn (K : Nat) (x : UInt32) (n1 : Int) : Option UInt32 :=
  (shc n1).bind fun k1 => ((shc (W ((32 : Int) - n1))).bind fun k2 => (some ((shr32 x (n1).toNat) ||| (shl32 x (W ((32 : Int) - n1)).toNat))))

-- holdfast/holdfastref07.Sum
def holdfastref07_Sum.l1 : Nat → (List UInt8) → Option (List UInt8)
  | 0, _ => none
  | k + 1, m => if (!decide ((m.length : Int).tmod (64 : Int) = (56 : Int))) = true then ((some ([(0 : UInt8)] : List UInt8)).bind fun l3 => ((app 140737488355328 m l3).bind fun m2 => (holdfastref07_Sum.l1 k m2))) else (some m)
def holdfastref07_Sum.l2 : Nat → (List UInt8) → (List UInt8) → Int → Option (List UInt8)
  | 0, _, _, _ => none
  | k + 1, b, m3, i => if (decide (i < (8 : Int))) = true then ((shc (W ((56 : Int) - (W ((8 : Int) * i))))).bind fun k1 => ((some ([(shr64 ((iU64 (b.length : Int)) * (8 : UInt64)) (W ((56 : Int) - (W ((8 : Int) * i)))).toNat).toUInt8] : List UInt8)).bind fun l5 => ((app 140737488355328 m3 l5).bind fun m5 => (holdfastref07_Sum.l2 k b m5 (W (i + (1 : Int))))))) else (some m3)
def holdfastref07_Sum.l5 : Nat → Int → (List UInt8) → Int → (List UInt32) → Int → Option (List UInt32)
  | 0, _, _, _, _, _ => none
  | k + 1, i1, m4, at_, w_22, j => if (decide (j < (4 : Int))) = true then ((gt w_22 i1).bind fun e => ((gt m4 (W ((W (at_ + (W ((4 : Int) * i1)))) + j))).bind fun e1 => ((req (0 ≤ i1 ∧ i1 < (w_22.length : Int))).bind fun u => ((some (w_22.set (i1).toNat ((shl32 e 8) ||| e1.toUInt32))).bind fun w_45 => (holdfastref07_Sum.l5 k i1 m4 at_ w_45 (W (j + (1 : Int)))))))) else (some w_22)
def holdfastref07_Sum.l4 (K : Nat) : Nat → (List UInt8) → Int → (List UInt32) → Int → Option (List UInt32)
  | 0, _, _, _, _ => none
  | k + 1, m4, at_, w_18, i1 => if (decide (i1 < (16 : Int))) = true then ((holdfastref07_Sum.l5 K i1 m4 at_ w_18 (0 : Int)).bind fun w_23 => (holdfastref07_Sum.l4 K k m4 at_ w_23 (W (i1 + (1 : Int))))) else (some w_18)
def holdfastref07_Sum.l6 (K : Nat) : Nat → (List UInt32) → Int → Option (List UInt32)
  | 0, _, _ => none
  | k + 1, w_47, i2 => if (decide (i2 < (64 : Int))) = true then ((gt w_47 (W (i2 - (15 : Int)))).bind fun e2 => ((gt w_47 (W (i2 - (2 : Int)))).bind fun e3 => ((gt w_47 (W (i2 - (16 : Int)))).bind fun e4 => ((holdfastref07_turn K e2 (7 : Int)).bind fun r_1 => ((holdfastref07_turn K e2 (18 : Int)).bind fun r_2 => ((gt w_47 (W (i2 - (7 : Int)))).bind fun e5 => ((holdfastref07_turn K e3 (17 : Int)).bind fun r_3 => ((holdfastref07_turn K e3 (19 : Int)).bind fun r_4 => ((req (0 ≤ i2 ∧ i2 < (w_47.length : Int))).bind fun u1 => ((some (w_47.set (i2).toNat (((e4 + ((r_1 ^^^ r_2) ^^^ (shr32 e2 3))) + e5) + ((r_3 ^^^ r_4) ^^^ (shr32 e3 10))))).bind fun w_95 => (holdfastref07_Sum.l6 K k w_95 (W (i2 + (1 : Int)))))))))))))) else (some w_47)
def holdfastref07_Sum.l7 (K : Nat) : Nat → (List UInt32) → (List UInt32) → (List UInt32) → Int → Option (List UInt32)
  | 0, _, _, _, _ => none
  | k + 1, r_, w_48, v_16, i3 => if (decide (i3 < (64 : Int))) = true then ((gt v_16 (4 : Int)).bind fun e6 => ((holdfastref07_turn K e6 (6 : Int)).bind fun r_5 => ((gt v_16 (4 : Int)).bind fun e7 => ((holdfastref07_turn K e7 (11 : Int)).bind fun r_6 => ((gt v_16 (4 : Int)).bind fun e8 => ((holdfastref07_turn K e8 (25 : Int)).bind fun r_7 => ((gt v_16 (4 : Int)).bind fun e9 => ((gt v_16 (5 : Int)).bind fun e10 => ((gt v_16 (4 : Int)).bind fun e11 => ((gt v_16 (6 : Int)).bind fun e12 => ((gt v_16 (7 : Int)).bind fun e13 => ((gt r_ i3).bind fun e14 => ((gt w_48 i3).bind fun e15 => ((gt v_16 (0 : Int)).bind fun e16 => ((holdfastref07_turn K e16 (2 : Int)).bind fun r_8 => ((gt v_16 (0 : Int)).bind fun e17 => ((holdfastref07_turn K e17 (13 : Int)).bind fun r_9 => ((gt v_16 (0 : Int)).bind fun e18 => ((holdfastref07_turn K e18 (22 : Int)).bind fun r_10 => ((gt v_16 (0 : Int)).bind fun e19 => ((gt v_16 (1 : Int)).bind fun e20 => ((gt v_16 (0 : Int)).bind fun e21 => ((gt v_16 (2 : Int)).bind fun e22 => ((gt v_16 (1 : Int)).bind fun e23 => ((gt v_16 (2 : Int)).bind fun e24 => ((gt v_16 (0 : Int)).bind fun e25 => ((gt v_16 (1 : Int)).bind fun e26 => ((gt v_16 (2 : Int)).bind fun e27 => ((gt v_16 (3 : Int)).bind fun e28 => ((gt v_16 (4 : Int)).bind fun e29 => ((gt v_16 (5 : Int)).bind fun e30 => ((gt v_16 (6 : Int)).bind fun e31 => ((some ([(((((e13 + ((r_5 ^^^ r_6) ^^^ r_7)) + ((e9 &&& e10) ^^^ ((~~~e11) &&& e12))) + e14) + e15) + ((r_8 ^^^ r_9) ^^^ r_10)) + (((e19 &&& e20) ^^^ (e21 &&& e22)) ^^^ (e23 &&& e24)), e25, e26, e27, e28 + ((((e13 + ((r_5 ^^^ r_6) ^^^ r_7)) + ((e9 &&& e10) ^^^ ((~~~e11) &&& e12))) + e14) + e15), e29, e30, e31] : List UInt32)).bind fun l11 => (holdfastref07_Sum.l7 K k r_ w_48 l11 (W (i3 + (1 : Int))))))))))))))))))))))))))))))))))))) else (some v_16)
def holdfastref07_Sum.l8 : Nat → (List UInt32) → (List UInt32) → Int → Option (List UInt32)
  | 0, _, _, _ => none
  | k + 1, v_18, h155, i4 => if (decide (i4 < (8 : Int))) = true then ((gt h155 i4).bind fun e32 => ((gt v_18 i4).bind fun e33 => ((req (0 ≤ i4 ∧ i4 < (h155.length : Int))).bind fun u2 => ((some (h155.set (i4).toNat (e32 + e33))).bind fun h171 => (holdfastref07_Sum.l8 k v_18 h171 (W (i4 + (1 : Int)))))))) else (some h155)
def holdfastref07_Sum.l3 (K : Nat) : Nat → (List UInt8) → (List UInt32) → (List UInt32) → Int → Option (List UInt32)
  | 0, _, _, _, _ => none
  | k + 1, m4, r_, h20, at_ => if (decide (at_ < (m4.length : Int))) = true then ((some (List.replicate 64 (0 : UInt32))).bind fun w_16 => ((holdfastref07_Sum.l4 K K m4 at_ w_16 (0 : Int)).bind fun w_19 => ((holdfastref07_Sum.l6 K K w_19 (16 : Int)).bind fun w_48 => ((app 35184372088832 ([] : List UInt32) h20).bind fun xs2 => ((holdfastref07_Sum.l7 K K r_ w_48 xs2 (0 : Int)).bind fun v_18 => ((holdfastref07_Sum.l8 K v_18 h20 (0 : Int)).bind fun h156 => (holdfastref07_Sum.l3 K k m4 r_ h156 (W (at_ + (64 : Int)))))))))) else (some h20)
def holdfastref07_Sum.l9 : Nat → (List UInt32) → (List UInt8) → Int → Option (List UInt8)
  | 0, _, _, _ => none
  | k + 1, h21, xs3, i5 => if (decide (i5 < (32 : Int))) = true then ((gt h21 (W (i5.tdiv (4 : Int)))).bind fun e34 => ((shc (W ((24 : Int) - (W ((8 : Int) * (i5.tmod (4 : Int))))))).bind fun k2 => ((req (0 ≤ i5 ∧ i5 < (xs3.length : Int))).bind fun u3 => ((some (xs3.set (i5).toNat ((shr32 e34 (W ((24 : Int) - (W ((8 : Int) * (i5.tmod (4 : Int)))))).toNat).toUInt8))).bind fun xs5 => (holdfastref07_Sum.l9 k h21 xs5 (W (i5 + (1 : Int)))))))) else (some xs3)
def holdfastref07_Sum (K : Nat) (b : List UInt8) : Option (List UInt8) :=
  (some ([(1779033703 : UInt32), (3144134277 : UInt32), (1013904242 : UInt32), (2773480762 : UInt32), (1359893119 : UInt32), (2600822924 : UInt32), (528734635 : UInt32), (1541459225 : UInt32)] : List UInt32)).bind fun l1 => ((holdfastref07_constants K).bind fun r_ => ((app 140737488355328 ([] : List UInt8) b).bind fun xs => ((some ([(128 : UInt8)] : List UInt8)).bind fun l2 => ((app 140737488355328 xs l2).bind fun xs1 => ((holdfastref07_Sum.l1 K xs1).bind fun m1 => ((holdfastref07_Sum.l2 K b m1 (0 : Int)).bind fun m4 => ((holdfastref07_Sum.l3 K K m4 r_ l1 (0 : Int)).bind fun h21 => ((holdfastref07_Sum.l9 K h21 (List.replicate 32 (0 : UInt8)) (0 : Int)).bind fun xs4 => (some xs4)))))))))

-- holdfast/holdfastref07.Tag
def holdfastref07_Tag.l1 : Nat → (List UInt8) → Option (List UInt8)
  | 0, _ => none
  | k + 1, k2 => if (decide ((k2.length : Int) < (64 : Int))) = true then ((some ([(0 : UInt8)] : List UInt8)).bind fun l2 => ((app 140737488355328 k2 l2).bind fun k4 => (holdfastref07_Tag.l1 k k4))) else (some k2)
def holdfastref07_Tag.l2 : Nat → (List UInt8) → (List UInt8) → (List UInt8) → Int → Option ((List UInt8) × (List UInt8))
  | 0, _, _, _, _ => none
  | k + 1, k3, in_, out, i => if (decide (i < (64 : Int))) = true then ((gt k3 i).bind fun e => ((some ([e ^^^ (54 : UInt8)] : List UInt8)).bind fun l4 => ((app 140737488355328 in_ l4).bind fun in_2 => ((gt k3 i).bind fun e1 => ((some ([e1 ^^^ (92 : UInt8)] : List UInt8)).bind fun l5 => ((app 140737488355328 out l5).bind fun out2 => (holdfastref07_Tag.l2 k k3 in_2 out2 (W (i + (1 : Int)))))))))) else (some (in_, out))
def holdfastref07_Tag.j1 (K : Nat) (b : List UInt8) (k1 : List UInt8) : Option (List UInt8) :=
  (holdfastref07_Tag.l1 K k1).bind fun k3 => ((holdfastref07_Tag.l2 K k3 ([] : List UInt8) ([] : List UInt8) (0 : Int)).bind fun q1 => ((fun in_1 out1 => (app 140737488355328 in_1 b).bind fun in_3 => ((holdfastref07_Sum K in_3).bind fun r_2 => ((holdfastref07_bytesOf K r_2).bind fun r_3 => ((app 140737488355328 out1 r_3).bind fun out3 => ((holdfastref07_Sum K out3).bind fun r_4 => (some r_4)))))) q1.1 q1.2))
def holdfastref07_Tag (K : Nat) (key : List UInt8) (b : List UInt8) : Option (List UInt8) :=
  (app 140737488355328 ([] : List UInt8) key).bind fun xs => (if (decide ((64 : Int) < (xs.length : Int))) = true then ((holdfastref07_Sum K key).bind fun r_ => ((holdfastref07_bytesOf K r_).bind fun r_1 => (holdfastref07_Tag.j1 K b r_1))) else (holdfastref07_Tag.j1 K b xs))

-- holdfast/holdfastref08.Stream
def holdfastref08_Stream.l1 (K : Nat) : Nat → Int → UInt64 → (List UInt8) → (List UInt8) → Int → Option (List UInt8)
  | 0, _, _, _, _, _ => none
  | k + 1, n1, once, key, out, i => if (decide ((out.length : Int) < n1)) = true then ((some ([(115 : UInt8)] : List UInt8)).bind fun l2 => ((holdfastref08_eight K once).bind fun r_ => ((app 140737488355328 l2 r_).bind fun l3 => ((holdfastref08_eight K (iU64 i)).bind fun r_1 => ((app 140737488355328 l3 r_1).bind fun l4 => ((holdfastref07_Bytes K key).bind fun r_2 => ((holdfastref07_Tag K r_2 l4).bind fun r_3 => ((holdfastref07_Bytes K r_3).bind fun r_4 => ((app 140737488355328 out r_4).bind fun out2 => (holdfastref08_Stream.l1 K k n1 once key out2 (W (i + (1 : Int))))))))))))) else (some out)
def holdfastref08_Stream (K : Nat) (key : List UInt8) (once : UInt64) (n1 : Int) : Option ((List UInt8) × Int) :=
  if ((decide (n1 < (0 : Int))) || (decide ((1024 : Int) < n1))) = true then (some ([], (2 : Int))) else ((holdfastref08_Stream.l1 K K n1 once key ([] : List UInt8) (0 : Int)).bind fun out1 => ((sub out1 (0 : Int) n1).bind fun ys => (some (ys, (0 : Int)))))

-- holdfast/holdfastref08.Tag
def holdfastref08_Tag (K : Nat) (key : List UInt8) (body : List UInt8) : Option (List UInt8) :=
  (some ([(116 : UInt8)] : List UInt8)).bind fun l1 => ((app 140737488355328 l1 body).bind fun l2 => ((holdfastref07_Bytes K key).bind fun r_ => ((holdfastref07_Tag K r_ l2).bind fun r_1 => ((holdfastref07_Bytes K r_1).bind fun r_2 => ((sub r_2 (0 : Int) (16 : Int)).bind fun ys => (some ys))))))

-- holdfast/holdfastref08.Seal
def holdfastref08_Seal.l1 : Nat → (List UInt8) → ((List UInt8) × Int) → (List UInt8) → Int → Option (List UInt8)
  | 0, _, _, _, _ => none
  | k + 1, plain, r_, out, i => if (decide (i < (plain.length : Int))) = true then ((gt plain i).bind fun e => ((gt r_.1 i).bind fun e1 => ((some ([e ^^^ e1] : List UInt8)).bind fun l2 => ((app 140737488355328 out l2).bind fun out2 => (holdfastref08_Seal.l1 k plain r_ out2 (W (i + (1 : Int)))))))) else (some out)
def holdfastref08_Seal (K : Nat) (key : List UInt8) (once : UInt64) (plain : List UInt8) : Option ((List UInt8) × Int) :=
  (holdfastref08_Stream K key once (plain.length : Int)).bind fun r_ => (if (!decide (r_.2 = (0 : Int))) = true then (some ([], (6 : Int))) else ((holdfastref08_eight K once).bind fun r_1 => ((holdfastref08_Seal.l1 K plain r_ r_1 (0 : Int)).bind fun out1 => ((holdfastref08_Tag K key out1).bind fun r_2 => ((app 140737488355328 out1 r_2).bind fun out3 => (some (out3, (0 : Int))))))))

-- holdfast/seal.Size
def seal_Size (K : Nat) (plain : Int) : Option Int :=
  if ((decide (plain < (0 : Int))) || (decide ((1024 : Int) < plain))) = true then (some (0 : Int)) else (some (W (plain + (24 : Int))))

-- holdfast/seal.Open
def seal_Open.l1 : Nat → (List UInt8) → UInt64 → Int → Option UInt64
  | 0, _, _, _ => none
  | k + 1, ys2, once, x37 => if (decide (x37 < (ys2.length : Int))) = true then ((gt ys2 x37).bind fun e => (seal_Open.l1 k ys2 ((shl64 once 8) ||| e.toUInt64) (W (x37 + (1 : Int))))) else (some once)
def seal_Open (K : Nat) (key : List UInt8) (sealed : List UInt8) : Option ((List UInt8) × UInt64 × Int) :=
  (seal_Size K (0 : Int)).bind fun r_ => (if (decide ((sealed.length : Int) < r_)) = true then (some ([], (0 : UInt64), (3 : Int))) else ((seal_Size K (1024 : Int)).bind fun r_1 => (if (decide (r_1 < (sealed.length : Int))) = true then (some ([], (0 : UInt64), (6 : Int))) else ((sub sealed (0 : Int) (W ((sealed.length : Int) - (16 : Int)))).bind fun ys => ((seal_tagOf K key ys).bind fun r_2 => ((sub sealed (W ((sealed.length : Int) - (16 : Int))) (sealed.length : Int)).bind fun ys1 => ((req (16 ≤ ys1.length)).bind fun u => (if (!decide (r_2 = (ys1.take 16))) = true then (some ([], (0 : UInt64), (10 : Int))) else ((sub sealed (0 : Int) (8 : Int)).bind fun ys2 => ((seal_Open.l1 K ys2 (0 : UInt64) (0 : Int)).bind fun once1 => ((sub sealed (8 : Int) (W ((sealed.length : Int) - (16 : Int)))).bind fun ys3 => ((seal_hidden K key once1 ys3).bind fun r_3 => (some (r_3, once1, (0 : Int)))))))))))))))

-- holdfast/holdfastref01.SameBytes
def holdfastref01_SameBytes.l1 : Nat → (List UInt8) → (List UInt8) → Int → Option (Lr Bool Unit)
  | 0, _, _, _ => none
  | k + 1, a1, b, i => if (decide (i < (a1.length : Int))) = true then ((gt a1 i).bind fun e => ((gt b i).bind fun e1 => (if (!decide (e = e1)) = true then (some (.ret false)) else (holdfastref01_SameBytes.l1 k a1 b (W (i + (1 : Int))))))) else (some (.go ()))
def holdfastref01_SameBytes (K : Nat) (a1 : List UInt8) (b : List UInt8) : Option Bool :=
  if (!decide ((a1.length : Int) = (b.length : Int))) = true then (some false) else ((holdfastref01_SameBytes.l1 K a1 b (0 : Int)).bind fun q => (lrc q (fun a => some a) (fun _ => some true)))

-- holdfast/holdfastref08.Open
def holdfastref08_Open.l1 : Nat → (List UInt8) → UInt64 → Int → Option UInt64
  | 0, _, _, _ => none
  | k + 1, sealed, once, i => if (decide (i < (8 : Int))) = true then ((gt sealed i).bind fun e => (holdfastref08_Open.l1 k sealed ((shl64 once 8) ||| e.toUInt64) (W (i + (1 : Int))))) else (some once)
def holdfastref08_Open.l2 : Nat → (List UInt8) → ((List UInt8) × Int) → (List UInt8) → Int → Option (List UInt8)
  | 0, _, _, _, _ => none
  | k + 1, sealed, r_2, out, i1 => if (decide (i1 < W ((sealed.length : Int) - (24 : Int)))) = true then ((gt sealed (W ((8 : Int) + i1))).bind fun e1 => ((gt r_2.1 i1).bind fun e2 => ((some ([e1 ^^^ e2] : List UInt8)).bind fun l3 => ((app 140737488355328 out l3).bind fun out2 => (holdfastref08_Open.l2 k sealed r_2 out2 (W (i1 + (1 : Int)))))))) else (some out)
def holdfastref08_Open (K : Nat) (key : List UInt8) (sealed : List UInt8) : Option ((List UInt8) × UInt64 × Int) :=
  if (decide ((sealed.length : Int) < (24 : Int))) = true then (some ([], (0 : UInt64), (3 : Int))) else (if (decide ((1048 : Int) < (sealed.length : Int))) = true then (some ([], (0 : UInt64), (6 : Int))) else ((sub sealed (0 : Int) (W ((sealed.length : Int) - (16 : Int)))).bind fun ys => ((holdfastref08_Tag K key ys).bind fun r_ => ((sub sealed (W ((sealed.length : Int) - (16 : Int))) (sealed.length : Int)).bind fun ys1 => ((holdfastref01_SameBytes K r_ ys1).bind fun r_1 => (if (!r_1) = true then (some ([], (0 : UInt64), (10 : Int))) else ((holdfastref08_Open.l1 K sealed (0 : UInt64) (0 : Int)).bind fun once1 => ((holdfastref08_Stream K key once1 (W ((sealed.length : Int) - (24 : Int)))).bind fun r_2 => ((holdfastref08_Open.l2 K sealed r_2 ([] : List UInt8) (0 : Int)).bind fun out1 => (some (out1, once1, (0 : Int))))))))))))

-- holdfast/holdfastlaw08.live
def holdfastlaw08_live (K : Nat) : Option Bool :=
  (some ([(1 : UInt8), (0 : UInt8), (0 : UInt8), (0 : UInt8), (0 : UInt8), (0 : UInt8), (0 : UInt8), (0 : UInt8), (0 : UInt8), (0 : UInt8), (0 : UInt8), (0 : UInt8), (0 : UInt8), (0 : UInt8), (0 : UInt8), (0 : UInt8), (0 : UInt8), (0 : UInt8), (0 : UInt8), (0 : UInt8), (0 : UInt8), (0 : UInt8), (0 : UInt8), (0 : UInt8), (0 : UInt8), (0 : UInt8), (0 : UInt8), (0 : UInt8), (0 : UInt8), (0 : UInt8), (0 : UInt8), (0 : UInt8)] : List UInt8)).bind fun l1 => ((some ([(97 : UInt8), (98 : UInt8)] : List UInt8)).bind fun l2 => ((seal_Seal K l1 (7 : UInt64) l2).bind fun r_ => ((some ([(1 : UInt8), (0 : UInt8), (0 : UInt8), (0 : UInt8), (0 : UInt8), (0 : UInt8), (0 : UInt8), (0 : UInt8), (0 : UInt8), (0 : UInt8), (0 : UInt8), (0 : UInt8), (0 : UInt8), (0 : UInt8), (0 : UInt8), (0 : UInt8), (0 : UInt8), (0 : UInt8), (0 : UInt8), (0 : UInt8), (0 : UInt8), (0 : UInt8), (0 : UInt8), (0 : UInt8), (0 : UInt8), (0 : UInt8), (0 : UInt8), (0 : UInt8), (0 : UInt8), (0 : UInt8), (0 : UInt8), (0 : UInt8)] : List UInt8)).bind fun l3 => ((seal_Open K l3 r_.1).bind fun r_1 => ((some ([(2 : UInt8), (0 : UInt8), (0 : UInt8), (0 : UInt8), (0 : UInt8), (0 : UInt8), (0 : UInt8), (0 : UInt8), (0 : UInt8), (0 : UInt8), (0 : UInt8), (0 : UInt8), (0 : UInt8), (0 : UInt8), (0 : UInt8), (0 : UInt8), (0 : UInt8), (0 : UInt8), (0 : UInt8), (0 : UInt8), (0 : UInt8), (0 : UInt8), (0 : UInt8), (0 : UInt8), (0 : UInt8), (0 : UInt8), (0 : UInt8), (0 : UInt8), (0 : UInt8), (0 : UInt8), (0 : UInt8), (0 : UInt8)] : List UInt8)).bind fun l5 => ((seal_Open K l5 r_.1).bind fun r_2 => ((if ((decide (r_.2 = (0 : Int))) && (decide ((r_.1.length : Int) = (26 : Int)))) = true then ((seal_Size K (2 : Int)).bind fun r_3 => (some (decide (r_3 = (26 : Int))))) else some false).bind fun b => (some ((((b && (decide (r_1.2.2 = (0 : Int)))) && (decide (r_1.2.1 = (7 : UInt64)))) && (decide (r_1.1 = ([97, 98] : List UInt8)))) && (decide (r_2.2.2 = (10 : Int))))))))))))

-- holdfast/holdfastlaw08.SealSeals
def holdfastlaw08_SealSeals (K : Nat) (key : List UInt8) (once : UInt64) (l1_0 : List UInt8) (l1_1 : List UInt8) : Option Bool :=
  (seal_Seal K key once l1_0).bind fun r_ => ((holdfastref08_Seal K key once l1_0).bind fun r_1 => ((seal_Open K key l1_1).bind fun r_2 => ((holdfastref08_Open K key l1_1).bind fun r_3 => ((holdfastlaw08_live K).bind fun r_4 => ((if r_4 = true then ((holdfastref01_SameBytes K r_.1 r_1.1).bind fun r_5 => (some r_5)) else some false).bind fun b => ((if (b && (decide (r_.2 = r_1.2))) = true then ((holdfastref01_SameBytes K r_2.1 r_3.1).bind fun r_6 => (some r_6)) else some false).bind fun b1 => (some ((b1 && (decide (r_2.2.1 = r_3.2.1))) && (decide (r_2.2.2 = r_3.2.2))))))))))

-- holdfast/holdfastlaw08.SealStreams
def holdfastlaw08_SealStreams.j1 (K : Nat) (r_ : (List UInt8) × Int) (r_1 : (List UInt8) × Int) (n1 : Int) (size : Int) : Option Bool :=
  (holdfastlaw08_live K).bind fun r_2 => ((if r_2 = true then ((holdfastref01_SameBytes K r_.1 r_1.1).bind fun r_3 => (some r_3)) else some false).bind fun b => ((if (b && (decide (r_.2 = r_1.2))) = true then ((seal_Size K n1).bind fun r_4 => (some (decide (r_4 = size)))) else some false).bind fun b1 => (some b1)))
def holdfastlaw08_SealStreams (K : Nat) (key : List UInt8) (once : UInt64) (n1 : Int) : Option Bool :=
  (seal_Stream K key once n1).bind fun r_ => ((holdfastref08_Stream K key once n1).bind fun r_1 => (if ((decide ((0 : Int) ≤ n1)) && (decide (n1 ≤ (1024 : Int)))) = true then (holdfastlaw08_SealStreams.j1 K r_ r_1 n1 (W (n1 + (24 : Int)))) else (holdfastlaw08_SealStreams.j1 K r_ r_1 n1 (0 : Int))))

-- holdfast/holdfastlaw08.SealBack
def holdfastlaw08_SealBack (K : Nat) (key : List UInt8) (once : UInt64) (plain : List UInt8) : Option Bool :=
  (seal_Seal K key once plain).bind fun r_ => (if (decide ((1024 : Int) < (plain.length : Int))) = true then ((holdfastlaw08_live K).bind fun r_1 => (some (r_1 && (decide (r_.2 = (6 : Int)))))) else ((seal_Open K key r_.1).bind fun r_2 => ((holdfastlaw08_live K).bind fun r_3 => ((if (((r_3 && (decide (r_.2 = (0 : Int)))) && (decide (r_2.2.2 = (0 : Int)))) && (decide (r_2.2.1 = once))) = true then ((holdfastref01_SameBytes K r_2.1 plain).bind fun r_4 => (some r_4)) else some false).bind fun b => ((if b = true then ((seal_Size K (plain.length : Int)).bind fun r_5 => (some (decide ((r_.1.length : Int) = r_5)))) else some false).bind fun b1 => (some b1))))))

-- holdfast/holdfastlaw08.SealHides
def holdfastlaw08_SealHides.l1 : Nat → (List UInt8) → ((List UInt8) × Int) → ((List UInt8) × Int) → (List UInt8) → Int → Option (Lr Bool Unit)
  | 0, _, _, _, _, _ => none
  | k + 1, l1_0, r_1, r_2, l1_1, i => if (decide (i < (l1_0.length : Int))) = true then ((gt r_1.1 (W ((8 : Int) + i))).bind fun e => ((gt r_2.1 (W ((8 : Int) + i))).bind fun e1 => ((gt l1_0 i).bind fun e2 => ((gt l1_1 i).bind fun e3 => (if (!decide (e ^^^ e1 = e2 ^^^ e3)) = true then (some (.ret false)) else (holdfastlaw08_SealHides.l1 k l1_0 r_1 r_2 l1_1 (W (i + (1 : Int))))))))) else (some (.go ()))
def holdfastlaw08_SealHides (K : Nat) (key : List UInt8) (once : UInt64) (l1_0 : List UInt8) (l1_1 : List UInt8) : Option Bool :=
  if ((!decide ((l1_0.length : Int) = (l1_1.length : Int))) || (decide ((1024 : Int) < (l1_0.length : Int)))) = true then ((holdfastlaw08_live K).bind fun r_ => (some r_)) else ((seal_Seal K key once l1_0).bind fun r_1 => ((seal_Seal K key once l1_1).bind fun r_2 => (if ((((!decide (r_1.2 = (0 : Int))) || (!decide (r_2.2 = (0 : Int)))) || (!decide ((r_1.1.length : Int) = W ((l1_0.length : Int) + (24 : Int))))) || (!decide ((r_2.1.length : Int) = W ((l1_0.length : Int) + (24 : Int))))) = true then (some false) else ((holdfastlaw08_SealHides.l1 K l1_0 r_1 r_2 l1_1 (0 : Int)).bind fun q => (lrc q (fun a => some a) (fun _ => (holdfastlaw08_live K).bind fun r_3 => (some r_3)))))))

-- holdfast/holdfastref01.Copy
def holdfastref01_Copy (K : Nat) (b : List UInt8) : Option (List UInt8) :=
  (app 140737488355328 ([] : List UInt8) b).bind fun xs => (some xs)

-- holdfast/holdfastlaw08.SealTells
def holdfastlaw08_SealTells (K : Nat) (key : List UInt8) (plain : List UInt8) (spoil : List UInt8) : Option Bool :=
  (seal_Seal K key (5 : UInt64) plain).bind fun r_ => (if (!decide (r_.2 = (0 : Int))) = true then ((holdfastlaw08_live K).bind fun r_1 => (some (r_1 && (decide (r_.2 = (6 : Int)))))) else (if (decide ((r_.1.length : Int) < (24 : Int))) = true then (some false) else ((holdfastref01_Copy K r_.1).bind fun r_2 => ((req ((r_2.length : Int) ≠ 0)).bind fun u => ((gt r_2 (((spoil.getD 0 0).toNat : Int).tmod (r_2.length : Int))).bind fun e => ((req (0 ≤ ((spoil.getD 0 0).toNat : Int).tmod (r_2.length : Int) ∧ ((spoil.getD 0 0).toNat : Int).tmod (r_2.length : Int) < (r_2.length : Int))).bind fun u1 => ((some (r_2.set (((spoil.getD 0 0).toNat : Int).tmod (r_2.length : Int)).toNat (e ^^^ (spoil.getD 1 0)))).bind fun r_3 => ((seal_Open K key r_3).bind fun r_4 => ((sub r_3 (0 : Int) (W ((r_3.length : Int) - (16 : Int)))).bind fun ys => ((holdfastref08_Tag K key ys).bind fun r_5 => ((sub r_3 (W ((r_3.length : Int) - (16 : Int))) (r_3.length : Int)).bind fun ys1 => ((holdfastref01_SameBytes K r_5 ys1).bind fun r_6 => (if r_6 = true then ((holdfastlaw08_live K).bind fun r_7 => (some (r_7 && (decide (r_4.2.2 = (0 : Int)))))) else ((holdfastlaw08_live K).bind fun r_8 => (some (((r_8 && (decide (r_4.2.2 = (10 : Int)))) && (decide ((r_4.1.length : Int) = (0 : Int)))) && (decide (r_4.2.1 = (0 : UInt64)))))))))))))))))))

-- holdfast/holdfastlaw08.SealStarts
def holdfastlaw08_SealStarts.j1 (K : Nat) (key : List UInt8) (once : UInt64) (m : Int) (n1 : Int) : Option Bool :=
  (seal_Stream K key once m).bind fun r_ => ((seal_Stream K key once n1).bind fun r_1 => ((holdfastlaw08_live K).bind fun r_2 => ((if ((((r_2 && (decide (r_.2 = (0 : Int)))) && (decide (r_1.2 = (0 : Int)))) && (decide ((r_.1.length : Int) = m))) && (decide ((r_1.1.length : Int) = n1))) = true then ((sub r_1.1 (0 : Int) m).bind fun ys => ((holdfastref01_SameBytes K r_.1 ys).bind fun r_3 => (some r_3))) else some false).bind fun b => (some b))))
def holdfastlaw08_SealStarts (K : Nat) (key : List UInt8) (once : UInt64) (l1 : List UInt16) : Option Bool :=
  if (decide (((l1.getD 1 0).toNat : Int).tmod (1025 : Int) < ((l1.getD 0 0).toNat : Int).tmod (1025 : Int))) = true then (holdfastlaw08_SealStarts.j1 K key once (((l1.getD 1 0).toNat : Int).tmod (1025 : Int)) (((l1.getD 0 0).toNat : Int).tmod (1025 : Int))) else (holdfastlaw08_SealStarts.j1 K key once (((l1.getD 0 0).toNat : Int).tmod (1025 : Int)) (((l1.getD 1 0).toNat : Int).tmod (1025 : Int)))

-- holdfast/holdfastlaw08.SealNumber
def holdfastlaw08_SealNumber.l1 : Nat → ((List UInt8) × Int) → UInt64 → Int → Option UInt64
  | 0, _, _, _ => none
  | k + 1, r_1, n1, i => if (decide (i < (8 : Int))) = true then ((gt r_1.1 i).bind fun e => (holdfastlaw08_SealNumber.l1 k r_1 ((shl64 n1 8) ||| e.toUInt64) (W (i + (1 : Int))))) else (some n1)
def holdfastlaw08_SealNumber.l2 : Nat → (List UInt8) → Int → Option Unit
  | 0, _, _ => none
  | k + 1, p_2, i1 => if (decide (i1 < (p_2.length : Int))) = true then ((req (0 ≤ i1 ∧ i1 < (p_2.length : Int))).bind fun u => ((some (p_2.set (i1).toNat (0 : UInt8))).bind fun p_4 => (holdfastlaw08_SealNumber.l2 k p_4 (W (i1 + (1 : Int)))))) else (some ())
def holdfastlaw08_SealNumber (K : Nat) (key : List UInt8) (once : UInt64) (plain : List UInt8) : Option Bool :=
  (holdfastref01_Copy K plain).bind fun r_ => ((seal_Seal K key once r_).bind fun r_1 => (if (!decide (r_1.2 = (0 : Int))) = true then ((holdfastlaw08_live K).bind fun r_2 => (some (r_2 && (decide (r_1.2 = (6 : Int)))))) else (if (decide ((r_1.1.length : Int) < (24 : Int))) = true then (some false) else ((holdfastlaw08_SealNumber.l1 K r_1 (0 : UInt64) (0 : Int)).bind fun n2 => ((holdfastref01_Copy K r_1.1).bind fun r_3 => ((seal_Open K key r_1.1).bind fun r_4 => ((holdfastlaw08_SealNumber.l2 K r_4.1 (0 : Int)).bind fun q1 => ((holdfastlaw08_live K).bind fun r_5 => ((if ((r_5 && (decide (n2 = once))) && (decide (r_4.2.2 = (0 : Int)))) = true then ((holdfastref01_SameBytes K r_ plain).bind fun r_6 => (some r_6)) else some false).bind fun b => ((if b = true then ((holdfastref01_SameBytes K r_1.1 r_3).bind fun r_7 => (some r_7)) else some false).bind fun b1 => (some b1)))))))))))
end Go.Proofs.Ytbbenllkjpomdaa
