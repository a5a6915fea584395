/-
  Joined by strip.py from plain texts of another seat.
-/
import Derived.Test.YtjgbakieogadfabGreatDoorPure
import Derived.Test.YtjgbakieogadfabGreatDoorLib13
import Derived.KernelRfl
namespace Go.Proofs.YtjgbakieogadfabGreatDoor
open Go L
theorem rot_m (K:Nat) (x:UInt32):bits_RotateLeft32 K x (-7:Int)=some (shl32 x 25 ||| shr32 x 7)∧bits_RotateLeft32 K x (-18:Int)=some (shl32 x 14 ||| shr32 x 18) ∧
    bits_RotateLeft32 K x (-17:Int)=some (shl32 x 15 ||| shr32 x 17)∧bits_RotateLeft32 K x (-19:Int)=some (shl32 x 13 ||| shr32 x 19) ∧
    bits_RotateLeft32 K x (-6:Int)=some (shl32 x 26 ||| shr32 x 6)∧bits_RotateLeft32 K x (-11:Int)=some (shl32 x 21 ||| shr32 x 11)∧bits_RotateLeft32 K x (-25:Int)=some (shl32 x 7 ||| shr32 x 25) ∧
    bits_RotateLeft32 K x (-2:Int)=some (shl32 x 30 ||| shr32 x 2)∧bits_RotateLeft32 K x (-13:Int)=some (shl32 x 19 ||| shr32 x 13)∧bits_RotateLeft32 K x (-22:Int)=some (shl32 x 10 ||| shr32 x 22) :=
  ⟨rfl,rfl,rfl,rfl,rfl,rfl,rfl,rfl,rfl,rfl⟩
theorem turn_m (K:Nat) (x:UInt32):hr07_turn K x (7:Int)=some (shl32 x 25 ||| shr32 x 7)∧hr07_turn K x (18:Int)=some (shl32 x 14 ||| shr32 x 18) ∧
    hr07_turn K x (17:Int)=some (shl32 x 15 ||| shr32 x 17)∧hr07_turn K x (19:Int)=some (shl32 x 13 ||| shr32 x 19) ∧
    hr07_turn K x (6:Int)=some (shl32 x 26 ||| shr32 x 6)∧hr07_turn K x (11:Int)=some (shl32 x 21 ||| shr32 x 11)∧hr07_turn K x (25:Int)=some (shl32 x 7 ||| shr32 x 25) ∧
    hr07_turn K x (2:Int)=some (shl32 x 30 ||| shr32 x 2)∧hr07_turn K x (13:Int)=some (shl32 x 19 ||| shr32 x 13)∧hr07_turn K x (22:Int)=some (shl32 x 10 ||| shr32 x 22):=by
  refine ⟨?_,?_,?_,?_,?_,?_,?_,?_,?_,?_⟩ <;> (rw [or_comm32];rfl)
def sg0 (x:UInt32):UInt32:=((shl32 x 25 ||| shr32 x 7) ^^^ (shl32 x 14 ||| shr32 x 18)) ^^^ (shr32 x 3)
def sg1 (x:UInt32):UInt32:=((shl32 x 15 ||| shr32 x 17) ^^^ (shl32 x 13 ||| shr32 x 19)) ^^^ (shr32 x 10)
def nxt (xs:List UInt32) (i:Nat):UInt32:=((xs.getD (i-16) 0+sg0 (xs.getD (i-15) 0))+xs.getD (i-7) 0)+sg1 (xs.getD (i-2) 0)
def fillS:Nat→Nat→List UInt32→List UInt32
  | 0,_,xs=>xs
  | n+1,i,xs=>fillS n (i+1) (xs.set i (nxt xs i))
theorem fillS_len:∀ (n i:Nat) (xs:List UInt32),(fillS n i xs).length=xs.length
  | 0,_,_=>rfl
  | n+1,i,xs=>by rw [fillS,fillS_len n];simp
theorem gt_sub {xs:List UInt32} {i j:Nat} (h0:j≤i) (h1:i-j<xs.length) (hx:i<1000):gt xs (W ((i:Int)-(j:Int)))=some (xs.getD (i-j) 0):=by
  rw [W_id (by omega) (by omega),show ((i:Int)-(j:Int))=((i-j:Nat):Int) by omega]
  exact gt_nat 0 h1
theorem mix_l1_late (K:Nat) (b:List UInt8):∀ (n i k:Nat) (xs:List UInt32),i+n=64→16≤i→xs.length=64→n<k→hash_words_mix.l1 K k b xs (i:Int)=some (fillS n i xs)
  | 0,i,k+1,xs,h1,_,_,_=>by
    rw [hash_words_mix.l1,if_neg (nt (dec_f (by omega)))];rfl
  | n+1,i,k+1,xs,h1,h2,h3,h4=>by
    have ih:=mix_l1_late K b n (i+1) k (xs.set i (nxt xs i)) (by omega) (by omega) (by simpa using h3) (by omega)
    have g15:=gt_sub (xs:=xs) (i:=i) (j:=15) (by omega) (by omega) (by omega)
    have g2:=gt_sub (xs:=xs) (i:=i) (j:=2) (by omega) (by omega) (by omega)
    have g16:=gt_sub (xs:=xs) (i:=i) (j:=16) (by omega) (by omega) (by omega)
    have g7:=gt_sub (xs:=xs) (i:=i) (j:=7) (by omega) (by omega) (by omega)
    have hr:req (0≤(i:Int)∧(i:Int)<(xs.length:Int))=some ():=req_ok ⟨by omega,by omega⟩
    rw [hash_words_mix.l1,if_pos (dec_t (by omega)),if_neg (nt (dec_f (by omega)))]
    obtain ⟨r1,r2,r3,r4,-⟩:=rot_m K (xs.getD (i-15) 0)
    obtain ⟨-,-,q3,q4,-⟩:=rot_m K (xs.getD (i-2) 0)
    simp only [Int.cast_ofNat_Int] at g15 g2 g16 g7
    simp only [g15,g2,g16,g7,hr,r1,r2,q3,q4,Option.bind_some,W_succ (show i<9223372036854775807 by omega),Int.toNat_natCast]
    exact ih
theorem ref_l6 (K:Nat):∀ (n i k:Nat) (xs:List UInt32),i+n=64→16≤i→xs.length=64→n<k→hr07_Sum.l6 K k xs (i:Int)=some (fillS n i xs)
  | 0,i,k+1,xs,h1,_,_,_=>by
    rw [hr07_Sum.l6,if_neg (nt (dec_f (by omega)))];rfl
  | n+1,i,k+1,xs,h1,h2,h3,h4=>by
    have ih:=ref_l6 K n (i+1) k (xs.set i (nxt xs i)) (by omega) (by omega) (by simpa using h3) (by omega)
    have g15:=gt_sub (xs:=xs) (i:=i) (j:=15) (by omega) (by omega) (by omega)
    have g2:=gt_sub (xs:=xs) (i:=i) (j:=2) (by omega) (by omega) (by omega)
    have g16:=gt_sub (xs:=xs) (i:=i) (j:=16) (by omega) (by omega) (by omega)
    have g7:=gt_sub (xs:=xs) (i:=i) (j:=7) (by omega) (by omega) (by omega)
    have hr:req (0≤(i:Int)∧(i:Int)<(xs.length:Int))=some ():=req_ok ⟨by omega,by omega⟩
    rw [hr07_Sum.l6,if_pos (dec_t (by omega))]
    obtain ⟨r1,r2,-⟩:=turn_m K (xs.getD (i-15) 0)
    obtain ⟨-,-,q3,q4,-⟩:=turn_m K (xs.getD (i-2) 0)
    simp only [Int.cast_ofNat_Int] at g15 g2 g16 g7
    simp only [g15,g2,g16,g7,hr,r1,r2,q3,q4,Option.bind_some,W_succ (show i<9223372036854775807 by omega),Int.toNat_natCast]
    exact ih
open Go L
def S1 (x:UInt32):UInt32:=((shl32 x 26 ||| shr32 x 6) ^^^ (shl32 x 21 ||| shr32 x 11)) ^^^ (shl32 x 7 ||| shr32 x 25)
def S0 (x:UInt32):UInt32:=((shl32 x 30 ||| shr32 x 2) ^^^ (shl32 x 19 ||| shr32 x 13)) ^^^ (shl32 x 10 ||| shr32 x 22)
def tS (k w e f g h:UInt32):UInt32:=(((h+S1 e)+(g ^^^ (e &&& (f ^^^ g))))+k)+w
def uS (a b c:UInt32):UInt32:=S0 a+((a &&& b) ||| (c &&& (a ||| b)))
def rndS (k w:UInt32):List UInt32→List UInt32
  | [a,b,c,d,e,f,g,h]=>[tS k w e f g h+uS a b c,a,b,c,d+tS k w e f g h,e,f,g]
  | v=>v
theorem rndS_len (k w:UInt32) (v:List UInt32) (h:v.length=8):(rndS k w v).length=8:=by
  obtain ⟨a,b,c,d,e,f,g,i,rfl⟩:=len8 h;rfl
def roundsS (ks ws:List UInt32):Nat→Nat→List UInt32→List UInt32
  | 0,_,v=>v
  | n+1,i,v=>roundsS ks ws n (i+1) (rndS (ks.getD i 0) (ws.getD i 0) v)
theorem roundsS_len (ks ws:List UInt32):∀ (n i:Nat) (v:List UInt32),v.length=8→(roundsS ks ws n i v).length=8
  | 0,_,_,h=>h
  | n+1,i,v,h=>by rw [roundsS];exact roundsS_len ks ws n (i+1) _ (rndS_len _ _ _ h)
theorem mix_l2 (K:Nat) (ks ws:List UInt32) (hk:ks.length=64) (hw:ws.length=64):∀ (n i k:Nat) (v:List UInt32),i+n=64→v.length=8→n<k →
    hash_words_mix.l2 K k ks ws v (i:Int)=some (roundsS ks ws n i v)
  | 0,i,k+1,v,h1,_,_=>by
    rw [hash_words_mix.l2,if_neg (nt (dec_f (by omega)))];rfl
  | n+1,i,k+1,v,h1,h3,h4=>by
    have ih:=mix_l2 K ks ws hk hw n (i+1) k (rndS (ks.getD i 0) (ws.getD i 0) v) (by omega) (rndS_len _ _ _ h3) (by omega)
    have gk:gt ks (i:Int)=some (ks.getD i 0):=gt_nat 0 (by omega)
    have gw:gt ws (i:Int)=some (ws.getD i 0):=gt_nat 0 (by omega)
    obtain ⟨a,b,c,d,e,f,g,h,rfl⟩:=len8 h3
    rw [hash_words_mix.l2,if_pos (dec_t (by omega))]
    obtain ⟨-,-,-,-,r5,r6,r7,-⟩:=rot_m K e
    obtain ⟨-,-,-,-,-,-,-,r8,r9,r10⟩:=rot_m K a
    have e4:([a,b,c,d,e,f,g,h]:List UInt32).getD 4 0=e:=rfl
    have e0:([a,b,c,d,e,f,g,h]:List UInt32).getD 0 0=a:=rfl
    simp only [e4,e0,r5,r6,r7,r8,r9,r10,gk,gw,Option.bind_some,W_succ (show i<9223372036854775807 by omega)]
    exact ih
theorem ref_l7 (K:Nat) (ks ws:List UInt32) (hk:ks.length=64) (hw:ws.length=64):∀ (n i k:Nat) (v:List UInt32),i+n=64→v.length=8→n<k →
    hr07_Sum.l7 K k ks ws v (i:Int)=some (roundsS ks ws n i v)
  | 0,i,k+1,v,h1,_,_=>by
    rw [hr07_Sum.l7,if_neg (nt (dec_f (by omega)))];rfl
  | n+1,i,k+1,v,h1,h3,h4=>by
    have ih:=ref_l7 K ks ws hk hw n (i+1) k (rndS (ks.getD i 0) (ws.getD i 0) v) (by omega) (rndS_len _ _ _ h3) (by omega)
    have gk:gt ks (i:Int)=some (ks.getD i 0):=gt_nat 0 (by omega)
    have gw:gt ws (i:Int)=some (ws.getD i 0):=gt_nat 0 (by omega)
    obtain ⟨a,b,c,d,e,f,g,h,rfl⟩:=len8 h3
    rw [hr07_Sum.l7,if_pos (dec_t (by omega))]
    obtain ⟨-,-,-,-,r5,r6,r7,-⟩:=turn_m K e
    obtain ⟨-,-,-,-,-,-,-,r8,r9,r10⟩:=turn_m K a
    have q0:gt ([a,b,c,d,e,f,g,h]:List UInt32) (0:Int)=some a:=rfl
    have q1:gt ([a,b,c,d,e,f,g,h]:List UInt32) (1:Int)=some b:=rfl
    have q2:gt ([a,b,c,d,e,f,g,h]:List UInt32) (2:Int)=some c:=rfl
    have q3:gt ([a,b,c,d,e,f,g,h]:List UInt32) (3:Int)=some d:=rfl
    have q4:gt ([a,b,c,d,e,f,g,h]:List UInt32) (4:Int)=some e:=rfl
    have q5:gt ([a,b,c,d,e,f,g,h]:List UInt32) (5:Int)=some f:=rfl
    have q6:gt ([a,b,c,d,e,f,g,h]:List UInt32) (6:Int)=some g:=rfl
    have q7:gt ([a,b,c,d,e,f,g,h]:List UInt32) (7:Int)=some h:=rfl
    simp only [q0,q1,q2,q3,q4,q5,q6,q7,r5,r6,r7,r8,r9,r10,gk,gw,Option.bind_some,W_succ (show i<9223372036854775807 by omega),ch_eq,maj_eq,UInt32.add_assoc]
    have hs:rndS (ks.getD i 0) (ws.getD i 0) [a,b,c,d,e,f,g,h]=[tS (ks.getD i 0) (ws.getD i 0) e f g h+uS a b c,a,b,c,d+tS (ks.getD i 0) (ws.getD i 0) e f g h,e,f,g]:=rfl
    rw [hs] at ih
    simp only [tS,uS,S0,S1,UInt32.add_assoc] at ih
    rw [roundsS,hs]
    simp only [tS,uS,S0,S1,UInt32.add_assoc]
    exact ih
def addS (h v:List UInt32):List UInt32:=List.zipWith (· + ·) h v
theorem mix_l3 {h v:List UInt32} (hh:h.length=8) (hv:v.length=8) (k:Nat):hash_words_mix.l3 (k+9) v h (0:Int)=some (addS h v):=by
  obtain ⟨a,b,c,d,e,f,g,i,rfl⟩:=len8 hh
  obtain ⟨a',b',c',d',e',f',g',i',rfl⟩:=len8 hv
  rfl
theorem ref_l8 {h v:List UInt32} (hh:h.length=8) (hv:v.length=8) (k:Nat):hr07_Sum.l8 (k+9) v h (0:Int)=some (addS h v):=by
  obtain ⟨a,b,c,d,e,f,g,i,rfl⟩:=len8 hh
  obtain ⟨a',b',c',d',e',f',g',i',rfl⟩:=len8 hv
  rfl
theorem addS_len {h v:List UInt32} (hh:h.length=8) (hv:v.length=8):(addS h v).length=8:=by simp [addS,hh,hv]
open Go L
def word (b:List UInt8) (i:Nat):UInt32 :=
  ((shl32 (b.getD (4*i) 0).toUInt32 24 ||| shl32 (b.getD (4*i+1) 0).toUInt32 16) ||| shl32 (b.getD (4*i+2) 0).toUInt32 8) ||| (b.getD (4*i+3) 0).toUInt32
def earlyS (b:List UInt8):Nat→Nat→List UInt32→List UInt32
  | 0,_,xs=>xs
  | n+1,i,xs=>earlyS b n (i+1) (xs.set i (word b i))
theorem earlyS_len (b:List UInt8):∀ (n i:Nat) (xs:List UInt32),(earlyS b n i xs).length=xs.length
  | 0,_,_=>rfl
  | n+1,i,xs=>by rw [earlyS,earlyS_len b n];simp
theorem gt_at {α:Type} {xs:List α} {x:Int} (d:α) (i:Nat) (hx:x=(i:Int)) (h:i<xs.length):gt xs x=some (xs.getD i d):=by subst hx; exact gt_nat d h
theorem mix_l1 (K:Nat) (b:List UInt8) (hb:64≤b.length):∀ (n i k:Nat) (xs:List UInt32),i+n=16→xs.length=64→n+48<k →
    hash_words_mix.l1 K k b xs (i:Int)=some (fillS 48 16 (earlyS b n i xs))
  | 0,i,k,xs,h1,h3,h4=>by
    have:i=16:=by omega
    subst this
    exact mix_l1_late K b 48 16 k xs rfl (by omega) h3 (by omega)
  | n+1,i,k+1,xs,h1,h3,h4=>by
    have ih:=mix_l1 K b hb n (i+1) k (xs.set i (word b i)) (by omega) (by simpa using h3) (by omega)
    have w4:W ((4:Int)*(i:Int))=((4*i:Nat):Int):=by rw [W_id (by omega) (by omega)];omega
    have g0:gt b ((4*i:Nat):Int)=some (b.getD (4*i) 0):=gt_nat 0 (by omega)
    have g1:gt b (W (((4*i:Nat):Int)+1))=some (b.getD (4*i+1) 0):=gt_at 0 _ (by rw [W_id (by omega) (by omega)];omega) (by omega)
    have g2:gt b (W (((4*i:Nat):Int)+2))=some (b.getD (4*i+2) 0):=gt_at 0 _ (by rw [W_id (by omega) (by omega)];omega) (by omega)
    have g3:gt b (W (((4*i:Nat):Int)+3))=some (b.getD (4*i+3) 0):=gt_at 0 _ (by rw [W_id (by omega) (by omega)];omega) (by omega)
    have hr:req (0≤(i:Int)∧(i:Int)<(xs.length:Int))=some ():=req_ok ⟨by omega,by omega⟩
    rw [hash_words_mix.l1,if_pos (dec_t (by omega)),if_pos (dec_t (by omega))]
    simp only [w4,g0,g1,g2,g3,hr,Option.bind_some,W_succ (show i<9223372036854775807 by omega),Int.toNat_natCast]
    exact ih
def mixS (ks h:List UInt32) (b:List UInt8):List UInt32:=addS h (roundsS ks (fillS 48 16 (earlyS b 16 0 (List.replicate 64 0))) 64 0 h)
theorem mix_eq (K:Nat) (hK:65≤K) (ks h:List UInt32) (b:List UInt8) (hk:ks.length=64) (hh:h.length=8) (hb:64≤b.length):hash_words_mix K h ks b=some (mixS ks h b):=by
  have h1:=mix_l1 K b hb 16 0 K (List.replicate 64 0) rfl (by simp) (by omega)
  have hl:(fillS 48 16 (earlyS b 16 0 (List.replicate 64 0))).length=64:=by rw [fillS_len,earlyS_len];simp
  have h2:=mix_l2 K ks _ hk hl 64 0 K h rfl hh (by omega)
  have h3:=mix_l3 (h:=h) (v:=roundsS ks (fillS 48 16 (earlyS b 16 0 (List.replicate 64 0))) 64 0 h) hh (roundsS_len _ _ _ _ _ hh) (K-9)
  rw [show K-9+9=K by omega] at h3
  unfold hash_words_mix
  simp only [Int.natCast_zero] at h1 h2
  rw [h1];simp only [Option.bind_some]
  rw [h2];simp only [Option.bind_some]
  rw [h3];rfl
theorem mixS_len (ks h:List UInt32) (b:List UInt8) (hh:h.length=8):(mixS ks h b).length=8:=addS_len hh (roundsS_len _ _ _ _ _ hh)
-- the reference's
theorem shl_or (x y:UInt32) (n:Nat):shl32 (x ||| y) n=shl32 x n ||| shl32 y n:=by
  unfold shl32
  apply UInt32.toBitVec_inj.1
  simp [BitVec.shiftLeft_or_distrib]
theorem shl_shl (x:UInt32) (n m:Nat):shl32 (shl32 x n) m=shl32 x (n+m):=by
  unfold shl32
  apply UInt32.toBitVec_inj.1
  simp [BitVec.shiftLeft_add]
theorem shl_z (n:Nat):shl32 0 n=0:=by
  unfold shl32
  apply UInt32.toBitVec_inj.1
  simp
theorem z_or (x:UInt32):0 ||| x=x:=by
  apply u32_ext
  intro i hi
  simp
theorem ref_l5 (k:Nat) (m:List UInt8) (at_ i:Nat) (ws:List UInt32) (hi:i<16) (hw:ws.length=64) (h0:ws.getD i 0=0) (hm:at_+64≤m.length) (hb:m.length<4611686018427387904) :
    hr07_Sum.l5 (k+5) (i:Int) m (at_:Int) ws (0:Int)=some (ws.set i (word (m.drop at_) i)):=by
  have w4:W ((4:Int)*(i:Int))=((4*i:Nat):Int):=by rw [W_id (by omega) (by omega)];omega
  have wa:W ((at_:Int)+((4*i:Nat):Int))=((at_+4*i:Nat):Int):=by rw [W_id (by omega) (by omega)];omega
  have hd:∀ j,(m.drop at_).getD j 0=m.getD (at_+j) 0:=fun j=>by simp [List.getD_eq_getElem?_getD,List.getElem?_drop]
  have gm:∀ (j:Nat) (x:Int),x=(j:Int)→j<4→gt m (W (((at_+4*i:Nat):Int)+x))=some ((m.drop at_).getD (4*i+j) 0):=fun j x hx hj=>by
    rw [hd];exact gt_at 0 _ (by rw [hx,W_id (by omega) (by omega)];omega) (by omega)
  have gw:∀ v:UInt32,gt (ws.set i v) (i:Int)=some v:=fun v=>by
    rw [gt_nat 0 (by simp;omega)];congr 1;simp [List.getD_eq_getElem?_getD,show i<ws.length by omega]
  have gw0:gt ws (i:Int)=some 0:=by rw [gt_nat 0 (by omega),h0]
  have hr:∀ v:UInt32,req (0≤(i:Int)∧(i:Int)<((ws.set i v).length:Int))=some ():=fun v=>req_ok ⟨by omega,by simp;omega⟩
  have hr0:req (0≤(i:Int)∧(i:Int)<(ws.length:Int))=some ():=req_ok ⟨by omega,by omega⟩
  have e1:W ((0:Int)+1)=1:=rfl
  have e2:W ((1:Int)+1)=2:=rfl
  have e3:W ((2:Int)+1)=3:=rfl
  have e4:W ((3:Int)+1)=4:=rfl
  rw [hr07_Sum.l5,if_pos (dec_t (by omega))]
  simp only [w4,wa,gm 0 0 rfl (by omega),gw0,hr0,Option.bind_some,Int.toNat_natCast,e1]
  rw [hr07_Sum.l5,if_pos (dec_t (by omega))]
  simp only [w4,wa,gm 1 1 rfl (by omega),gw,hr,Option.bind_some,Int.toNat_natCast,e2,List.set_set]
  rw [hr07_Sum.l5,if_pos (dec_t (by omega))]
  simp only [w4,wa,gm 2 2 rfl (by omega),gw,hr,Option.bind_some,Int.toNat_natCast,e3,List.set_set]
  rw [hr07_Sum.l5,if_pos (dec_t (by omega))]
  simp only [w4,wa,gm 3 3 rfl (by omega),gw,hr,Option.bind_some,Int.toNat_natCast,e4,List.set_set]
  rw [hr07_Sum.l5,if_neg (nt (dec_f (by omega)))]
  congr 2
  simp only [shl_z,z_or,shl_or,shl_shl,word,Nat.add_zero]
theorem ref_l4 (K:Nat) (hK:5≤K) (m:List UInt8) (at_:Nat) (hm:at_+64≤m.length) (hb:m.length<4611686018427387904):∀ (n i k:Nat) (ws:List UInt32),i+n=16→ws.length=64→(∀ j,i≤j→ws.getD j 0=0)→n<k →
    hr07_Sum.l4 K k m (at_:Int) ws (i:Int)=some (earlyS (m.drop at_) n i ws)
  | 0,i,k+1,ws,h1,h3,hz,h4=>by
    rw [hr07_Sum.l4,if_neg (nt (dec_f (by omega)))];rfl
  | n+1,i,k+1,ws,h1,h3,hz,h4=>by
    have ih:=ref_l4 K hK m at_ hm hb n (i+1) k (ws.set i (word (m.drop at_) i)) (by omega) (by simpa using h3) (fun j hj=>by
      have:=hz j (by omega)
      simp only [List.getD_eq_getElem?_getD] at this ⊢
      rw [List.getElem?_set_ne (by omega)];exact this) (by omega)
    have h5:=ref_l5 (K-5) m at_ i ws (by omega) h3 (hz i (Nat.le_refl _)) hm hb
    rw [show K-5+5=K by omega] at h5
    rw [hr07_Sum.l4,if_pos (dec_t (by omega)),h5]
    simp only [Option.bind_some,W_succ (show i<9223372036854775807 by omega)]
    exact ih
open Go L
theorem word_congr {b c:List UInt8} (h:∀ j,j<64→b.getD j 0=c.getD j 0) (i:Nat) (hi:i<16):word b i=word c i:=by
  unfold word
  rw [h _ (by omega),h _ (by omega),h _ (by omega),h _ (by omega)]
theorem earlyS_congr {b c:List UInt8} (h:∀ j,j<64→b.getD j 0=c.getD j 0):∀ (n i:Nat) (xs:List UInt32),i+n=16→earlyS b n i xs=earlyS c n i xs
  | 0,_,_,_=>rfl
  | n+1,i,xs,hi=>by rw [earlyS,earlyS,word_congr h i (by omega)];exact earlyS_congr h n (i+1) _ (by omega)
theorem mixS_congr {b c:List UInt8} (ks hh:List UInt32) (h:∀ j,j<64→b.getD j 0=c.getD j 0):mixS ks hh b=mixS ks hh c:=by
  unfold mixS;rw [earlyS_congr h 16 0 _ rfl]
theorem getD_app {b p:List UInt8} {j:Nat} (h:j<b.length):(b ++ p).getD j 0=b.getD j 0:=by
  simp [List.getD_eq_getElem?_getD,List.getElem?_append_left h]
def blocksN (ks:List UInt32):Nat→List UInt32→List UInt8→List UInt32
  | 0,h,_=>h
  | n+1,h,m=>blocksN ks n (mixS ks h m) (m.drop 64)
theorem blocksN_len (ks:List UInt32):∀ (n:Nat) (h:List UInt32) (m:List UInt8),h.length=8→(blocksN ks n h m).length=8
  | 0,_,_,hh=>hh
  | n+1,h,m,hh=>blocksN_len ks n _ _ (mixS_len ks h m hh)
theorem blocksN_add (ks:List UInt32):∀ (q r:Nat) (h:List UInt32) (m:List UInt8),blocksN ks (q+r) h m=blocksN ks r (blocksN ks q h m) (m.drop (64*q))
  | 0,r,h,m=>by simp [blocksN]
  | q+1,r,h,m=>by
    rw [show q+1+r=(q+r)+1 by omega,blocksN,blocksN_add ks q r,blocksN,List.drop_drop]
    rw [show 64+64*q=64*(q+1) by omega]
theorem blocksN_app (ks:List UInt32) (p:List UInt8):∀ (q:Nat) (h:List UInt32) (b:List UInt8),64*q≤b.length→blocksN ks q h (b ++ p)=blocksN ks q h b
  | 0,_,_,_=>rfl
  | q+1,h,b,hb=>by
    rw [blocksN,blocksN,mixS_congr ks h (c:=b) (fun j hj=>getD_app (by omega)),List.drop_append_of_le_length (by omega)]
    exact blocksN_app ks p q _ _ (by simp;omega)
theorem sum_l1 (K:Nat) (hK:65≤K) (ks:List UInt32) (hk:ks.length=64):∀ (q k:Nat) (h:List UInt32) (b:List UInt8),h.length=8→64*q≤b.length→b.length<64*q+64→b.length<4611686018427387904→q<k →
    hash_Sum.l1 K k ks b h=some (b.drop (64*q),blocksN ks q h b)
  | 0,k+1,h,b,hh,h1,h2,h3,h4=>by
    rw [hash_Sum.l1,if_neg (nt (dec_f (by omega)))];simp [blocksN]
  | q+1,k+1,h,b,hh,h1,h2,h3,h4=>by
    have ih:=sum_l1 K hK ks hk q k (mixS ks h b) (b.drop 64) (mixS_len ks h b hh) (by simp;omega) (by simp;omega) (by simp;omega) (by omega)
    rw [hash_Sum.l1,if_pos (dec_t (by omega)),mix_eq K hK ks h b hk hh (by omega)]
    simp only [Option.bind_some]
    rw [sub_ok (by omega) (by omega) (by omega)]
    simp only [Option.bind_some,Int.toNat_natCast,List.take_length,show (64:Int).toNat=64 from rfl]
    rw [ih,List.drop_drop,blocksN,show 64+64*q=64*(q+1) by omega]
theorem sum_l3 (K:Nat) (hK:65≤K) (ks:List UInt32) (hk:ks.length=64):∀ (t k:Nat) (h:List UInt32) (m:List UInt8),h.length=8→m.length=64*t→m.length<4611686018427387904→t<k →
    hash_Sum.l3 K k ks h m=some (blocksN ks t h m)
  | 0,k+1,h,m,hh,h1,h3,h4=>by
    rw [hash_Sum.l3,if_neg (nt (dec_f (by omega)))];rfl
  | t+1,k+1,h,m,hh,h1,h3,h4=>by
    have ih:=sum_l3 K hK ks hk t k (mixS ks h m) (m.drop 64) (mixS_len ks h m hh) (by simp;omega) (by simp;omega) (by omega)
    rw [hash_Sum.l3,if_pos (dec_t (by omega)),mix_eq K hK ks h m hk hh (by omega)]
    simp only [Option.bind_some]
    rw [sub_ok (by omega) (by omega) (by omega)]
    simp only [Option.bind_some,Int.toNat_natCast,List.take_length,show (64:Int).toNat=64 from rfl]
    rw [ih,blocksN]
theorem ref_l3 (K:Nat) (hK:65≤K) (ks:List UInt32) (hk:ks.length=64) (m:List UInt8) (hb:m.length<4611686018427387000):∀ (t k at_:Nat) (h:List UInt32),h.length=8→m.length=at_+64*t→t<k →
    hr07_Sum.l3 K k m ks h (at_:Int)=some (blocksN ks t h (m.drop at_))
  | 0,k+1,at_,h,hh,h1,h4=>by
    rw [hr07_Sum.l3,if_neg (nt (dec_f (by omega)))];rfl
  | t+1,k+1,at_,h,hh,h1,h4=>by
    have ih:=ref_l3 K hK ks hk m hb t k (at_+64) (mixS ks h (m.drop at_)) (mixS_len ks h _ hh) (by omega) (by omega)
    have h5:=ref_l4 K (by omega) m at_ (by omega) (by omega) 16 0 K (List.replicate 64 0) rfl (by simp) (fun j _=>by
      simp only [List.getD_eq_getElem?_getD,List.getElem?_replicate];split <;> rfl) (by omega)
    have h6:=ref_l6 K 48 16 K (earlyS (m.drop at_) 16 0 (List.replicate 64 0)) rfl (by omega) (by rw [earlyS_len];simp) (by omega)
    have hl:(fillS 48 16 (earlyS (m.drop at_) 16 0 (List.replicate 64 0))).length=64:=by rw [fillS_len,earlyS_len];simp
    have h7:=ref_l7 K ks _ hk hl 64 0 K h rfl hh (by omega)
    have h8:=ref_l8 (h:=h) (v:=roundsS ks (fillS 48 16 (earlyS (m.drop at_) 16 0 (List.replicate 64 0))) 64 0 h) hh (roundsS_len _ _ _ _ _ hh) (K-9)
    rw [show K-9+9=K by omega] at h8
    simp only [Int.natCast_zero] at h5 h7
    rw [show ((16:Nat):Int)=16 from rfl] at h6
    rw [hr07_Sum.l3,if_pos (dec_t (by omega))]
    simp only [Option.bind_some]
    rw [h5];simp only [Option.bind_some]
    rw [h6];simp only [Option.bind_some]
    rw [app_ok (by simp [hh])];simp only [Option.bind_some,List.nil_append]
    rw [h7];simp only [Option.bind_some]
    rw [h8];simp only [Option.bind_some]
    rw [show W ((at_:Int)+(64:Int))=((at_+64:Nat):Int) by rw [W_id (by omega) (by omega)];omega]
    have hm:addS h (roundsS ks (fillS 48 16 (earlyS (m.drop at_) 16 0 (List.replicate 64 0))) 64 0 h)=mixS ks h (m.drop at_):=rfl
    rw [hm,ih,blocksN,List.drop_drop]
def beS (v:UInt64):Nat→Nat→List UInt8
  | 0,_=>[]
  | n+1,i=>(shr64 v (56-8*i)).toUInt8 :: beS v n (i+1)
theorem beS_len (v:UInt64):∀ n i,(beS v n i).length=n
  | 0,_=>rfl
  | n+1,i=>by rw [beS,List.length_cons,beS_len v n]
theorem w56 {i:Nat} (hi:i<8):W ((56:Int)-W ((8:Int)*(i:Int)))=((56-8*i:Nat):Int):=by
  rw [W_id (n:=(8:Int)*(i:Int)) (by omega) (by omega),W_id (by omega) (by omega)];omega
theorem sum_l2 (b:List UInt8):∀ (n i k:Nat) (xs:List UInt8),i+n=8→xs.length+n<140737488355000→n<k→hash_Sum.l2 k b xs (i:Int)=some (xs ++ beS (shl64 (iU64 (b.length:Int)) 3) n i)
  | 0,i,k+1,xs,h1,h2,h3=>by rw [hash_Sum.l2,if_neg (nt (dec_f (by omega)))];simp [beS]
  | n+1,i,k+1,xs,h1,h2,h3=>by
    have ih:=sum_l2 b n (i+1) k (xs++[(shr64 (shl64 (iU64 (b.length:Int)) 3) (56-8*i)).toUInt8]) (by omega) (by simp;omega) (by omega)
    rw [hash_Sum.l2,if_pos (dec_t (by omega)),w56 (by omega),shc_ok (by omega)]
    simp only [Option.bind_some,Int.toNat_natCast]
    rw [app_ok (by simp;omega)]
    simp only [Option.bind_some,W_succ (show i<9223372036854775807 by omega)]
    rw [ih,beS];simp
theorem ref_l2 (b:List UInt8):∀ (n i k:Nat) (xs:List UInt8),i+n=8→xs.length+n<140737488355000→n<k→hr07_Sum.l2 k b xs (i:Int)=some (xs ++ beS (iU64 (b.length:Int)*8) n i)
  | 0,i,k+1,xs,h1,h2,h3=>by rw [hr07_Sum.l2,if_neg (nt (dec_f (by omega)))];simp [beS]
  | n+1,i,k+1,xs,h1,h2,h3=>by
    have ih:=ref_l2 b n (i+1) k (xs++[(shr64 (iU64 (b.length:Int)*8) (56-8*i)).toUInt8]) (by omega) (by simp;omega) (by omega)
    rw [hr07_Sum.l2,if_pos (dec_t (by omega)),w56 (by omega),shc_ok (by omega)]
    simp only [Option.bind_some,Int.toNat_natCast]
    rw [app_ok (by simp;omega)]
    simp only [Option.bind_some,W_succ (show i<9223372036854775807 by omega)]
    rw [ih,beS];simp
theorem shl3 (x:UInt64):shl64 x 3=x*8:=by
  unfold shl64
  apply UInt64.toBitVec_inj.1
  apply BitVec.eq_of_toNat_eq
  show (x.toBitVec <<< 3).toNat=(x.toBitVec*8#64).toNat
  rw [BitVec.toNat_shiftLeft,BitVec.toNat_mul,Nat.shiftLeft_eq];rfl
theorem ref_l1:∀ (z k:Nat) (m:List UInt8),z<64→(m.length+z) % 64=56→m.length+z<140737488355000→z<k→hr07_Sum.l1 k m=some (m ++ List.replicate z 0)
  | 0,k+1,m,h0,h1,h2,h3=>by
    rw [hr07_Sum.l1,if_neg]
    · simp
    · have:((m.length:Int).tmod 64)=56:=by rw [Int.tmod_eq_emod_of_nonneg (by omega)];omega
      simp [this]
  | z+1,k+1,m,h0,h1,h2,h3=>by
    have ih:=ref_l1 z k (m++[0]) (by omega) (by simp;omega) (by
      simp;omega) (by omega)
    rw [hr07_Sum.l1,if_pos]
    · simp only [Option.bind_some]
      rw [app_ok (by simp;omega)]
      simp only [Option.bind_some]
      rw [ih,List.append_assoc];rfl
    · have:((m.length:Int).tmod 64) ≠ 56:=by rw [Int.tmod_eq_emod_of_nonneg (by omega)];omega
      simp [this]
open Go L
def KS:List UInt32:=(hash_rounds 0).getD []
theorem rounds_eq (K:Nat):hash_rounds K=some KS:=rfl
theorem constants_eq (K:Nat):hr07_constants K=some KS:=rfl
theorem KS_len:KS.length=64:=by kernel_rfl
def H0:List UInt32:=[1779033703,3144134277,1013904242,2773480762,1359893119,2600822924,528734635,1541459225]
def outS (h:List UInt32):List UInt8:=h.flatMap fun e=>[(shr32 e 24).toUInt8,(shr32 e 16).toUInt8,(shr32 e 8).toUInt8,e.toUInt8]
theorem outS_len {h:List UInt32} (hh:h.length=8):(outS h).length=32:=by
  obtain ⟨a,b,c,d,e,f,g,i,rfl⟩:=len8 hh;rfl
theorem sum_l4 {h:List UInt32} (hh:h.length=8) (k:Nat):hash_Sum.l4 (k+9) h (List.replicate 32 (0:UInt8)) (0:Int)=some (outS h):=by
  obtain ⟨a,b,c,d,e,f,g,i,rfl⟩:=len8 hh;kernel_rfl
theorem ref_l9 {h:List UInt32} (hh:h.length=8) (k:Nat):hr07_Sum.l9 (k+33) h (List.replicate 32 (0:UInt8)) (0:Int)=some (outS h):=by
  obtain ⟨a,b,c,d,e,f,g,i,rfl⟩:=len8 hh;kernel_rfl
def padZ (n:Nat):Nat:=(119-n % 64) % 64
def padS (b:List UInt8):List UInt8:=b ++ ([128] ++ List.replicate (padZ b.length) 0 ++ beS (iU64 (b.length:Int)*8) 8 0)
theorem padS_len (b:List UInt8):(padS b).length=b.length+1+padZ b.length+8:=by
  simp [padS,beS_len];omega
theorem padS_mod (b:List UInt8):(padS b).length=64*((padS b).length / 64):=by
  rw [padS_len];unfold padZ;omega
def shaS (b:List UInt8):List UInt8:=outS (blocksN KS ((padS b).length / 64) H0 (padS b))
theorem shaS_len (b:List UInt8):(shaS b).length=32:=outS_len (blocksN_len _ _ _ _ rfl)
theorem sum_eq (K:Nat) (b:List UInt8) (hK:65≤K) (hb:b.length<140737488350000) (hKb:b.length / 64+3<K):hash_Sum K b=some (shaS b):=by
  obtain ⟨q,hq⟩:∃ q,q=b.length / 64:=⟨_,rfl⟩
  have h1:=sum_l1 K hK KS KS_len q K H0 b rfl (by omega) (by omega) (by omega) (by omega)
  obtain ⟨r,hr⟩:∃ r,b.drop (64*q)=r:=⟨_,rfl⟩
  have hrl:r.length=b.length % 64:=by rw [← hr];simp;omega
  have hz:(W ((119:Int)-(r.length:Int))).tmod 64=((padZ b.length:Nat):Int):=by
    rw [W_id (by omega) (by omega),Int.tmod_eq_emod_of_nonneg (by omega)];unfold padZ;omega
  obtain ⟨e,he⟩:∃ e,(r++[128]++List.replicate (padZ b.length) 0)++beS (shl64 (iU64 (b.length:Int)) 3) 8 0=e:=⟨_,rfl⟩
  have hzl:padZ b.length<64:=by unfold padZ;omega
  have h2:=sum_l2 b 8 0 K (r++[128]++List.replicate (padZ b.length) 0) rfl (by simp;omega) (by omega)
  rw [he] at h2
  have hel:e.length=r.length+1+padZ b.length+8:=by rw [← he];simp [beS_len];omega
  obtain ⟨t,ht⟩:∃ t,t=e.length / 64:=⟨_,rfl⟩
  have het:e.length=64*t:=by rw [ht,hel,hrl];unfold padZ;omega
  have h3:=sum_l3 K hK KS KS_len t K (blocksN KS q H0 b) e (blocksN_len _ _ _ _ rfl) het (by omega) (by omega)
  have h4:=sum_l4 (h:=blocksN KS t (blocksN KS q H0 b) e) (blocksN_len _ _ _ _ (blocksN_len _ _ _ _ rfl)) (K-9)
  rw [show K-9+9=K by omega] at h4
  have hpad:(padS b).drop (64*q)=e:=by
    unfold padS
    rw [List.drop_append_of_le_length (by omega),hr,← he,shl3];simp
  have hfin:blocksN KS t (blocksN KS q H0 b) e=blocksN KS ((padS b).length / 64) H0 (padS b):=by
    have hT:(padS b).length / 64=q+t:=by
      have h5:(padS b).length=64*q+e.length:=by rw [← hpad];simp;rw [padS_len];omega
      omega
    rw [hT,blocksN_add,hpad]
    congr 1
    unfold padS
    exact (blocksN_app KS _ q H0 b (by omega)).symm
  unfold hash_Sum
  simp only [Option.bind_some,rounds_eq]
  have hH:([1779033703,3144134277,1013904242,2773480762,1359893119,2600822924,528734635,1541459225]:List UInt32)=H0:=rfl
  rw [hH,h1]
  simp only [Option.bind_some,hr]
  unfold bytes_Clone
  rw [app_ok (by simp;omega)]
  simp only [Option.bind_some,List.nil_append]
  rw [app_ok (by simp;omega)]
  simp only [Option.bind_some,hz]
  rw [mks_ok (by omega) (by omega)]
  simp only [Option.bind_some,Int.toNat_natCast]
  rw [app_ok (by simp;omega)]
  simp only [Option.bind_some]
  rw [show ((0:Nat):Int)=0 from rfl] at h2
  rw [h2];simp only [Option.bind_some]
  rw [h3];simp only [Option.bind_some]
  rw [h4];simp only [Option.bind_some]
  rw [hfin];rfl
theorem refsum_eq (K:Nat) (b:List UInt8) (hK:65≤K) (hb:b.length<140737488350000) (hKb:b.length / 64+3<K):hr07_Sum K b=some (shaS b):=by
  have hzl:padZ b.length<64:=by unfold padZ;omega
  have h1:=ref_l1 (padZ b.length) K (b++[128]) hzl (by simp;unfold padZ;omega) (by simp;omega) (by omega)
  have h2:=ref_l2 b 8 0 K (b++[128]++List.replicate (padZ b.length) 0) rfl (by simp;omega) (by omega)
  have hp:b++[128]++List.replicate (padZ b.length) 0++beS (iU64 (b.length:Int)*8) 8 0=padS b:=by unfold padS;simp
  rw [hp] at h2
  have hl:=padS_len b
  have h3:=ref_l3 K hK KS KS_len (padS b) (by omega) ((padS b).length / 64) K 0 H0 rfl (by have:=padS_mod b;omega) (by omega)
  have h4:=ref_l9 (h:=blocksN KS ((padS b).length / 64) H0 (padS b)) (blocksN_len _ _ _ _ rfl) (K-33)
  rw [show K-33+33=K by omega] at h4
  have hH:([1779033703,3144134277,1013904242,2773480762,1359893119,2600822924,528734635,1541459225]:List UInt32)=H0:=rfl
  unfold hr07_Sum
  simp only [Option.bind_some,constants_eq]
  rw [app_ok (by simp;omega)]
  simp only [Option.bind_some,List.nil_append]
  rw [app_ok (by simp;omega)]
  simp only [Option.bind_some]
  rw [h1];simp only [Option.bind_some]
  rw [show ((0:Nat):Int)=0 from rfl] at h2 h3
  rw [h2];simp only [Option.bind_some]
  rw [hH,h3];simp only [Option.bind_some,List.drop_zero]
  rw [h4];rfl
open Go L
section
variable {α β:Type}
theorem take_succ' {p:List α} {i:Nat} (d:α) (h:i<p.length):p.take (i+1)=p.take i ++ [p.getD i d]:=by
  rw [List.take_add_one,List.getElem?_eq_getElem h,List.getD_eq_getElem?_getD,List.getElem?_eq_getElem h];rfl
theorem drop_succ' {p:List α} {i:Nat} (d:α) (h:i<p.length):p.drop i=p.getD i d :: p.drop (i+1):=by
  rw [List.drop_eq_getElem_cons h,List.getD_eq_getElem?_getD,List.getElem?_eq_getElem h];rfl
def mid (f:α→α) (p:List α) (i:Nat):List α:=(p.take i).map f ++ p.drop i
theorem mid_len (f:α→α) (p:List α) (i:Nat) (h:i≤p.length):(mid f p i).length=p.length:=by simp [mid]; omega
theorem mid_get (f:α→α) (p:List α) (i:Nat) (d:α) (h:i<p.length):(mid f p i).getD i d=p.getD i d:=by
  unfold mid
  rw [drop_succ' d h,List.getD_eq_getElem?_getD,List.getElem?_append_right (by simp;omega)]
  simp [Nat.min_eq_left (Nat.le_of_lt h)]
theorem mid_set (f:α→α) (p:List α) (i:Nat) (d:α) (h:i<p.length):(mid f p i).set i (f (p.getD i d))=mid f p (i+1):=by
  unfold mid
  rw [take_succ' d h,drop_succ' d h,List.set_append_right _ _ (by simp;omega)]
  simp [Nat.min_eq_left (Nat.le_of_lt h)]
theorem mid_zero (f:α→α) (p:List α):mid f p 0=p:=by simp [mid]
theorem mid_all (f:α→α) (p:List α):mid f p p.length=p.map f:=by simp [mid]
end
def pk (key:List UInt8):List UInt8:=key ++ List.replicate (64-key.length) 0
theorem pk_len {key:List UInt8} (h:key.length≤64):(pk key).length=64:=by simp [pk]; omega
def tagS (key b:List UInt8):List UInt8:=shaS ((pk key).map (· ^^^ 92) ++ shaS ((pk key).map (· ^^^ 54) ++ b))
theorem tagS_len (key b:List UInt8):(tagS key b).length=32:=shaS_len _
theorem tag_l1 (p:List UInt8) (hp:p.length=64):∀ (n i k:Nat),i+n=64→n<k→hash_Tag.l1 k (mid (· ^^^ 54) p i) (mid (· ^^^ 92) p i) (i:Int)=some (p.map (· ^^^ 54),p.map (· ^^^ 92))
  | 0,i,k+1,h1,h2=>by
    have:i=p.length:=by omega
    rw [hash_Tag.l1,if_neg (nt (dec_f (by omega))),this,mid_all,mid_all]
  | n+1,i,k+1,h1,h2=>by
    have ih:=tag_l1 p hp n (i+1) k (by omega) (by omega)
    have hi:i<p.length:=by omega
    have g1:gt (mid (· ^^^ 54) p i) (i:Int)=some (p.getD i 0):=by rw [gt_nat 0 (by rw [mid_len _ _ _ (by omega)];omega),mid_get _ _ _ _ hi]
    have g2:gt (mid (· ^^^ 92) p i) (i:Int)=some (p.getD i 0):=by rw [gt_nat 0 (by rw [mid_len _ _ _ (by omega)];omega),mid_get _ _ _ _ hi]
    have r1:req (0≤(i:Int)∧(i:Int)<((mid (· ^^^ 54) p i).length:Int))=some ():=req_ok ⟨by omega,by rw [mid_len _ _ _ (by omega)];omega⟩
    have r2:req (0≤(i:Int)∧(i:Int)<((mid (· ^^^ 92) p i).length:Int))=some ():=req_ok ⟨by omega,by rw [mid_len _ _ _ (by omega)];omega⟩
    rw [hash_Tag.l1,if_pos (dec_t (by omega))]
    simp only [g1,g2,r1,r2,Option.bind_some,Int.toNat_natCast,W_succ (show i<9223372036854775807 by omega)]
    rw [mid_set (· ^^^ 54) p i 0 hi,mid_set (· ^^^ 92) p i 0 hi]
    exact ih
theorem tag_eq (K:Nat) (key b:List UInt8) (hk:key.length≤64) (hb:b.length<140737488340000) (hK:100≤K) (hKb:b.length / 64+8<K):hash_Tag K key b=some (tagS key b):=by
  have h1:=tag_l1 (pk key) (pk_len hk) 64 0 K rfl (by omega)
  rw [mid_zero,mid_zero,show ((0:Nat):Int)=0 from rfl] at h1
  have hx:(List.replicate 64 (0:UInt8)).take 0++key.take 64++(List.replicate 64 (0:UInt8)).drop (0+min key.length 64)=pk key:=by
    unfold pk
    rw [List.take_of_length_le hk,Nat.min_eq_left hk,List.take_zero,List.nil_append,Nat.zero_add,List.drop_replicate]
  unfold hash_Tag
  rw [if_neg (nt (dec_f (by omega)))]
  unfold hash_Tag.j1
  simp only [hx,Option.bind_some]
  rw [h1];simp only [Option.bind_some]
  have hl:=pk_len hk
  rw [app_ok (by simp [hl];omega)];simp only [Option.bind_some]
  rw [sum_eq K _ (by omega) (by simp [hl];omega) (by simp [hl];omega)];simp only [Option.bind_some]
  rw [app_ok (by simp [hl,shaS_len])];simp only [Option.bind_some]
  rw [sum_eq K _ (by omega) (by simp [hl,shaS_len]) (by simp [hl,shaS_len];omega)];rfl
-- the reference's
theorem ref_bytes_l1 (h:List UInt8) (hh:h.length=32):∀ (n i k:Nat),i+n=32→n<k→hr07_bytesOf.l1 k h (h.take i) (i:Int)=some h
  | 0,i,k+1,h1,h2=>by
    rw [hr07_bytesOf.l1,if_neg (nt (dec_f (by omega))),List.take_of_length_le (by omega)]
  | n+1,i,k+1,h1,h2=>by
    have ih:=ref_bytes_l1 h hh n (i+1) k (by omega) (by omega)
    rw [hr07_bytesOf.l1,if_pos (dec_t (by omega)),gt_nat 0 (by omega)]
    simp only [Option.bind_some]
    rw [app_ok (by simp;omega)]
    simp only [Option.bind_some,W_succ (show i<9223372036854775807 by omega)]
    rw [← take_succ' 0 (by omega)];exact ih
theorem ref_bytes (K:Nat) (h:List UInt8) (hh:h.length=32) (hK:40≤K):hr07_bytesOf K h=some h:=by
  have h1:=ref_bytes_l1 h hh 32 0 K rfl (by omega)
  unfold hr07_bytesOf
  rw [List.take_zero,show ((0:Nat):Int)=0 from rfl] at h1
  rw [h1];rfl
theorem ref_Bytes (K:Nat) (h:List UInt8) (hh:h.length=32) (hK:40≤K):hr07_Bytes K h=some h:=by
  unfold hr07_Bytes;rw [ref_bytes K h hh hK];rfl
theorem ref_tag_l1:∀ (n k:Nat) (key:List UInt8),key.length+n=64→n<k→hr07_Tag.l1 k key=some (key ++ List.replicate n 0)
  | 0,k+1,key,h1,h2=>by rw [hr07_Tag.l1,if_neg (nt (dec_f (by omega)))];simp
  | n+1,k+1,key,h1,h2=>by
    have ih:=ref_tag_l1 n k (key++[0]) (by simp;omega) (by omega)
    rw [hr07_Tag.l1,if_pos (dec_t (by omega))]
    simp only [Option.bind_some]
    rw [app_ok (by simp;omega)]
    simp only [Option.bind_some]
    rw [ih,List.append_assoc];rfl
theorem ref_tag_l2 (p:List UInt8) (hp:p.length=64):∀ (n i k:Nat),i+n=64→n<k →
    hr07_Tag.l2 k p ((p.take i).map (· ^^^ 54)) ((p.take i).map (· ^^^ 92)) (i:Int)=some (p.map (· ^^^ 54),p.map (· ^^^ 92))
  | 0,i,k+1,h1,h2=>by
    rw [hr07_Tag.l2,if_neg (nt (dec_f (by omega))),List.take_of_length_le (by omega)]
  | n+1,i,k+1,h1,h2=>by
    have ih:=ref_tag_l2 p hp n (i+1) k (by omega) (by omega)
    have g:gt p (i:Int)=some (p.getD i 0):=gt_nat 0 (by omega)
    rw [hr07_Tag.l2,if_pos (dec_t (by omega))]
    simp only [g,Option.bind_some]
    rw [app_ok (by simp;omega)];simp only [Option.bind_some]
    rw [app_ok (by simp;omega)];simp only [Option.bind_some,W_succ (show i<9223372036854775807 by omega)]
    rw [take_succ' 0 (show i<p.length by omega)] at ih
    simp only [List.map_append,List.map_cons,List.map_nil] at ih
    exact ih
theorem reftag_eq (K:Nat) (key b:List UInt8) (hk:key.length≤64) (hb:b.length<140737488340000) (hK:100≤K) (hKb:b.length / 64+8<K):hr07_Tag K key b=some (tagS key b):=by
  have h1:=ref_tag_l1 (64-key.length) K key (by omega) (by omega)
  have h2:=ref_tag_l2 (pk key) (pk_len hk) 64 0 K rfl (by omega)
  rw [List.take_zero,show ((0:Nat):Int)=0 from rfl] at h2
  simp only [List.map_nil] at h2
  have hl:=pk_len hk
  unfold hr07_Tag
  rw [app_ok (by simp;omega)]
  simp only [Option.bind_some,List.nil_append]
  rw [if_neg (nt (dec_f (by omega)))]
  unfold hr07_Tag.j1
  rw [h1];simp only [Option.bind_some]
  have hpk:key++List.replicate (64-key.length) 0=pk key:=rfl
  rw [hpk,h2];simp only [Option.bind_some]
  rw [app_ok (by simp [hl];omega)];simp only [Option.bind_some]
  rw [refsum_eq K _ (by omega) (by simp [hl];omega) (by simp [hl];omega)];simp only [Option.bind_some]
  rw [ref_bytes K _ (shaS_len _) (by omega)];simp only [Option.bind_some]
  rw [app_ok (by simp [hl,shaS_len])];simp only [Option.bind_some]
  rw [refsum_eq K _ (by omega) (by simp [hl,shaS_len]) (by simp [hl,shaS_len];omega)];rfl
theorem eight_eq (k:Nat) (n:UInt64):seal_eight (k+9) n=some (beS n 8 0):=by rfl
theorem refeight_eq (k:Nat) (n:UInt64):hr08_eight (k+9) n=some (beS n 8 0):=by rfl
open Go L
def blkS (key:List UInt8) (once:UInt64) (i:Nat):List UInt8:=tagS key ([115] ++ beS once 8 0 ++ beS (UInt64.ofNat i) 8 0)
def strS (key:List UInt8) (once:UInt64):Nat→List UInt8
  | 0=>[]
  | j+1=>strS key once j++blkS key once j
theorem strS_len (key:List UInt8) (once:UInt64):∀ j,(strS key once j).length=32*j
  | 0=>rfl
  | j+1=>by rw [strS,List.length_append,strS_len key once j,blkS,tagS_len];omega
theorem concat3 (k:Nat) (a b c:List UInt8) (ha:a.length+b.length+c.length<1000000):slices_Concat_byte_byte (k+4) [a,b,c]=some (a ++ b ++ c):=by
  have g0:gt [a,b,c] (0:Int)=some a:=rfl
  have g1:gt [a,b,c] (1:Int)=some b:=rfl
  have g2:gt [a,b,c] (2:Int)=some c:=rfl
  have e1:W ((0:Int)+1)=1:=rfl
  have e2:W ((1:Int)+1)=2:=rfl
  have e3:W ((2:Int)+1)=3:=rfl
  have hl:(([a,b,c]:List (List UInt8)).length:Int)=3:=rfl
  have h1:slices_Concat_byte_byte.l1 (k+4) [a,b,c] 0 0=some (((a.length+b.length+c.length:Nat):Int)):=by
    rw [slices_Concat_byte_byte.l1,hl,if_pos (dec_t (by omega)),g0];simp only [Option.bind_some]
    rw [W_id (n:=(0:Int)+(a.length:Int)) (by omega) (by omega),if_neg (nt (dec_f (by omega))),e1]
    rw [slices_Concat_byte_byte.l1,hl,if_pos (dec_t (by omega)),g1];simp only [Option.bind_some]
    rw [W_id (n:=(0:Int)+(a.length:Int)+(b.length:Int)) (by omega) (by omega),if_neg (nt (dec_f (by omega))),e2]
    rw [slices_Concat_byte_byte.l1,hl,if_pos (dec_t (by omega)),g2];simp only [Option.bind_some]
    rw [W_id (n:=(0:Int)+(a.length:Int)+(b.length:Int)+(c.length:Int)) (by omega) (by omega),if_neg (nt (dec_f (by omega))),e3]
    rw [slices_Concat_byte_byte.l1,hl,if_neg (nt (dec_f (by omega)))]
    congr 1;omega
  have h2:∀ n:Nat,n<1000000→slices_Grow_byte_byte (k+4) (n:Int)=some []:=fun n hn=>by
    unfold slices_Grow_byte_byte slices_Grow_byte_byte.j1 slices_Grow_byte_byte.j2
    have hw:W ((n:Int)-W ((0:Int)-0))=(n:Int):=by rw [show W ((0:Int)-0)=0 from rfl,W_id (by omega) (by omega)];omega
    rw [if_neg (nt (dec_f (by omega))),hw]
    by_cases h0:n=0
    · subst h0;rfl
    · rw [if_pos (dec_t (by omega))]
      rw [show sub ([]:List UInt8) 0 0=some [] from rfl];simp only [Option.bind_some]
      rw [mks_ok (by omega) (by omega)];simp only [Option.bind_some]
      rw [app_ok (by simp;omega)];simp only [Option.bind_some]
      rw [sub_ok (by omega) (by omega) (by omega)];rfl
  have h3:slices_Concat_byte_byte.l2 (k+4) [a,b,c] [] 0=some (a++b++c):=by
    rw [slices_Concat_byte_byte.l2,hl,if_pos (dec_t (by omega)),g0];simp only [Option.bind_some]
    rw [app_ok (by simp;omega),e1];simp only [Option.bind_some]
    rw [slices_Concat_byte_byte.l2,hl,if_pos (dec_t (by omega)),g1];simp only [Option.bind_some]
    rw [app_ok (by simp;omega),e2];simp only [Option.bind_some]
    rw [slices_Concat_byte_byte.l2,hl,if_pos (dec_t (by omega)),g2];simp only [Option.bind_some]
    rw [app_ok (by simp;omega),e3];simp only [Option.bind_some]
    rw [slices_Concat_byte_byte.l2,hl,if_neg (nt (dec_f (by omega)))];rfl
  unfold slices_Concat_byte_byte
  rw [h1];simp only [Option.bind_some]
  rw [h2 _ ha];simp only [Option.bind_some]
  rw [h3];rfl
theorem u64_succ (i:Nat):UInt64.ofNat i+1=UInt64.ofNat (i+1):=by
  rw [UInt64.ofNat_add];rfl
theorem iU64_nat {i:Nat} (h:i<18446744073709551616):iU64 (i:Int)=UInt64.ofNat i:=by
  unfold iU64;congr 1;omega
theorem blocks_l1 (K:Nat) (hK:100≤K) (key:List UInt8) (hk:key.length=32) (once:UInt64) (n:Nat) (hn:n≤1024):∀ (m i k:Nat),i+m=(n+31) / 32→m<k →
    seal_blocks_1.l1 (Yc (seal_Stream.y1 K (n:Int))) K k once key (strS key once i,none) (UInt64.ofNat i)=some (strS key once ((n+31) / 32),some 1)
  | m,i,k+1,h1,h2=>by
    have hb:=tag_eq K key ([115]++beS once 8 0++beS (UInt64.ofNat i) 8 0) (by omega) (by simp [beS_len]) hK (by simp [beS_len];omega)
    have hc:=concat3 (K-4) [115] (beS once 8 0) (beS (UInt64.ofNat i) 8 0) (by simp [beS_len])
    rw [show K-4+4=K by omega] at hc
    have he:∀ v,seal_eight K v=some (beS v 8 0):=fun v=>by have:=eight_eq (K-9) v;rwa [show K-9+9=K by omega] at this
    have hl:=strS_len key once i
    rw [seal_blocks_1.l1]
    simp only [Option.bind_some,he,hc,hb]
    have hbl:tagS key ([115]++beS once 8 0++beS (UInt64.ofNat i) 8 0)=blkS key once i:=rfl
    rw [hbl]
    unfold Yc seal_Stream.y1
    by_cases hm:m=0
    · subst hm
      have hi:i=(n+31) / 32:=by omega
      simp only
      rw [if_pos (dec_t (by omega))]
      simp only [Option.bind_some]
      rw [if_neg (by simp),hi]
    · simp only
      rw [if_neg (nt (dec_f (by omega)))]
      rw [app_ok (by rw [hl,blkS,tagS_len];omega)]
      simp only [Option.bind_some]
      rw [if_pos (by rfl),u64_succ]
      obtain ⟨m,rfl⟩:∃ m',m=m'+1:=⟨m-1,by omega⟩
      have ih:=blocks_l1 K hK key hk once n hn m (i+1) k (by omega) (by omega)
      unfold Yc seal_Stream.y1 at ih
      exact ih
theorem stream_eq (K:Nat) (hK:100≤K) (key:List UInt8) (hk:key.length=32) (once:UInt64) (n:Nat) (hn:n≤1024) :
    seal_Stream K key once (n:Int)=some ((strS key once ((n+31) / 32)).take n,0):=by
  have h1:=blocks_l1 K hK key hk once n hn ((n+31) / 32) 0 K (by omega) (by omega)
  have hl:=strS_len key once ((n+31) / 32)
  have hd:(decide ((n:Int)<0)||decide ((1024:Int)<(n:Int)))=false:=by simp;omega
  unfold seal_Stream seal_blocks seal_blocks_1
  rw [if_neg (nt hd)]
  simp only [Option.bind_some]
  rw [show ([],none)=(strS key once 0,(none:Option Nat)) from rfl,show (0:UInt64)=UInt64.ofNat 0 from rfl,h1]
  simp only [Option.bind_some,jm]
  rw [if_pos trivial,sub_ok (by omega) (by omega) (by omega)]
  simp
theorem refstream_l1 (K:Nat) (hK:100≤K) (key:List UInt8) (hk:key.length=32) (once:UInt64) (n:Nat) (hn:n≤1024):∀ (m i k:Nat),i+m=(n+31) / 32→m<k →
    hr08_Stream.l1 K k (n:Int) once key (strS key once i) (i:Int)=some (strS key once ((n+31) / 32))
  | 0,i,k+1,h1,h2=>by
    have hl:=strS_len key once i
    rw [hr08_Stream.l1,if_neg (nt (dec_f (by omega))),show i=(n+31) / 32 by omega]
  | m+1,i,k+1,h1,h2=>by
    have ih:=refstream_l1 K hK key hk once n hn m (i+1) k (by omega) (by omega)
    have hb:=reftag_eq K key ([115]++beS once 8 0++beS (UInt64.ofNat i) 8 0) (by omega) (by simp [beS_len]) hK (by simp [beS_len];omega)
    have he:∀ v,hr08_eight K v=some (beS v 8 0):=fun v=>by have:=refeight_eq (K-9) v;rwa [show K-9+9=K by omega] at this
    have hl:=strS_len key once i
    rw [hr08_Stream.l1,if_pos (dec_t (by omega))]
    simp only [Option.bind_some,he,iU64_nat (show i<18446744073709551616 by omega)]
    rw [app_ok (by simp [beS_len])];simp only [Option.bind_some]
    rw [app_ok (by simp [beS_len])];simp only [Option.bind_some]
    rw [ref_Bytes K key hk (by omega)];simp only [Option.bind_some]
    rw [hb];simp only [Option.bind_some]
    rw [ref_Bytes K _ (tagS_len _ _) (by omega)];simp only [Option.bind_some]
    rw [app_ok (by rw [hl,tagS_len];omega)];simp only [Option.bind_some,W_succ (show i<9223372036854775807 by omega)]
    exact ih
theorem refstream_eq (K:Nat) (hK:100≤K) (key:List UInt8) (hk:key.length=32) (once:UInt64) (n:Nat) (hn:n≤1024) :
    hr08_Stream K key once (n:Int)=some ((strS key once ((n+31) / 32)).take n,0):=by
  have h1:=refstream_l1 K hK key hk once n hn ((n+31) / 32) 0 K (by omega) (by omega)
  have hl:=strS_len key once ((n+31) / 32)
  have hd:(decide ((n:Int)<0)||decide ((1024:Int)<(n:Int)))=false:=by simp;omega
  unfold hr08_Stream
  rw [if_neg (nt hd),show ([]:List UInt8)=strS key once 0 from rfl,show (0:Int)=((0:Nat):Int) from rfl,h1]
  simp only [Option.bind_some]
  rw [sub_ok (by omega) (by omega) (by omega)]
  simp
open Go L
theorem size_in (K n:Nat) (h:n≤1024):seal_Size K (n:Int)=some ((n+24:Nat):Int):=by
  unfold seal_Size
  rw [if_neg (by simp;omega),W_id (by omega) (by omega)];rfl
open Go L
def tagT (key body:List UInt8):List UInt8:=(tagS key (116 :: body)).take 16
theorem tagT_len (key body:List UInt8):(tagT key body).length=16:=by simp [tagT,tagS_len]
theorem tagOf_eq (K:Nat) (hK:100≤K) (key:List UInt8) (hk:key.length=32) (body:List UInt8) (hb:body.length≤1100):seal_tagOf K key body=some (tagT key body):=by
  have h:=tag_eq K key (116 :: body) (by omega) (by simp;omega) hK (by simp;omega)
  have hl:=tagS_len key (116 :: body)
  unfold seal_tagOf
  simp only [Option.bind_some]
  rw [app_ok (by simp;omega)];simp only [Option.bind_some]
  rw [show [116]++body=116 :: body from rfl,h];simp only [Option.bind_some]
  rw [req_ok (by simp;omega)];simp [tagT,List.take_take]
theorem refTag_eq (K:Nat) (hK:100≤K) (key:List UInt8) (hk:key.length=32) (body:List UInt8) (hb:body.length≤1100):hr08_Tag K key body=some (tagT key body):=by
  have h:=reftag_eq K key (116 :: body) (by omega) (by simp;omega) hK (by simp;omega)
  have hl:=tagS_len key (116 :: body)
  unfold hr08_Tag
  simp only [Option.bind_some]
  rw [app_ok (by simp;omega)];simp only [Option.bind_some]
  rw [ref_Bytes K key hk (by omega)];simp only [Option.bind_some]
  rw [show [116]++body=116 :: body from rfl,h];simp only [Option.bind_some]
  rw [ref_Bytes K _ hl (by omega)];simp only [Option.bind_some]
  rw [sub_ok (by omega) (by omega) (by omega)];simp [tagT]
def xorS (s b:List UInt8):List UInt8:=List.zipWith (· ^^^ ·) s b
theorem xorS_len {s b:List UInt8} (h:s.length=b.length):(xorS s b).length=b.length:=by simp [xorS,h]
theorem xorS_snoc {s b:List UInt8} {i:Nat} (h:i<s.length) (h':i<b.length):xorS (s.take (i+1)) (b.take (i+1))=xorS (s.take i) (b.take i) ++ [s.getD i 0 ^^^ b.getD i 0]:=by
  unfold xorS
  rw [take_succ' 0 h,take_succ' 0 h',List.zipWith_append (by simp;omega)];rfl
theorem xor_comm8 (a b:UInt8):a ^^^ b=b ^^^ a:=by
  apply UInt8.toBitVec_inj.1;simp [BitVec.xor_comm]
theorem xor_self8 (a:UInt8):a ^^^ a=0:=by
  apply UInt8.toBitVec_inj.1;simp
theorem xor_assoc8 (a b c:UInt8):a ^^^ b ^^^ c=a ^^^ (b ^^^ c):=by
  apply UInt8.toBitVec_inj.1;simp [BitVec.xor_assoc]
theorem zero_xor8 (a:UInt8):0 ^^^ a=a:=by
  apply UInt8.toBitVec_inj.1;simp
theorem xorS_twice:∀ {s b:List UInt8},s.length=b.length→xorS s (xorS s b)=b
  | [],[],_=>rfl
  | x :: s,y :: b,h=>by
    have ih:=xorS_twice (s:=s) (b:=b) (by simpa using h)
    unfold xorS at ih ⊢
    simp only [List.zipWith_cons_cons,ih]
    rw [← xor_assoc8,xor_self8,zero_xor8]
def m2 (s b:List UInt8) (i:Nat):List UInt8:=xorS (s.take i) (b.take i) ++ s.drop i
theorem m2_len {s b:List UInt8} {i:Nat} (h:s.length=b.length) (hi:i≤b.length):(m2 s b i).length=b.length:=by simp [m2,xorS]; omega
theorem m2_get {s b:List UInt8} {i:Nat} (h:s.length=b.length) (hi:i<b.length):(m2 s b i).getD i 0=s.getD i 0:=by
  unfold m2
  rw [drop_succ' 0 (by omega),List.getD_eq_getElem?_getD,List.getElem?_append_right (by simp [xorS];omega)]
  simp [xorS,Nat.min_eq_left (Nat.le_of_lt hi),Nat.min_eq_left (show i≤s.length by omega)]
theorem m2_set {s b:List UInt8} {i:Nat} (h:s.length=b.length) (hi:i<b.length):(m2 s b i).set i (s.getD i 0 ^^^ b.getD i 0)=m2 s b (i+1):=by
  unfold m2
  rw [xorS_snoc (by omega) hi,drop_succ' 0 (show i<s.length by omega),List.set_append_right _ _ (by simp [xorS];omega)]
  simp [xorS,Nat.min_eq_left (Nat.le_of_lt hi),Nat.min_eq_left (show i≤s.length by omega)]
theorem hidden_l1 (s b:List UInt8) (h:s.length=b.length) (hb:b.length≤1100):∀ (n i k:Nat),i+n=b.length→n<k→seal_hidden.l1 k b (m2 s b i) (i:Int)=some (xorS s b)
  | 0,i,k+1,h1,h2=>by
    rw [seal_hidden.l1,if_neg (nt (dec_f (by omega)))]
    have:i=b.length:=by omega
    subst this;unfold m2
    rw [List.drop_of_length_le (by omega),List.append_nil,List.take_of_length_le (by omega),List.take_of_length_le (Nat.le_refl _)]
  | n+1,i,k+1,h1,h2=>by
    have ih:=hidden_l1 s b h hb n (i+1) k (by omega) (by omega)
    have hi:i<b.length:=by omega
    have hl:=m2_len (s:=s) (b:=b) (i:=i) h (by omega)
    have g1:gt b (i:Int)=some (b.getD i 0):=gt_nat 0 hi
    have g2:gt (m2 s b i) (i:Int)=some (s.getD i 0):=by rw [gt_nat 0 (by omega),m2_get h hi]
    have r1:req (0≤(i:Int)∧(i:Int)<((m2 s b i).length:Int))=some ():=req_ok ⟨by omega,by omega⟩
    rw [seal_hidden.l1,if_pos (dec_t (by omega))]
    simp only [g1,g2,r1,Option.bind_some,Int.toNat_natCast,W_succ (show i<9223372036854775807 by omega)]
    rw [m2_set h hi];exact ih
def strN (key:List UInt8) (once:UInt64) (n:Nat):List UInt8:=(strS key once ((n+31) / 32)).take n
theorem strN_len (key:List UInt8) (once:UInt64) (n:Nat):(strN key once n).length=n:=by
  have:=strS_len key once ((n+31) / 32)
  simp [strN];omega
def hidS (key:List UInt8) (once:UInt64) (b:List UInt8):List UInt8:=xorS (strN key once b.length) b
theorem hidS_len (key:List UInt8) (once:UInt64) (b:List UInt8):(hidS key once b).length=b.length:=xorS_len (strN_len _ _ _)
theorem hidS_twice (key:List UInt8) (once:UInt64) (b:List UInt8):hidS key once (hidS key once b)=b:=by
  unfold hidS
  rw [xorS_len (strN_len _ _ _)]
  exact xorS_twice (strN_len _ _ _)
theorem hidden_eq (K:Nat) (hK:1200≤K) (key:List UInt8) (hk:key.length=32) (once:UInt64) (b:List UInt8) (hb:b.length≤1024):seal_hidden K key once b=some (hidS key once b):=by
  have h1:=hidden_l1 (strN key once b.length) b (strN_len _ _ _) (by omega) b.length 0 K (by omega) (by omega)
  have h0:m2 (strN key once b.length) b 0=strN key once b.length:=by simp [m2,xorS]
  unfold seal_hidden
  rw [stream_eq K (by omega) key hk once b.length hb];simp only [Option.bind_some]
  rw [h0] at h1
  unfold strN at h1
  rw [show (0:Int)=((0:Nat):Int) from rfl,h1];rfl
theorem same_l1' (a b:List UInt8) (hab:a.length=b.length):∀ (n i k:Nat),i+n=a.length→n<k→a.length<1000000000000000→hr01_SameBytes.l1 k a b (i:Int)=some (if a.drop i=b.drop i then .go () else .ret false)
  | 0,i,k+1,h1,h2,h3=>by
    rw [hr01_SameBytes.l1,if_neg (nt (dec_f (by omega))),List.drop_of_length_le (by omega),List.drop_of_length_le (by omega),if_pos rfl]
  | n+1,i,k+1,h1,h2,h3=>by
    have ih:=same_l1' a b hab n (i+1) k (by omega) (by omega) h3
    rw [hr01_SameBytes.l1,if_pos (dec_t (by omega)),gt_nat 0 (by omega),gt_nat 0 (by omega)]
    simp only [Option.bind_some]
    rw [drop_succ' 0 (show i<a.length by omega),drop_succ' 0 (show i<b.length by omega)]
    by_cases he:a.getD i 0=b.getD i 0
    · rw [if_neg (by simp only [he];simp),W_succ (by omega),ih]
      simp only [he,List.cons.injEq,true_and]
    · have hd:(!decide (a.getD i 0=b.getD i 0))=true:=by simp only [he];rfl
      rw [if_pos hd,if_neg (fun hh=>he (List.cons.inj hh).1)]
theorem same_dec (K:Nat) (a b:List UInt8) (h:a.length<K) (hb:a.length<1000000000000000):hr01_SameBytes K a b=some (decide (a=b)):=by
  unfold hr01_SameBytes
  by_cases hl:a.length=b.length
  · have h1:=same_l1' a b hl a.length 0 K (by omega) (by omega) hb
    rw [if_neg (by rw [hl];simp),show (0:Int)=((0:Nat):Int) from rfl,h1]
    simp only [Option.bind_some,List.drop_zero]
    by_cases he:a=b
    · rw [if_pos he];simp [lrc,he]
    · rw [if_neg he];simp [lrc,he]
  · rw [if_pos (by simp;omega)]
    have:a ≠ b:=fun h=>hl (by rw [h])
    simp [this]
open Go L
def num1 (n:UInt64) (x:UInt8):UInt64:=shl64 n 8 ||| x.toUInt64
def numS (b:List UInt8):UInt64:=b.foldl num1 0
theorem open_l1 (b:List UInt8) (hb:b.length≤1100):∀ (n i k:Nat) (o:UInt64),i+n=b.length→n<k→seal_Open.l1 k b o (i:Int)=some ((b.drop i).foldl num1 o)
  | 0,i,k+1,o,h1,h2=>by
    rw [seal_Open.l1,if_neg (nt (dec_f (by omega))),List.drop_of_length_le (by omega)];rfl
  | n+1,i,k+1,o,h1,h2=>by
    have ih:=open_l1 b hb n (i+1) k (num1 o (b.getD i 0)) (by omega) (by omega)
    rw [seal_Open.l1,if_pos (dec_t (by omega)),gt_nat 0 (by omega)]
    simp only [Option.bind_some,W_succ (show i<9223372036854775807 by omega)]
    rw [drop_succ' 0 (show i<b.length by omega)]
    exact ih
theorem refopen_l1 (b:List UInt8) (hb:8≤b.length):∀ (n i k:Nat) (o:UInt64),i+n=8→n<k→hr08_Open.l1 k b o (i:Int)=some (((b.take 8).drop i).foldl num1 o)
  | 0,i,k+1,o,h1,h2=>by
    rw [hr08_Open.l1,if_neg (nt (dec_f (by omega))),List.drop_of_length_le (by simp;omega)];rfl
  | n+1,i,k+1,o,h1,h2=>by
    have ih:=refopen_l1 b hb n (i+1) k (num1 o (b.getD i 0)) (by omega) (by omega)
    rw [hr08_Open.l1,if_pos (dec_t (by omega)),gt_nat 0 (by omega)]
    simp only [Option.bind_some,W_succ (show i<9223372036854775807 by omega)]
    have hg:(b.take 8).getD i 0=b.getD i 0:=by
      rw [List.getD_eq_getElem?_getD,List.getD_eq_getElem?_getD,List.getElem?_take,if_pos (by omega)]
    rw [drop_succ' 0 (show i<(b.take 8).length by simp;omega),hg]
    exact ih
theorem numS_beS (n:UInt64):numS (beS n 8 0)=n:=by
  apply UInt64.toBitVec_inj.1
  apply BitVec.eq_of_getLsbD_eq
  intro i hi
  simp only [numS,beS,List.foldl,num1,shl64,shr64,Nat.mul_zero,Nat.sub_zero,Nat.zero_add]
  simp only [UInt64.toBitVec_or,UInt64.toBitVec_ofNat,UInt8.toBitVec_toUInt64,UInt64.toBitVec_toUInt8,BitVec.getLsbD_or,BitVec.getLsbD_shiftLeft,BitVec.getLsbD_setWidth,BitVec.getLsbD_ushiftRight,hi,decide_true,Bool.true_and]
  have h64:i<64:=hi
  clear hi
  generalize n.toBitVec.getLsbD=f
  obtain ⟨q,r,hi,hr,hq⟩:∃ q r,i=8*q+r∧r<8∧q<8:=⟨i / 8,i % 8,by omega,by omega,by omega⟩
  have hq':q=0 ∨ q=1 ∨ q=2 ∨ q=3 ∨ q=4 ∨ q=5 ∨ q=6 ∨ q=7:=by omega
  have hr':r=0 ∨ r=1 ∨ r=2 ∨ r=3 ∨ r=4 ∨ r=5 ∨ r=6 ∨ r=7:=by omega
  clear hr hq h64
  rcases hq' with rfl | rfl | rfl | rfl | rfl | rfl | rfl | rfl <;> rcases hr' with rfl | rfl | rfl | rfl | rfl | rfl | rfl | rfl <;> subst hi <;> simp
def bodyS (key:List UInt8) (once:UInt64) (p:List UInt8):List UInt8:=beS once 8 0 ++ hidS key once p
theorem bodyS_len (key:List UInt8) (once:UInt64) (p:List UInt8):(bodyS key once p).length=p.length+8:=by simp [bodyS,beS_len,hidS_len]; omega
def sealS (key:List UInt8) (once:UInt64) (p:List UInt8):List UInt8:=bodyS key once p ++ tagT key (bodyS key once p)
theorem sealS_len (key:List UInt8) (once:UInt64) (p:List UInt8):(sealS key once p).length=p.length+24:=by simp [sealS,bodyS_len,tagT_len]
theorem seal_eq (K:Nat) (hK:1200≤K) (key:List UInt8) (hk:key.length=32) (once:UInt64) (p:List UInt8) (hp:p.length≤1024):seal_Seal K key once p=some (sealS key once p,0):=by
  have he:seal_eight K once=some (beS once 8 0):=by have:=eight_eq (K-9) once;rwa [show K-9+9=K by omega] at this
  have hl:=hidS_len key once p
  have hb:=bodyS_len key once p
  unfold seal_Seal
  rw [if_neg (nt (dec_f (by omega))),he];simp only [Option.bind_some]
  rw [hidden_eq K hK key hk once p hp];simp only [Option.bind_some]
  rw [app_ok (by rw [beS_len];omega)];simp only [Option.bind_some]
  rw [show beS once 8 0++hidS key once p=bodyS key once p from rfl]
  rw [tagOf_eq K (by omega) key hk _ (by omega)];simp only [Option.bind_some]
  rw [app_ok (by rw [tagT_len];omega)];rfl
theorem seal_long (K:Nat) (key:List UInt8) (once:UInt64) (p:List UInt8) (hp:1024<p.length):seal_Seal K key once p=some ([],6):=by
  unfold seal_Seal
  rw [if_pos (dec_t (by omega))]
theorem refSeal_l1 (p:List UInt8) (s:List UInt8×Int) (o:List UInt8) (h:s.1.length=p.length) (hp:p.length≤1100) (ho:o.length≤1100):∀ (n i k:Nat),i+n=p.length→n<k →
    hr08_Seal.l1 k p s (o++xorS (s.1.take i) (p.take i)) (i:Int)=some (o++xorS s.1 p)
  | 0,i,k+1,h1,h2=>by
    rw [hr08_Seal.l1,if_neg (nt (dec_f (by omega))),List.take_of_length_le (by omega),List.take_of_length_le (by omega)]
  | n+1,i,k+1,h1,h2=>by
    have ih:=refSeal_l1 p s o h hp ho n (i+1) k (by omega) (by omega)
    rw [hr08_Seal.l1,if_pos (dec_t (by omega)),gt_nat 0 (by omega),gt_nat 0 (by omega)]
    simp only [Option.bind_some]
    rw [app_ok (by simp [xorS];omega)]
    simp only [Option.bind_some,W_succ (show i<9223372036854775807 by omega)]
    rw [xorS_snoc (by omega) (by omega),← List.append_assoc,xor_comm8] at ih
    exact ih
theorem refSeal_eq (K:Nat) (hK:1200≤K) (key:List UInt8) (hk:key.length=32) (once:UInt64) (p:List UInt8) (hp:p.length≤1024):hr08_Seal K key once p=some (sealS key once p,0):=by
  have he:hr08_eight K once=some (beS once 8 0):=by have:=refeight_eq (K-9) once;rwa [show K-9+9=K by omega] at this
  have hl:=hidS_len key once p
  have hb:=bodyS_len key once p
  have h1:=refSeal_l1 p (strN key once p.length,0) (beS once 8 0) (strN_len _ _ _) (by omega) (by rw [beS_len];omega) p.length 0 K (by omega) (by omega)
  rw [show beS once 8 0++xorS (List.take 0 (strN key once p.length)) (List.take 0 p)=beS once 8 0 by simp [xorS],show ((0:Nat):Int)=0 from rfl] at h1
  unfold hr08_Seal
  rw [refstream_eq K (by omega) key hk once p.length hp];simp only [Option.bind_some]
  rw [if_neg (by simp),he];simp only [Option.bind_some]
  rw [show ((strS key once ((p.length+31) / 32)).take p.length,(0:Int))=(strN key once p.length,0) from rfl,h1];simp only [Option.bind_some]
  rw [show beS once 8 0++xorS (strN key once p.length) p=bodyS key once p from rfl]
  rw [refTag_eq K (by omega) key hk _ (by omega)];simp only [Option.bind_some]
  rw [app_ok (by rw [tagT_len];omega)];rfl
theorem refSeal_long (K:Nat) (key:List UInt8) (once:UInt64) (p:List UInt8) (hp:1024<p.length):hr08_Seal K key once p=some ([],6):=by
  unfold hr08_Seal hr08_Stream
  rw [if_pos (by simp;omega)];simp only [Option.bind_some]
  rw [if_pos (by simp)]
def openS (key b:List UInt8):List UInt8×UInt64×Int :=
  if b.length<24 then ([],0,3) else if 1048<b.length then ([],0,6)
  else if tagT key (b.take (b.length-16))=b.drop (b.length-16) then (hidS key (numS (b.take 8)) ((b.take (b.length-16)).drop 8),numS (b.take 8),0) else ([],0,10)
theorem open_eq (K:Nat) (hK:1200≤K) (key:List UInt8) (hk:key.length=32) (b:List UInt8) (hbb:b.length<1000000000000000):seal_Open K key b=some (openS key b):=by
  unfold seal_Open openS
  have z0:seal_Size K (0:Int)=some ((24:Nat):Int):=size_in K 0 (by omega)
  have z1:seal_Size K (1024:Int)=some ((1048:Nat):Int):=size_in K 1024 (by omega)
  rw [z0];simp only [Option.bind_some]
  by_cases h1:b.length<24
  · rw [if_pos (dec_t (by omega)),if_pos h1]
  rw [if_neg (nt (dec_f (by omega))),if_neg h1,z1];simp only [Option.bind_some]
  by_cases h2:1048<b.length
  · rw [if_pos (dec_t (by omega)),if_pos h2]
  rw [if_neg (nt (dec_f (by omega))),if_neg h2]
  have hw:W ((b.length:Int)-16)=((b.length-16:Nat):Int):=by rw [W_id (by omega) (by omega)];omega
  rw [hw,sub_ok (by omega) (by omega) (by omega)];simp only [Option.bind_some]
  rw [tagOf_eq K (by omega) key hk _ (by simp;omega)];simp only [Option.bind_some]
  rw [sub_ok (by omega) (by omega) (by omega)];simp only [Option.bind_some,Int.toNat_natCast,List.drop_zero,Int.toNat_zero]
  rw [List.take_of_length_le (Nat.le_refl b.length),req_ok (by simp;omega)];simp only [Option.bind_some]
  rw [List.take_of_length_le (l:=b.drop (b.length-16)) (by simp;omega)]
  by_cases h3:tagT key (b.take (b.length-16))=b.drop (b.length-16)
  · have hd:(!decide (tagT key (b.take (b.length-16))=b.drop (b.length-16)))=false:=by simp [h3]
    rw [if_neg (nt hd),if_pos h3]
    rw [sub_ok (by omega) (by omega) (by omega)];simp only [Option.bind_some]
    have hn:=open_l1 (b.take 8) (by simp;omega) (b.take 8).length 0 K 0 (by omega) (by simp;omega)
    rw [List.drop_zero] at hn
    rw [show ((0:Nat):Int)=(0:Int) from rfl] at hn
    rw [show (List.drop (Int.toNat 0) (List.take (Int.toNat 8) b))=b.take 8 from rfl,hn];simp only [Option.bind_some]
    rw [sub_ok (by omega) (by omega) (by omega)];simp only [Option.bind_some,Int.toNat_natCast]
    rw [hidden_eq K hK key hk _ _ (by simp;omega)];rfl
  · have hd:(!decide (tagT key (b.take (b.length-16))=b.drop (b.length-16)))=true:=by simp [h3]
    rw [if_pos hd,if_neg h3]
theorem refOpen_l2 (b c:List UInt8) (s:List UInt8×Int) (hc:b.length=c.length+24) (hg:∀ i,i<c.length→b.getD (8+i) 0=c.getD i 0) (h:s.1.length=c.length) (hp:c.length≤1100):∀ (n i k:Nat),i+n=c.length→n<k →
    hr08_Open.l2 k b s (xorS (s.1.take i) (c.take i)) (i:Int)=some (xorS s.1 c)
  | 0,i,k+1,h1,h2=>by
    rw [hr08_Open.l2,if_neg (nt (dec_f (by rw [W_id (by omega) (by omega)];omega))),List.take_of_length_le (by omega),List.take_of_length_le (by omega)]
  | n+1,i,k+1,h1,h2=>by
    have ih:=refOpen_l2 b c s hc hg h hp n (i+1) k (by omega) (by omega)
    have hw:W ((8:Int)+(i:Int))=((8+i:Nat):Int):=by rw [W_id (by omega) (by omega)];omega
    rw [hr08_Open.l2,if_pos (dec_t (by rw [W_id (by omega) (by omega)];omega)),hw,gt_nat 0 (by omega),gt_nat 0 (by omega)]
    simp only [Option.bind_some]
    rw [app_ok (by simp [xorS];omega)]
    simp only [Option.bind_some,W_succ (show i<9223372036854775807 by omega)]
    rw [xorS_snoc (by omega) (by omega),xor_comm8,← hg i (by omega)] at ih
    exact ih
theorem refOpen_eq (K:Nat) (hK:1200≤K) (key:List UInt8) (hk:key.length=32) (b:List UInt8) (hbb:b.length<1000000000000000):hr08_Open K key b=some (openS key b):=by
  unfold hr08_Open openS
  by_cases h1:b.length<24
  · rw [if_pos (dec_t (by omega)),if_pos h1]
  rw [if_neg (nt (dec_f (by omega))),if_neg h1]
  by_cases h2:1048<b.length
  · rw [if_pos (dec_t (by omega)),if_pos h2]
  rw [if_neg (nt (dec_f (by omega))),if_neg h2]
  have hw:W ((b.length:Int)-16)=((b.length-16:Nat):Int):=by rw [W_id (by omega) (by omega)];omega
  have hw2:W ((b.length:Int)-24)=((b.length-24:Nat):Int):=by rw [W_id (by omega) (by omega)];omega
  rw [hw,sub_ok (by omega) (by omega) (by omega)];simp only [Option.bind_some]
  rw [refTag_eq K (by omega) key hk _ (by simp;omega)];simp only [Option.bind_some]
  rw [sub_ok (by omega) (by omega) (by omega)];simp only [Option.bind_some,Int.toNat_natCast,List.drop_zero,Int.toNat_zero]
  rw [List.take_of_length_le (Nat.le_refl b.length),same_dec K _ _ (by rw [tagT_len];omega) (by rw [tagT_len];omega)];simp only [Option.bind_some]
  by_cases h3:tagT key (b.take (b.length-16))=b.drop (b.length-16)
  · rw [if_neg (by simp [h3]),if_pos h3]
    have hn:=refopen_l1 b (by omega) 8 0 K 0 (by omega) (by omega)
    rw [List.drop_zero,show ((0:Nat):Int)=0 from rfl] at hn
    rw [hn];simp only [Option.bind_some]
    rw [hw2,refstream_eq K (by omega) key hk _ _ (by omega)];simp only [Option.bind_some]
    have hc:((b.take (b.length-16)).drop 8).length=b.length-24:=by simp;omega
    have h4:=refOpen_l2 b ((b.take (b.length-16)).drop 8) (strN key ((b.take 8).foldl num1 0) (b.length-24),0) (by omega) (by
      intro i hi
      rw [List.getD_eq_getElem?_getD,List.getD_eq_getElem?_getD,List.getElem?_drop,List.getElem?_take,if_pos (by omega)]) (by rw [strN_len];omega) (by omega) (b.length-24) 0 K (by omega) (by omega)
    rw [show xorS (List.take 0 (strN key ((b.take 8).foldl num1 0) (b.length-24))) (List.take 0 ((b.take (b.length-16)).drop 8))=[] by simp [xorS],show ((0:Nat):Int)=0 from rfl] at h4
    unfold strN at h4
    rw [h4];simp only [Option.bind_some]
    unfold hidS strN numS
    rw [hc]
  · rw [if_pos (by simp [h3]),if_neg h3]
open Go L
def sealA (key:List UInt8) (once:UInt64) (p:List UInt8):List UInt8×Int:=if p.length≤1024 then (sealS key once p,0) else ([],6)
theorem sealA_len (key:List UInt8) (once:UInt64) (p:List UInt8):(sealA key once p).1.length≤1048:=by
  unfold sealA;split
  · rw [sealS_len];omega
  · simp
theorem seal_any (K:Nat) (hK:1200≤K) (key:List UInt8) (hk:key.length=32) (once:UInt64) (p:List UInt8):seal_Seal K key once p=some (sealA key once p):=by
  unfold sealA
  by_cases h:p.length≤1024
  · rw [if_pos h,seal_eq K hK key hk once p h]
  · rw [if_neg h,seal_long K key once p (by omega)]
theorem refSeal_any (K:Nat) (hK:1200≤K) (key:List UInt8) (hk:key.length=32) (once:UInt64) (p:List UInt8):hr08_Seal K key once p=some (sealA key once p):=by
  unfold sealA
  by_cases h:p.length≤1024
  · rw [if_pos h,refSeal_eq K hK key hk once p h]
  · rw [if_neg h,refSeal_long K key once p (by omega)]
theorem openS_len (key b:List UInt8):(openS key b).1.length≤1024:=by
  unfold openS
  split
  · simp
  split
  · simp
  split
  · rw [hidS_len];simp;omega
  · simp
theorem openS_seal (key:List UInt8) (once:UInt64) (p:List UInt8) (hp:p.length≤1024):openS key (sealS key once p)=(p,once,0):=by
  have hb:=bodyS_len key once p
  have hl:=sealS_len key once p
  have ht:=tagT_len key (bodyS key once p)
  have e1:(sealS key once p).take ((sealS key once p).length-16)=bodyS key once p:=by
    rw [hl];unfold sealS;rw [List.take_append_of_le_length (by omega),List.take_of_length_le (by omega)]
  have e2:(sealS key once p).drop ((sealS key once p).length-16)=tagT key (bodyS key once p):=by
    rw [hl];unfold sealS;rw [show p.length+24-16=(bodyS key once p).length by omega,List.drop_left]
  have e3:(bodyS key once p).drop 8=hidS key once p:=by
    unfold bodyS
    rw [show (8:Nat)=(beS once 8 0).length from (beS_len once 8 0).symm,beS_len];exact List.drop_left' (beS_len once 8 0)
  have e4:(sealS key once p).take 8=beS once 8 0:=by
    unfold sealS bodyS
    rw [List.append_assoc];exact List.take_left' (beS_len once 8 0)
  unfold openS
  rw [if_neg (by omega),if_neg (by omega),e1,e2,if_pos rfl,e3,e4,numS_beS,hidS_twice]
end Go.Proofs.YtjgbakieogadfabGreatDoor
