import Derived.Orders
namespace Go.Proofs.YgvajwGreat.Ev

/-! forcing, and small choices -/
def fN {β : Type} (n : Nat) (k : Nat → β) : β := @Nat.rec (fun _ => β) (k 0) (fun m _ => k m) (Nat.succ n)
/-- zero ? -/
def z0 {β : Type} (n : Nat) (a b : β) : β := @Nat.rec (fun _ => β) a (fun _ _ => b) n
def bB {β : Type} (b : Bool) (x y : β) : β := @Bool.casesOn (fun _ => β) b y x

/-! trees of four -/
structure Q4 (β : Type) where
  a : β
  b : β
  c : β
  d : β
def QT (α : Type) : Nat → Type := @Nat.rec (fun _ => Type) α (fun _ ih => Q4 ih)
def pk4 {β : Type} (i : Nat) (a b c d : β) : β :=
  @Nat.rec (fun _ => β) a (fun i _ => @Nat.rec (fun _ => β) b (fun i _ => @Nat.rec (fun _ => β) c (fun _ _ => d) i) i) i
def qgetS {α : Type} (n : Nat) (ih : QT α n → Nat → α) (i : Nat) (t : Q4 (QT α n)) : α :=
  @Q4.casesOn (QT α n) (fun _ => α) t (fun a b c d => ih (pk4 (Nat.land i 3) a b c d) (Nat.shiftRight i 2))
def qget {α : Type} (n : Nat) : QT α n → Nat → α :=
  @Nat.rec (fun n => QT α n → Nat → α) (fun t _ => t) (fun n ih t i => qgetS n ih i t) n
def up4 {β : Type} (i : Nat) (a b c d x : β) : Q4 β :=
  @Nat.rec (fun _ => Q4 β) ⟨x,b,c,d⟩ (fun i _ => @Nat.rec (fun _ => Q4 β) ⟨a,x,c,d⟩ (fun i _ => @Nat.rec (fun _ => Q4 β) ⟨a,b,x,d⟩ (fun _ _ => ⟨a,b,c,x⟩) i) i) i
def qsetS {α : Type} (n : Nat) (ih : QT α n → Nat → α → QT α n) (i : Nat) (x : α) (t : Q4 (QT α n)) : Q4 (QT α n) :=
  @Q4.casesOn (QT α n) (fun _ => Q4 (QT α n)) t (fun a b c d => up4 (Nat.land i 3) a b c d (ih (pk4 (Nat.land i 3) a b c d) (Nat.shiftRight i 2) x))
def qset {α : Type} (n : Nat) : QT α n → Nat → α → QT α n :=
  @Nat.rec (fun n => QT α n → Nat → α → QT α n) (fun _ _ x => x) (fun n ih t i x => qsetS n ih i x t) n
def qall {α : Type} (z : α) (n : Nat) : QT α n :=
  @Nat.rec (fun n => QT α n) z (fun _ ih => (⟨ih, ih, ih, ih⟩ : Q4 _)) n

def mk4 {α : Type} (n : Nat) (a b c d : QT α n) : QT α (Nat.succ n) := (⟨a, b, c, d⟩ : Q4 (QT α n))
def lf {α : Type} (a : α) : QT α 0 := a

/-! cells of 128 bits, packed -/
def slc (s o m : Nat) : Nat := Nat.mod (Nat.shiftRight s (Nat.mul 128 o)) (Nat.pow 2 (Nat.mul 128 m))
def spl (s o m x : Nat) : Nat := Nat.xor s (Nat.shiftLeft (Nat.xor (slc s o m) x) (Nat.mul 128 o))
/-- n times the m cells of x -/
def rep (m n x : Nat) : Nat := Nat.mul x (Nat.div (Nat.sub (Nat.pow 2 (Nat.mul (Nat.mul 128 m) n)) 1) (Nat.sub (Nat.pow 2 (Nat.mul 128 m)) 1))

/-- a segment: a salt of 64 bits, then cells -/
def m64 : Nat := 18446744073709551615
def sslc (s o m : Nat) : Nat := Nat.mod (Nat.shiftRight s (Nat.add 64 (Nat.mul 128 o))) (Nat.pow 2 (Nat.mul 128 m))
def sspl (n s o m x : Nat) : Nat :=
  Nat.xor s (Nat.xor (Nat.shiftLeft (Nat.xor (sslc s o m) x) (Nat.add 64 (Nat.mul 128 o))) (Nat.xor (Nat.land s 18446744073709551615) (Nat.land n 18446744073709551615)))

structure Blk where
  uid : Nat
  ty : Nat
  sz : Nat
  es : Nat
  s0 : Nat
  more : QT Nat 5

structure Hp where
  uid : Nat
  ptop : Nat
  ltop : Nat
  blks : QT Blk 6

structure Bnd where
  t : Nat
  c : Nat
  xs : List Nat

def prK {α β γ : Type} (z : α × β) (f : α → β → γ) : γ := @Prod.casesOn α β (fun _ => γ) z f
def hpK {γ : Type} (H : Hp) (f : Nat → Nat → Nat → QT Blk 6 → γ) : γ := @Hp.casesOn (fun _ => γ) H f
def blK {γ : Type} (B : Blk) (f : Nat → Nat → Nat → Nat → Nat → QT Nat 5 → γ) : γ := @Blk.casesOn (fun _ => γ) B f
def noSegs : QT Nat 5 := qall 0 5
def noBlk : Blk := ⟨0, 0, 0, 0, 0, noSegs⟩
def noBlks : QT Blk 6 := qall noBlk 6
def hp0 : Hp := ⟨1, 0, 0, noBlks⟩

def segOf (s0 : Nat) (more : QT Nat 5) (i : Nat) : Nat := @Nat.rec (fun _ => Nat) s0 (fun j _ => qget 5 more j) i
/-- the cells [off, off + n) of a block, packed -/
def gath : Nat → Nat → QT Nat 5 → Nat → Nat → Nat :=
  @Nat.rec (fun _ => Nat → QT Nat 5 → Nat → Nat → Nat) (fun _ _ _ _ => 0)
    (fun _ ih s0 more off n =>
      bB (Nat.ble (Nat.add (Nat.mod off 64) n) 64)
        (sslc (segOf s0 more (Nat.div off 64)) (Nat.mod off 64) n)
        (fN (Nat.sub 64 (Nat.mod off 64)) fun m =>
          Nat.add (sslc (segOf s0 more (Nat.div off 64)) (Nat.mod off 64) m)
            (Nat.shiftLeft (ih s0 more (Nat.add off m) (Nat.sub n m)) (Nat.mul 128 m))))
/-- lays n packed cells x at off -/
def scat (nn : Nat) : Nat → Nat → QT Nat 5 → Nat → Nat → Nat → Nat × QT Nat 5 :=
  @Nat.rec (fun _ => Nat → QT Nat 5 → Nat → Nat → Nat → Nat × QT Nat 5) (fun s0 more _ _ _ => (s0, more))
    (fun _ ih s0 more off n x =>
      bB (Nat.ble (Nat.add (Nat.mod off 64) n) 64)
        (fN (sspl nn (segOf s0 more (Nat.div off 64)) (Nat.mod off 64) n x) fun s =>
          @Nat.rec (fun _ => Nat × QT Nat 5) (s, more) (fun j _ => (s0, qset 5 more j s)) (Nat.div off 64))
        (fN (Nat.sub 64 (Nat.mod off 64)) fun m =>
          fN (sspl nn (segOf s0 more (Nat.div off 64)) (Nat.mod off 64) m (slc x 0 m)) fun s =>
          @Nat.rec (fun _ => Nat × QT Nat 5) (ih s more (Nat.add off m) (Nat.sub n m) (Nat.shiftRight x (Nat.mul 128 m)))
            (fun j _ => ih s0 (qset 5 more j s) (Nat.add off m) (Nat.sub n m) (Nat.shiftRight x (Nat.mul 128 m))) (Nat.div off 64)))

/-! codes: tag + 16 * payload. Tags: 0 agg (payload: n packed cells + 2^(128 n)), 1..4 u8..u64, 5..8 i8..i64 (payload n + 2^63), 9 bool, 10 nil pointer, 11 pointer, 12 nil slice, 13 slice, 14 string, 15 tuple -/
def tag (c : Nat) : Nat := Nat.land c 15
def pay (c : Nat) : Nat := Nat.shiftRight c 4
def enc (t p : Nat) : Nat := Nat.add t (Nat.mul 16 p)
def cB (b : Bool) : Nat := @Bool.casesOn (fun _ => Nat) b 9 25
def cAgg (n x : Nat) : Nat := Nat.mul 16 (Nat.add x (Nat.pow 2 (Nat.mul 128 n)))
def isAg (n c : Nat) : Bool := Nat.beq (Nat.shiftRight (pay c) (Nat.mul 128 n)) 1
def aggX (n c : Nat) : Nat := Nat.mod (pay c) (Nat.pow 2 (Nat.mul 128 n))
/-- an address: off % 2^12 + 2^12 * (uid + 2^24 * (loc + 2^16 * (off / 2^12))) -/
def pAddr (u l o : Nat) : Nat :=
  Nat.add (Nat.mod o 4096) (Nat.mul 4096 (Nat.add u (Nat.mul 16777216 (Nat.add l (Nat.mul 65536 (Nat.div o 4096))))))
def aUid (p : Nat) : Nat := Nat.mod (Nat.div p 4096) 16777216
def aLoc (p : Nat) : Nat := Nat.mod (Nat.div p 68719476736) 65536
def aOff (p : Nat) : Nat := Nat.add (Nat.mod p 4096) (Nat.mul 4096 (Nat.div p 4503599627370496))
/-- the address n cells on -/
def pAdd (p n : Nat) : Nat := pAddr (aUid p) (aLoc p) (Nat.add (aOff p) n)
def cPtr (p : Nat) : Nat := Nat.add 11 (Nat.mul 16 p)
/-- a slice: address + 2^64 * (len + 2^24 * cap); cap 2^23 + es: open, elements of es cells -/
def cSl (p len cap : Nat) : Nat := Nat.add 13 (Nat.mul 16 (Nat.add p (Nat.mul 18446744073709551616 (Nat.add len (Nat.mul 16777216 cap)))))
def sAddr (c : Nat) : Nat := Nat.mod (pay c) 18446744073709551616
def sLen (c : Nat) : Nat := Nat.mod (Nat.div (pay c) 18446744073709551616) 16777216
def sCap (c : Nat) : Nat := Nat.div (pay c) 309485009821345068724781056
def openCap : Nat := 8388608

/-! ints -/
def b63 : Nat := 9223372036854775808
def b631 : Nat := 9223372036854775809
def b64 : Nat := 18446744073709551616
def b65 : Nat := 36893488147419103232
def kTag : IntKind → Nat
  | .u8 => 1 | .u16 => 2 | .u32 => 3 | .u64 => 4 | .i8 => 5 | .i16 => 6 | .i32 => 7 | .i64 => 8
def kBits : IntKind → Nat
  | .u8 | .i8 => 8 | .u16 | .i16 => 16 | .u32 | .i32 => 32 | .u64 | .i64 => 64
/-- by tag -/
def tBits (t : Nat) : Nat := Nat.shiftLeft 8 (Nat.land (Nat.sub t 1) 3)
/-- a natural number that is the payload's number modulo 2^64 -/
def tmod (t p : Nat) : Nat := bB (Nat.ble t 4) p (Nat.add p b63)
/-- the payload of the wrapped number -/
def tfrom (t x : Nat) : Nat :=
  bB (Nat.ble t 4) (Nat.mod x (Nat.pow 2 (tBits t)))
    (Nat.add (Nat.mod (Nat.add x (Nat.pow 2 (Nat.sub (tBits t) 1))) (Nat.pow 2 (tBits t)))
      (Nat.sub b63 (Nat.pow 2 (Nat.sub (tBits t) 1))))
/-- what a payload of the kind is ahead of its number -/
def kOff (k : IntKind) : Int := if k.signed then 9223372036854775808 else 0
def encI (k : IntKind) (n : Int) : Nat :=
  if k.min ≤ n ∧ n ≤ k.max then (kTag k + 16 * (n + kOff k)).toNat else 0

def beBytes : List UInt8 → Nat → Nat
  | [], acc => acc
  | b :: bs, acc => beBytes bs (Nat.add (Nat.mul acc 256) b.toNat)

def encS : Value → Nat
  | .int k n => encI k n
  | .bool b => cB b
  | .pointer none => 10
  | .slice none 0 0 => 12
  | _ => 0
def packL : List Value → Nat
  | [] => 0
  | v :: vs => Nat.add (encS v) (Nat.shiftLeft (packL vs) 128)
def encV (v : Value) : Nat :=
  match v with
  | .agg cs => bB (cs.toList.all fun v => Nat.ble 1 (encS v)) (cAgg cs.toList.length (packL cs.toList)) 0
  | v => encS v

/-! what the evaluator is told of the types -/
structure TI where
  k : Nat          -- 0 not told, 1 struct, 2 array, 3 slice, 4 pointer, 5 int, 6 string, 7 bool, 8 another
  sz : Nat
  ln : Nat
  el : Nat
  ik : Nat
  offs : List (Nat × Nat)     -- offset, size of each field
  by_ : Nat         -- bytes
  pat : Nat         -- the cells' tags, if '==' goes by the cells (arrays of integers); else 0
  zk : Nat          -- 1: the zero value's cells are z
  z : Nat × QT Nat 5

def noTI : TI := ⟨0, 0, 0, 0, 0, [], 0, 0, 0, (0, noSegs)⟩

/-- registers: a tick, the packed scalars, the others -/
abbrev K := Nat → Nat → List Bnd → Hp → Bool
abbrev CallF := Nat → Nat → List Nat → Hp → (Nat → List Nat → Hp → Bool) → Bool
structure Cl where
  f : CallF → Nat → Nat → Nat → List Bnd → Hp → K → Bool
def Cl.run (c : Cl) (cf : CallF) (r0 q v : Nat) (a : List Bnd) (H : Hp) (k : K) : Bool :=
  @Cl.casesOn (fun _ => Bool) c fun f => f cf r0 q v a H k
def clNo : Cl := ⟨fun _ _ _ _ _ _ _ => false⟩

/-! registers -/
def shOf (t : Nat) : Nat := Nat.add 64 (Nat.mul 128 t)
def gF (sh v : Nat) : Nat := Nat.land (Nat.shiftRight v sh) 340282366920938463463374607431768211455
def setF (q sh v x : Nat) : Nat :=
  Nat.xor v (Nat.xor (Nat.shiftLeft (Nat.xor (gF sh v) x) sh) (Nat.xor (Nat.land v 18446744073709551615) (Nat.land q 18446744073709551615)))
def look (t : Nat) (a : List Bnd) (k : Nat → List Nat → Bool) : Bool :=
  match a with
  | [] => false
  | ⟨t', c, xs⟩ :: a' => bB (Nat.beq t' t) (k c xs) (look t a' k)
/-- an operand's code -/
structure Ov where
  g : Nat → List Bnd → (Nat → Bool) → Bool
def Ov.get (o : Ov) (v : Nat) (a : List Bnd) (k : Nat → Bool) : Bool := @Ov.casesOn (fun _ => Bool) o fun g => g v a k
def ovT (t sh v : Nat) (a : List Bnd) (k : Nat → Bool) : Bool :=
  fN (gF sh v) fun c => z0 c (look t a fun c _ => z0 c false (z0 (tag c) (k c) (bB (Nat.ble 14 (tag c)) (k c) false))) (k c)
def cOv : Operand → Ov
  | .tmp t => fN t fun t => fN (shOf t) fun sh => ⟨ovT t sh⟩
  | .const u => fN (encV u) fun c => z0 c ⟨fun _ _ _ => false⟩ ⟨fun _ _ k => k c⟩
  | _ => ⟨fun _ _ _ => false⟩
/-- where the result goes: a scalar code, a code beside it (an aggregate; 15 and a tuple's codes) -/
structure Pt where
  s : Nat → Nat → Nat → List Bnd → Hp → K → Bool
  g : Nat → List Nat → Nat → Nat → List Bnd → Hp → K → Bool
def Pt.ps (p : Pt) (c q v : Nat) (a : List Bnd) (H : Hp) (k : K) : Bool := @Pt.casesOn (fun _ => Bool) p fun s _ => s c q v a H k
def Pt.pg (p : Pt) (c : Nat) (xs : List Nat) (q v : Nat) (a : List Bnd) (H : Hp) (k : K) : Bool := @Pt.casesOn (fun _ => Bool) p fun _ g => g c xs q v a H k
/-- a code of whatever kind -/
def Pt.pc (p : Pt) (c q v : Nat) (a : List Bnd) (H : Hp) (k : K) : Bool :=
  z0 (tag c) (p.pg c [] q v a H k) (bB (Nat.ble c 340282366920938463463374607431768211455) (p.ps c q v a H k) (p.pg c [] q v a H k))
def cPt : Option Nat → Pt
  | none => ⟨fun _ q v a H k => k q v a H, fun _ _ q v a H k => k q v a H⟩
  | some d => fN d fun d => fN (shOf d) fun sh =>
    ⟨fun c q v a H k => fN (Nat.succ q) fun q => fN (setF q sh v c) fun v => k q v a H,
     fun c xs q v a H k => fN (Nat.succ q) fun q => fN (setF q sh v 0) fun v => k q v (⟨d, c, xs⟩ :: a) H⟩

/-! blocks -/
def withBlk (H : Hp) (p : Nat) (k : Blk → Bool) : Bool :=
  hpK H fun _ _ _ bs => k (qget 6 bs (aLoc p))
/-- n cells from the address on -/
def ldN (H : Hp) (p n : Nat) (k : Nat → Bool) : Bool :=
  withBlk H p fun B => blK B fun u _ sz _ s0 more =>
    bB (Nat.beq u (aUid p)) (bB (Nat.ble (Nat.add (aOff p) n) sz) (fN (gath 500 s0 more (aOff p) n) k) false) false
def stN (q : Nat) (H : Hp) (p n x : Nat) (k : Hp → Bool) : Bool :=
  hpK H fun hu pt lt bs =>
  blK (qget 6 bs (aLoc p)) fun u ty sz es s0 more =>
    bB (Nat.beq u (aUid p)) (bB (Nat.ble (Nat.add (aOff p) n) sz)
      (prK (scat q 500 s0 more (aOff p) n x) fun s0 more =>
        k ⟨hu, pt, lt, qset 6 bs (aLoc p) ⟨u, ty, sz, es, s0, more⟩⟩) false) false
/-- a new block at place l under the number u -/
def newB (bs : QT Blk 6) (l u ty sz es : Nat) (z : Nat × QT Nat 5) : QT Blk 6 :=
  prK z fun s0 more => qset 6 bs l ⟨u, ty, sz, es, s0, more⟩
/-- the segments of n packed cells -/
def segs (q n x : Nat) : Nat × QT Nat 5 :=
  bB (Nat.ble n 64) (fN (Nat.add (Nat.shiftLeft x 64) (Nat.land q 18446744073709551615)) fun s => (s, noSegs)) (scat q 500 0 noSegs 0 n x)

/-- a new block: 'dr': the number of the operation in a region that draws; 'loc': at a place that goes with the call -/
def alloc (dr : Option Nat) (loc : Bool) (ty sz es : Nat) (z : Nat × QT Nat 5) (r0 : Nat) (H : Hp) (k : Nat → Hp → Bool) : Bool :=
  hpK H fun hu pt lt bs =>
  fN (@Option.casesOn Nat (fun _ => Nat) dr hu (fun i => Nat.add r0 i)) fun u =>
  fN (@Option.casesOn Nat (fun _ => Nat) dr (Nat.succ hu) (fun _ => hu)) fun hu' =>
  bB (Nat.ble u 16777215) (bB (Nat.ble sz 31000)
  (bB loc
    (fN (Nat.add (Nat.mul 2 lt) 1) fun l => fN (Nat.succ lt) fun lt => bB (Nat.ble l 4095) (k (pAddr u l 0) ⟨hu', pt, lt, newB bs l u ty sz es z⟩) false)
    (fN (Nat.mul 2 pt) fun l => fN (Nat.succ pt) fun pt => bB (Nat.ble l 4095) (k (pAddr u l 0) ⟨hu', pt, lt, newB bs l u ty sz es z⟩) false)) false) false

/-- a pointer's code, a slice's: with their bounds -/
def toPtr (p : Nat) (k : Nat → Bool) : Bool := fN (cPtr p) fun c => bB (Nat.ble c 340282366920938463463374607431768211455) (k c) false
def toSl (p len cap : Nat) (k : Nat → Bool) : Bool :=
  bB (Nat.ble p 18446744073709551615) (bB (Nat.ble len 16777215) (bB (Nat.ble cap 16777215) (fN (cSl p len cap) k) false) false) false

/-! the operations -/
def okTags (t cx cy : Nat) : Nat := Nat.land (Nat.lor (Nat.xor cx t) (Nat.xor cy t)) 15
/-- two codes of tag t, to a scalar code -/
def bin2 (t : Nat) (h : Nat → Nat → Nat) (x y : Ov) (p : Pt) : Cl :=
  ⟨fun _ _ q v a H k => x.get v a fun cx => y.get v a fun cy => z0 (okTags t cx cy) (fN (h cx cy) fun r => p.ps r q v a H k) false⟩
def hAdd (t cx cy : Nat) : Nat := enc t (tfrom t (Nat.add (tmod t (pay cx)) (tmod t (pay cy))))
def hSub (t cx cy : Nat) : Nat := enc t (tfrom t (Nat.sub (Nat.add (tmod t (pay cx)) b65) (tmod t (pay cy))))
def hMul (t cx cy : Nat) : Nat := enc t (tfrom t (Nat.mul (tmod t (pay cx)) (tmod t (pay cy))))
def hLss (cx cy : Nat) : Nat := cB (Nat.ble (Nat.succ cx) cy)
def hLeq (cx cy : Nat) : Nat := cB (Nat.ble cx cy)
def hGtr (cx cy : Nat) : Nat := cB (Nat.ble (Nat.succ cy) cx)
def hGeq (cx cy : Nat) : Nat := cB (Nat.ble cy cx)
def hEql (cx cy : Nat) : Nat := cB (Nat.beq cx cy)
def hNeq (cx cy : Nat) : Nat := cB (not (Nat.beq cx cy))
def hAnd (t cx cy : Nat) : Nat := enc t (Nat.land (pay cx) (pay cy))
def hOr (t cx cy : Nat) : Nat := enc t (Nat.lor (pay cx) (pay cy))
def hXor (t cx cy : Nat) : Nat := enc t (Nat.xor (pay cx) (pay cy))
/-- quotient and remainder of numbers that are not negative; y not 0 -/
def divR (t : Nat) (quo : Bool) (x y : Ov) (p : Pt) : Cl :=
  ⟨fun _ _ q v a H k => x.get v a fun cx => y.get v a fun cy => z0 (okTags t cx cy)
    (bB (Nat.ble t 4)
      (z0 (pay cy) false (fN (enc t (bB quo (Nat.div (pay cx) (pay cy)) (Nat.mod (pay cx) (pay cy)))) fun r => p.ps r q v a H k))
      (bB (Nat.ble b63 (pay cx)) (bB (Nat.ble b631 (pay cy))
        (fN (enc t (Nat.add b63 (bB quo (Nat.div (Nat.sub (pay cx) b63) (Nat.sub (pay cy) b63))
            (Nat.mod (Nat.sub (pay cx) b63) (Nat.sub (pay cy) b63))))) fun r => p.ps r q v a H k) false) false)) false⟩
/-- the number that a count is: of an unsigned kind, or a signed one that is not negative -/
def cntOf (c : Nat) (k : Nat → Bool) : Bool :=
  fN (tag c) fun t => z0 t false (bB (Nat.ble t 4) (fN (pay c) k) (bB (Nat.ble t 8)
    (bB (Nat.ble b63 (pay c)) (fN (Nat.sub (pay c) b63) k) false) false))
def shft (t : Nat) (left : Bool) (x y : Ov) (p : Pt) : Cl :=
  ⟨fun _ _ q v a H k => x.get v a fun cx => y.get v a fun cy => bB (Nat.beq (tag cx) t) (bB (Nat.ble t 4)
    (cntOf cy fun n => bB (Nat.ble n 64)
      (fN (enc t (bB left (Nat.mod (Nat.shiftLeft (pay cx) n) (Nat.pow 2 (tBits t))) (Nat.shiftRight (pay cx) n))) fun r => p.ps r q v a H k) false) false) false⟩
/-- '==' of two pointers -/
def eqP (big : Bool) (cx cy : Nat) (k : Bool → Bool) : Bool :=
  bB (Nat.beq cx 10) (bB (Nat.beq cy 10) (k true) (bB (Nat.beq (tag cy) 11) (k false) false))
    (bB (Nat.beq cy 10) (bB (Nat.beq (tag cx) 11) (k false) false)
      (bB (Nat.beq (tag cx) 11) (bB (Nat.beq (tag cy) 11)
        (bB big (bB (Nat.beq (aUid (pay cx)) (aUid (pay cy))) (k (Nat.beq (aOff (pay cx)) (aOff (pay cy)))) false) false) false) false))
def eqSl (cx cy : Nat) (k : Bool → Bool) : Bool :=
  bB (Nat.beq cx 12) (bB (Nat.beq cy 12) (k true) (bB (Nat.beq (tag cy) 13) (k false) false))
    (bB (Nat.beq cy 12) (bB (Nat.beq (tag cx) 13) (k false) false) false)
def tagsOf (n : Nat) : Nat := rep 1 n 15
def eqA (n pat cx cy : Nat) (k : Bool → Bool) : Bool :=
  z0 (tag cx) (z0 (tag cy) (bB (isAg n cx) (bB (isAg n cy)
    (bB (Nat.beq (Nat.land (aggX n cx) (tagsOf n)) pat) (bB (Nat.beq (Nat.land (aggX n cy) (tagsOf n)) pat)
      (k (Nat.beq cx cy)) false) false) false) false) false) false
def eqCl (neg : Bool) (h : Nat → Nat → (Bool → Bool) → Bool) (x y : Ov) (p : Pt) : Cl :=
  ⟨fun _ _ q v a H k => x.get v a fun cx => y.get v a fun cy => h cx cy fun b => fN (cB (bB neg (not b) b)) fun r => p.ps r q v a H k⟩
/-- strings of one length, '>=' : 14 + 16 * (length + 2^32 * the number that the bytes spell) -/
def strGeq (x y : Ov) (p : Pt) : Cl :=
  ⟨fun _ _ q v a H k => x.get v a fun cx => y.get v a fun cy => z0 (okTags 14 cx cy)
    (bB (Nat.beq (Nat.mod (pay cx) 4294967296) (Nat.mod (pay cy) 4294967296)) (fN (hGeq cx cy) fun r => p.ps r q v a H k) false) false⟩

def cBin (T TE : TI) (op : BinOp) (x y : Ov) (p : Pt) : Cl :=
  fN T.ik fun t =>
  match op with
  | .add => z0 t clNo (bin2 t (hAdd t) x y p)
  | .sub => z0 t clNo (bin2 t (hSub t) x y p)
  | .mul => z0 t clNo (bin2 t (hMul t) x y p)
  | .quo => z0 t clNo (divR t true x y p)
  | .rem => z0 t clNo (divR t false x y p)
  | .and => bB (Nat.ble t 4) (z0 t clNo (bin2 t (hAnd t) x y p)) clNo
  | .or => bB (Nat.ble t 4) (z0 t clNo (bin2 t (hOr t) x y p)) clNo
  | .xor => bB (Nat.ble t 4) (z0 t clNo (bin2 t (hXor t) x y p)) clNo
  | .shl => z0 t clNo (shft t true x y p)
  | .shr => z0 t clNo (shft t false x y p)
  | .andNot => clNo
  | .lss => z0 t clNo (bin2 t hLss x y p)
  | .leq => z0 t clNo (bin2 t hLeq x y p)
  | .gtr => z0 t clNo (bin2 t hGtr x y p)
  | .geq => z0 t (bB (Nat.beq T.k 6) (strGeq x y p) clNo) (bin2 t hGeq x y p)
  | .eql => z0 t (bB (Nat.beq T.k 7) (bin2 9 hEql x y p) (bB (Nat.beq T.k 4) (eqCl false (eqP (bB (Nat.ble 1 TE.k) (Nat.ble 1 TE.sz) false)) x y p) (bB (Nat.beq T.k 3) (eqCl false eqSl x y p)
      (bB (Nat.ble 1 T.pat) (eqCl false (eqA T.sz T.pat) x y p) clNo)))) (bin2 t hEql x y p)
  | .neq => z0 t (bB (Nat.beq T.k 7) (bin2 9 hNeq x y p) (bB (Nat.beq T.k 4) (eqCl true (eqP (bB (Nat.ble 1 TE.k) (Nat.ble 1 TE.sz) false)) x y p) (bB (Nat.beq T.k 3) (eqCl true eqSl x y p)
      (bB (Nat.ble 1 T.pat) (eqCl true (eqA T.sz T.pat) x y p) clNo)))) (bin2 t hNeq x y p)

def cMove (x : Operand) (p : Pt) : Cl :=
  match x with
  | .tmp t => fN t fun t => fN (shOf t) fun sh =>
      ⟨fun _ _ q v a H k => fN (gF sh v) fun c => z0 c (look t a fun c xs => p.pg c xs q v a H k) (p.ps c q v a H k)⟩
  | .const u => fN (encV u) fun c => z0 c clNo ⟨fun _ _ q v a H k => p.pc c q v a H k⟩
  | _ => clNo

def cNot (x : Ov) (p : Pt) : Cl :=
  ⟨fun _ _ q v a H k => x.get v a fun c => bB (Nat.beq c 25) (p.ps 9 q v a H k) (bB (Nat.beq c 9) (p.ps 25 q v a H k) false)⟩
def cPick (c : Ov) (x y : Cl) : Cl :=
  ⟨fun cf r0 q v a H k => c.get v a fun c => bB (Nat.beq c 25) (x.run cf r0 q v a H k) (bB (Nat.beq c 9) (y.run cf r0 q v a H k) false)⟩
def cNil (x : Ov) (p : Pt) : Cl :=
  ⟨fun _ _ q v a H k => x.get v a fun c => bB (Nat.beq (tag c) 11) (p.ps c q v a H k) false⟩
def cField (o : Nat × Nat) (x : Ov) (p : Pt) : Cl :=
  fN o.1 fun off => z0 o.2 clNo
  ⟨fun _ _ q v a H k => x.get v a fun c => bB (Nat.beq (tag c) 11) (toPtr (pAdd (pay c) off) fun r => p.ps r q v a H k) false⟩
def idxCl (len : Nat) (es : Nat) (x i : Ov) (p : Pt) : Cl :=
  ⟨fun _ _ q v a H k => x.get v a fun c => bB (Nat.beq (tag c) 11) (i.get v a fun ci => cntOf ci fun n =>
    bB (Nat.ble (Nat.succ n) len) (toPtr (pAdd (pay c) (Nat.mul n es)) fun r => p.ps r q v a H k) false) false⟩
def idxSl (es : Nat) (x i : Ov) (p : Pt) : Cl :=
  ⟨fun _ _ q v a H k => x.get v a fun c => bB (Nat.beq (tag c) 13) (i.get v a fun ci => cntOf ci fun n =>
    bB (Nat.ble (Nat.succ n) (sLen c)) (toPtr (pAdd (sAddr c) (Nat.mul n es)) fun r => p.ps r q v a H k) false) false⟩
def cLoad (agg : Bool) (n : Nat) (x : Ov) (p : Pt) : Cl :=
  bB agg
    ⟨fun _ _ q v a H k => x.get v a fun c => bB (Nat.beq (tag c) 11) (ldN H (pay c) n fun X => fN (cAgg n X) fun r => p.pg r [] q v a H k) false⟩
    ⟨fun _ _ q v a H k => x.get v a fun c => bB (Nat.beq (tag c) 11) (ldN H (pay c) 1 fun X => z0 X false (p.ps X q v a H k)) false⟩
/-- the packed cells of a value that has n of them -/
def cellsOf (n c : Nat) (k : Nat → Bool) : Bool :=
  z0 (tag c) (bB (isAg n c) (fN (aggX n c) k) false) (bB (Nat.beq n 1) (bB (Nat.ble (tag c) 13) (k c) false) false)
def cStore (n : Nat) (x y : Ov) (p : Pt) : Cl :=
  ⟨fun _ _ q v a H k => x.get v a fun c => bB (Nat.beq (tag c) 11) (y.get v a fun cy => cellsOf n cy fun X => stN q H (pay c) n X fun H => p.pg 15 [] q v a H k) false⟩
def cAlloc (dr : Option Nat) (loc : Bool) (ty : Nat) (T : TI) (p : Pt) : Cl :=
  z0 T.zk clNo ⟨fun _ r0 q v a H k => alloc dr loc ty T.sz 0 T.z r0 H fun p' H => toPtr p' fun r => p.ps r q v a H k⟩
def cBox (dr : Option Nat) (loc : Bool) (ty : Nat) (T : TI) (x : Ov) (p : Pt) : Cl :=
  ⟨fun _ r0 q v a H k => x.get v a fun c => cellsOf T.sz c fun X => alloc dr loc ty T.sz 0 (segs q T.sz X) r0 H fun p' H => toPtr p' fun r => p.ps r q v a H k⟩
/-- parts laid over packed cells: (offset, size, operand) -/
def lay (parts : List (Nat × Nat × Ov)) (v : Nat) (a : List Bnd) (X : Nat) (k : Nat → Bool) : Bool :=
  match parts with
  | [] => k X
  | (o, n, x) :: ps => x.get v a fun c => cellsOf n c fun Y => fN (spl X o n Y) fun X => lay ps v a X k
def zeroX (T : TI) : Nat := prK T.z fun s0 more => gath 500 s0 more 0 T.sz
/-- the places of the parts: of a struct's fields, of an array's elements of E cells -/
def places (T : TI) (E : Nat) (parts : List (Nat × Operand)) : Option (List (Nat × Nat × Ov)) :=
  match parts with
  | [] => some []
  | (i, x) :: ps => match (bB (Nat.beq T.k 1) T.offs[i]? (some (i * E, E)) : Option (Nat × Nat)), places T E ps with
    | some (o, n), some r => bB (Nat.ble (o + n) T.sz) (fN o fun o => fN n fun n => some ((o, n, cOv x) :: r)) none
    | _, _ => none
def cBuild (T : TI) (E : Nat) (parts : List (Nat × Operand)) (p : Pt) : Cl :=
  z0 T.zk clNo <| fN (zeroX T) fun Z =>
  match places T E parts with
  | none => clNo
  | some ps => ⟨fun _ _ q v a H k => lay ps v a Z fun X => fN (cAgg T.sz X) fun r => p.pg r [] q v a H k⟩
def cBuildSl (dr : Option Nat) (loc : Bool) (el : Nat) (E : TI) (n : Nat) (parts : List (Nat × Operand)) (p : Pt) : Cl :=
  z0 E.zk clNo <| z0 E.sz clNo <| fN (rep E.sz n (zeroX E)) fun Z => fN (n * E.sz) fun m =>
  match bB (Nat.ble m 16777215) (places { noTI with sz := m } E.sz parts) none with
  | none => clNo
  | some ps => ⟨fun _ r0 q v a H k => lay ps v a Z fun X => alloc dr loc el m 0 (segs q m X) r0 H fun p' H => bB (Nat.ble n 8388607) (toSl p' n n fun r => p.ps r q v a H k) false⟩
def cMakeSl (dr : Option Nat) (loc : Bool) (el : Nat) (E : TI) (l c : Ov) (p : Pt) : Cl :=
  z0 E.zk clNo <| z0 E.sz clNo <| bB (Nat.ble E.by_ 1048576) (fN (zeroX E) fun Z => fN E.sz fun es =>
  ⟨fun _ r0 q v a H k => l.get v a fun cl => cntOf cl fun n => c.get v a fun cc => cntOf cc fun m =>
    bB (Nat.ble n m) (bB (Nat.ble m 8000000)
      (alloc dr loc el (Nat.mul m es) 0 (segs q (Nat.mul m es) (rep es m Z)) r0 H fun p' H => toSl p' n m fun r => p.ps r q v a H k) false) false⟩) clNo
/-- a bound of a slice expression -/
def bnd (x : Option Ov) (d : Nat) (v : Nat) (a : List Bnd) (k : Nat → Bool) : Bool :=
  match x with
  | none => k d
  | some x => x.get v a fun c => cntOf c k
def mkSl (p es l h m : Nat) (k : Nat → Bool) : Bool :=
  bB (Nat.ble m 8388607) (toSl (bB (Nat.beq m l) p (pAdd p (Nat.mul l es))) (Nat.sub h l) (Nat.sub m l) k) false
def slArr (len es : Nat) (x : Ov) (lo hi mx : Option Ov) (p : Pt) : Cl :=
  ⟨fun _ _ q v a H k => x.get v a fun c => bB (Nat.beq (tag c) 11)
    (bnd mx len v a fun m => bnd hi (match mx with | none => len | some _ => m) v a fun h => bnd lo 0 v a fun l =>
      bB (Nat.ble m len) (bB (Nat.ble h m) (bB (Nat.ble l h) (mkSl (pay c) es l h m fun r => p.ps r q v a H k) false) false) false) false⟩
/-- of a slice: with a known capacity, or an open one (then no bound may pass the length) -/
def slSl (es : Nat) (x : Ov) (lo hi mx : Option Ov) (p : Pt) : Cl :=
  ⟨fun _ _ q v a H k => x.get v a fun c => bB (Nat.beq (tag c) 13)
    (fN (sLen c) fun n => fN (sCap c) fun cap =>
      bB (Nat.ble openCap cap)
        (match mx with
         | none => bnd hi n v a fun h => bnd lo 0 v a fun l => bB (Nat.ble h n) (bB (Nat.ble l h) (bB (Nat.beq (Nat.sub cap openCap) es)
             (bB (Nat.ble (Nat.succ l) n) (toSl (pAdd (sAddr c) (Nat.mul l es)) (Nat.sub h l) cap fun r => p.ps r q v a H k)
               (z0 l (toSl (sAddr c) (Nat.sub h l) cap fun r => p.ps r q v a H k) false)) false) false) false
         | some mx => mx.get v a fun cm => cntOf cm fun m => bnd hi m v a fun h => bnd lo 0 v a fun l =>
             bB (Nat.ble m n) (bB (Nat.ble h m) (bB (Nat.ble l h) (mkSl (sAddr c) es l h m fun r => p.ps r q v a H k) false) false) false)
        (bnd mx cap v a fun m => bnd hi (match mx with | none => n | some _ => m) v a fun h => bnd lo 0 v a fun l =>
          bB (Nat.ble m cap) (bB (Nat.ble h m) (bB (Nat.ble l h) (mkSl (sAddr c) es l h m fun r => p.ps r q v a H k) false) false) false))
    (bB (Nat.beq c 12) (bnd mx 0 v a fun m => bnd hi 0 v a fun h => bnd lo 0 v a fun l => z0 m (z0 h (z0 l (p.ps 12 q v a H k) false) false) false) false)⟩
def cS2A (n : Nat) (x : Ov) (p : Pt) : Cl :=
  ⟨fun _ _ q v a H k => x.get v a fun c => bB (Nat.beq (tag c) 13) (bB (Nat.ble n (sLen c)) (toPtr (sAddr c) fun r => p.ps r q v a H k) false) false⟩
def cConv (t : Nat) (x : Ov) (p : Pt) : Cl :=
  ⟨fun _ _ q v a H k => x.get v a fun c => fN (tag c) fun s => bB (Nat.ble 1 s) (bB (Nat.ble s 8) (fN (enc t (tfrom t (tmod s (pay c)))) fun r => p.ps r q v a H k) false) false⟩
/-- the bytes of n packed cells, as one number; every cell an uint8 -/
def bytesN : Nat → Nat → Nat → (Nat → Bool) → Bool :=
  @Nat.rec (fun _ => Nat → Nat → (Nat → Bool) → Bool) (fun _ acc k => k acc)
    (fun _ ih X acc k => fN (Nat.mod X 340282366920938463463374607431768211456) fun c => bB (Nat.beq (tag c) 1) (fN (Nat.add (Nat.mul acc 256) (pay c)) fun acc => ih (Nat.shiftRight X 128) acc k) false)
def cStr (x : Ov) (p : Pt) : Cl :=
  ⟨fun _ _ q v a H k => x.get v a fun c => bB (Nat.beq (tag c) 13) (fN (sLen c) fun n => ldN H (sAddr c) n fun X => bytesN n X 0 fun s =>
    fN (enc 14 (Nat.add n (Nat.mul 4294967296 s))) fun r => p.pg r [] q v a H k) false⟩
def nthF {α : Type} : Nat → List α → Option α :=
  @Nat.rec (fun _ => List α → Option α) (fun l => @List.casesOn α (fun _ => Option α) l none (fun x _ => some x))
    (fun _ ih l => @List.casesOn α (fun _ => Option α) l none (fun _ xs => ih xs))

def cExtract (t i : Nat) (p : Pt) : Cl :=
  fN (shOf t) fun sh => fN t fun t =>
  ⟨fun _ _ q v a H k => z0 (gF sh v) (look t a fun c xs => bB (Nat.beq c 15) (match nthF i xs with | some c => p.pc c q v a H k | none => false) false) false⟩
def cLen (T : TI) (x : Ov) (p : Pt) : Cl :=
  bB (Nat.beq T.k 3)
    ⟨fun _ _ q v a H k => x.get v a fun c => bB (Nat.beq c 12) (p.ps 147573952589676412936 q v a H k)
      (bB (Nat.beq (tag c) 13) (fN (enc 8 (Nat.add b63 (sLen c))) fun r => p.ps r q v a H k) false)⟩
    (bB (Nat.beq T.k 2) (bB (Nat.ble T.ln 16777215) (fN (enc 8 (Nat.add b63 T.ln)) fun r => ⟨fun _ _ q v a H k => p.ps r q v a H k⟩) clNo) clNo)
def cMin (mn : Bool) (x y : Ov) (p : Pt) : Cl :=
  ⟨fun _ _ q v a H k => x.get v a fun cx => y.get v a fun cy => z0 (okTags (tag cx) cx cy) (z0 (tag cx) false (bB (Nat.ble (tag cx) 8)
      (fN (bB mn (bB (Nat.ble cx cy) cx cy) (bB (Nat.ble cx cy) cy cx)) fun r => p.ps r q v a H k) false)) false⟩
/-- the first n elements of a slice -/
def slCells (H : Hp) (es c n : Nat) (k : Nat → Bool) : Bool :=
  z0 n (k 0) (bB (Nat.beq (tag c) 13) (ldN H (sAddr c) (Nat.mul n es) k) false)
/-- a new open row of n elements -/
def newRow (es el : Nat) (loc : Bool) (n X : Nat) (p : Pt) (q v : Nat) (a : List Bnd) (H : Hp) (k : K) : Bool :=
  fN (Nat.mul n es) fun m => alloc none loc el m es (segs q m X) 0 H fun p' H => toSl p' n (Nat.add openCap es) fun r => p.ps r q v a H k
/-- append of n elements X to the slice cs -/
def appN (es el : Nat) (loc : Bool) (cs n X : Nat) (p : Pt) (q v : Nat) (a : List Bnd) (H : Hp) (k : K) : Bool :=
  z0 n (p.ps cs q v a H k)
  (bB (Nat.beq cs 12)
    (newRow es el loc n X p q v a H k)
    (bB (Nat.beq (tag cs) 13)
      (fN (sLen cs) fun l => fN (sCap cs) fun cap => fN (sAddr cs) fun ad =>
        bB (Nat.ble openCap cap)
          (bB (Nat.beq (Nat.sub cap openCap) es)
            (hpK H fun hu pt lt bs =>
             blK (qget 6 bs (aLoc ad)) fun u ty sz bes s0 more =>
             bB (Nat.beq u (aUid ad))
              (bB (Nat.ble (Nat.add (aOff ad) (Nat.mul (Nat.add l n) es)) sz)
                (stN q ⟨hu, pt, lt, bs⟩ (pAdd ad (Nat.mul l es)) (Nat.mul n es) X fun H => toSl ad (Nat.add l n) cap fun r => p.ps r q v a H k)
                (z0 (aOff ad) (bB (Nat.beq (Nat.mul l es) sz) (bB (Nat.beq bes es) (bB (Nat.ble hu 16777215) (bB (Nat.beq ty el)
                  (prK (scat q 500 s0 more sz (Nat.mul n es) X) fun s0 more =>
                    fN (Nat.add sz (Nat.mul n es)) fun sz => fN (Nat.succ hu) fun hu' => bB (Nat.ble sz 31000)
                    (toSl (pAddr hu (aLoc ad) 0) (Nat.add l n) cap fun r =>
                    p.ps r q v a ⟨hu', pt, lt, qset 6 bs (aLoc ad) ⟨hu, ty, sz, es, s0, more⟩⟩ k) false) false) false) false) false) false)) false)
            false)
          (bB (Nat.ble (Nat.add l n) cap)
            (stN q H (pAdd ad (Nat.mul l es)) (Nat.mul n es) X fun H => toSl ad (Nat.add l n) cap fun r => p.ps r q v a H k)
            (slCells H es cs l fun Y => fN (Nat.add Y (Nat.shiftLeft X (Nat.mul 128 (Nat.mul l es)))) fun X => newRow es el loc (Nat.add l n) X p q v a H k)))
      false))
def isSl (c : Nat) : Bool := Nat.beq (Nat.lor (tag c) 1) 13
def cApp (loc : Bool) (el : Nat) (E : TI) (zeros : Bool) (s x : Ov) (p : Pt) : Cl :=
  z0 E.zk clNo <| z0 E.sz clNo <| bB (Nat.ble E.by_ 1048576) (fN E.sz fun es => fN (zeroX E) fun Z =>
  bB zeros
    ⟨fun _ _ q v a H k => s.get v a fun cs => bB (isSl cs) (x.get v a fun cx => cntOf cx fun n => bB (Nat.ble n 8000000) (fN (rep es n Z) fun X => appN es el loc cs n X p q v a H k) false) false⟩
    ⟨fun _ _ q v a H k => s.get v a fun cs => bB (isSl cs) (x.get v a fun cx => bB (isSl cx)
      (fN (sLen cx) fun n => bB (Nat.ble (Nat.mul n es) 31000) (slCells H es cx n fun X => appN es el loc cs n X p q v a H k) false) false) false⟩) clNo
def cCopy (es : Nat) (d s : Ov) (p : Pt) : Cl :=
  ⟨fun _ _ q v a H k => d.get v a fun cd => s.get v a fun cs => bB (isSl cd) (bB (isSl cs)
    (fN (bB (Nat.ble (sLen cd) (sLen cs)) (sLen cd) (sLen cs)) fun n => fN (enc 8 (Nat.add b63 n)) fun r =>
      z0 n (p.ps r q v a H k) (ldN H (sAddr cs) (Nat.mul n es) fun X => stN q H (sAddr cd) (Nat.mul n es) X fun H => p.ps r q v a H k)) false) false⟩
def cClear (E : TI) (s : Ov) (p : Pt) : Cl :=
  z0 E.zk clNo <| z0 E.sz clNo <| fN E.sz fun es => fN (zeroX E) fun Z =>
  ⟨fun _ _ q v a H k => s.get v a fun c => bB (Nat.beq c 12) (p.pg 15 [] q v a H k) (bB (Nat.beq (tag c) 13) (fN (sLen c) fun n =>
    z0 n (p.pg 15 [] q v a H k) (stN q H (sAddr c) (Nat.mul n es) (rep es n Z) fun H => p.pg 15 [] q v a H k)) false)⟩
def args (xs : List Ov) (v : Nat) (a : List Bnd) (k : List Nat → Bool) : Bool :=
  match xs with
  | [] => k []
  | x :: xs => x.get v a fun c => bB (Nat.ble (tag c) 14) (args xs v a fun cs => k (c :: cs)) false
def ret1 (p : Pt) (rs : List Nat) (q v : Nat) (a : List Bnd) (H : Hp) (k : K) : Bool :=
  match rs with
  | [c] => p.pc c q v a H k
  | rs => p.pg 15 rs q v a H k
def cCall (f : Nat) (xs : List Ov) (p : Pt) : Cl :=
  ⟨fun cf _ q v a H k => args xs v a fun cs => hpK H fun hu pt lt bs =>
    cf q f cs ⟨hu, pt, lt, bs⟩ fun q rs H => hpK H fun hu pt _ bs => ret1 p rs q v a ⟨hu, pt, lt, bs⟩ k⟩
def cAddSub (sub : Bool) (x y c : Ov) (p : Pt) : Cl :=
  ⟨fun _ _ q v a H k => x.get v a fun cx => y.get v a fun cy => c.get v a fun cc => z0 (okTags 4 cx cy) (bB (Nat.beq (tag cc) 4) (bB (Nat.ble (pay cc) 1)
      (bB sub
        (fN (enc 4 (Nat.mod (Nat.sub (Nat.sub (Nat.add (pay cx) b64) (pay cy)) (pay cc)) b64)) fun r =>
         fN (enc 4 (bB (Nat.ble (Nat.add (pay cy) (pay cc)) (pay cx)) 0 1)) fun b => p.pg 15 [r, b] q v a H k)
        (fN (enc 4 (Nat.mod (Nat.add (Nat.add (pay cx) (pay cy)) (pay cc)) b64)) fun r =>
         fN (enc 4 (Nat.div (Nat.add (Nat.add (pay cx) (pay cy)) (pay cc)) b64)) fun b => p.pg 15 [r, b] q v a H k)) false) false) false⟩

structure Env where
  ti : Nat → TI
  add64 : Nat
  sub64 : Nat
  /-- the function whose loop over a table is taken 64 rounds at a time where nothing lies in it -/
  tab : Nat
  /-- does the block that (function, slot) makes go with the call? -/
  loc : Nat → Nat → Bool

def wfSl (hi mx : Option Operand) : Bool := match mx, hi with | some _, none => false | _, _ => true
def isAggK (k : Nat) : Bool := bB (Nat.ble 1 k) (Nat.ble k 2) false
def cOp (E : Env) (fn : Nat) (dr : Option Nat) (o : Oper) : Cl :=
  match cPt o.dst, (match o.dst with | some d => E.loc fn d | none => true) with
  | p, loc =>
  match o.op with
  | .move x | .assign x => cMove x p
  | .pick c x y => cPick (cOv c) (cMove x p) (cMove y p)
  | .alloc t => cAlloc dr loc t (E.ti t) p
  | .box t x => z0 (E.ti t).k clNo (cBox dr loc t (E.ti t) (cOv x) p)
  | .build t ps => bB (isAggK (E.ti t).k) (z0 (bB (Nat.beq (E.ti t).k 1) 1 (E.ti (E.ti t).el).k) clNo <| cBuild (E.ti t) (E.ti (E.ti t).el).sz ps.toList p) clNo
  | .buildSlice t n ps => z0 (E.ti t).k clNo <| bB (Nat.beq (E.ti t).k 3) (cBuildSl dr loc (E.ti t).el (E.ti (E.ti t).el) n ps.toList p) clNo
  | .load t x => z0 (E.ti t).k clNo (cLoad (isAggK (E.ti t).k) (E.ti t).sz (cOv x) p)
  | .store t x y => z0 (E.ti t).k clNo (cStore (E.ti t).sz (cOv x) (cOv y) p)
  | .nilCheck x => cNil (cOv x) p
  | .binOp op t x y _ => cBin (E.ti t) (E.ti (E.ti t).el) op (cOv x) (cOv y) p
  | .unOp .not _ x => cNot (cOv x) p
  | .convert s t x => bB (Nat.beq (E.ti t).k 5) (bB (Nat.beq (E.ti s).k 5) (cConv (E.ti t).ik (cOv x) p) clNo)
      (bB (Nat.beq (E.ti t).k 6) (bB (Nat.beq (E.ti s).k 3) (bB (Nat.beq (E.ti (E.ti s).el).ik 1) (cStr (cOv x) p) clNo) clNo) clNo)
  | .sliceToArrayPointer t x => bB (Nat.beq (E.ti t).k 2) (cS2A (E.ti t).ln (cOv x) p) clNo
  | .makeSlice t l c => bB (Nat.beq (E.ti t).k 3) (cMakeSl dr loc (E.ti t).el (E.ti (E.ti t).el) (cOv l) (cOv c) p) clNo
  | .slice t x lo hi mx => bB (wfSl hi mx) (z0 (E.ti (E.ti t).el).k clNo <| bB (Nat.beq (E.ti t).k 2) (slArr (E.ti t).ln (E.ti (E.ti t).el).sz (cOv x) (lo.map cOv) (hi.map cOv) (mx.map cOv) p)
      (bB (Nat.beq (E.ti t).k 3) (z0 (E.ti (E.ti t).el).sz clNo <| slSl (E.ti (E.ti t).el).sz (cOv x) (lo.map cOv) (hi.map cOv) (mx.map cOv) p) clNo)) clNo
  | .fieldAddr t x i => match bB (Nat.beq (E.ti t).k 1) (E.ti t).offs[i]? none with | some o => cField o (cOv x) p | none => clNo
  | .indexAddr t x i => z0 (E.ti (E.ti t).el).k clNo <| bB (Nat.beq (E.ti t).k 2) (idxCl (E.ti t).ln (E.ti (E.ti t).el).sz (cOv x) (cOv i) p)
      (bB (Nat.beq (E.ti t).k 3) (idxSl (E.ti (E.ti t).el).sz (cOv x) (cOv i) p) clNo)
  | .extract (.tmp t) i => cExtract t i p
  | .call ⟨.builtin .len, xs, ts⟩ => match xs.toList, ts.toList with | [x], [t] => cLen (E.ti t) (cOv x) p | _, _ => clNo
  | .call ⟨.builtin .append, xs, ts⟩ => match xs.toList, ts.toList with
    | [s, x], [t, u] => bB (Nat.beq (E.ti t).k 3) (z0 (E.ti u).k clNo (cApp loc (E.ti t).el (E.ti (E.ti t).el) (Nat.beq (E.ti u).k 5) (cOv s) (cOv x) p)) clNo
    | _, _ => clNo
  | .call ⟨.builtin .copy, xs, ts⟩ => match xs.toList, ts.toList with
    | [d, s], t :: _ => bB (Nat.beq (E.ti t).k 3) (z0 (E.ti (E.ti t).el).k clNo <| z0 (E.ti (E.ti t).el).sz clNo (cCopy (E.ti (E.ti t).el).sz (cOv d) (cOv s) p)) clNo
    | _, _ => clNo
  | .call ⟨.builtin .clear, xs, ts⟩ => match xs.toList, ts.toList with
    | [s], [t] => bB (Nat.beq (E.ti t).k 3) (cClear (E.ti (E.ti t).el) (cOv s) p) clNo
    | _, _ => clNo
  | .call ⟨.builtin .min, xs, _⟩ => match xs.toList with | [x, y] => cMin true (cOv x) (cOv y) p | _ => clNo
  | .call ⟨.builtin .max, xs, _⟩ => match xs.toList with | [x, y] => cMin false (cOv x) (cOv y) p | _ => clNo
  | .call ⟨.value (.func f), xs, _⟩ =>
    bB (Nat.beq f E.add64) (match xs.toList with | [x, y, c] => cAddSub false (cOv x) (cOv y) (cOv c) p | _ => clNo)
      (bB (Nat.beq f E.sub64) (match xs.toList with | [x, y, c] => cAddSub true (cOv x) (cOv y) (cOv c) p | _ => clNo)
        (fN f fun f => cCall f (xs.toList.map cOv) p))
  | _ => clNo

/-- an operation with its guard: 'want': the code of the wanted bool; g: the slot of the guarding operation -/
def cGuard (p : Pt) (g want : Nat) (c : Cl) : Cl :=
  fN g fun g => fN (shOf g) fun sh => ⟨fun cf r0 q v a H k => fN (gF sh v) fun x => bB (Nat.beq x want) (c.run cf r0 q v a H k)
    (bB (Nat.beq (tag x) 9) (p.pg 15 [] q v a H k) (z0 x (look g a fun c _ => bB (Nat.beq c 15) (p.pg 15 [] q v a H k) false) false))⟩
def cOper (E : Env) (fn : Nat) (ops : Array Oper) (dr : Option Nat) (o : Oper) : Cl :=
  match o.guard with
  | none => cOp E fn dr o
  | some (j, w) => match (ops[j]?).bind (·.dst) with
    | some g => cGuard (cPt o.dst) g (cB w) (cOp E fn dr o)
    | none => clNo
def clNil : Cl := ⟨fun _ _ q v a H k => k q v a H⟩
def cSeq (x y : Cl) : Cl := ⟨fun cf r0 q v a H k => x.run cf r0 q v a H fun q v a H => y.run cf r0 q v a H k⟩
def cOps (E : Env) (fn : Nat) (ops : Array Oper) : List Oper → Cl
  | [] => clNil
  | o :: os => cSeq (cOper E fn ops none o) (cOps E fn ops os)
/-- of what kind is the operation: 0 it only reckons, 1 it looks at the heap, 2 it may write, 3 it makes a block -/
def kl (E : Env) (o : Op) : Nat :=
  match o with
  | .move _ | .assign _ | .pick .. | .build .. | .nilCheck _ | .unOp .. | .sliceToArrayPointer .. | .slice .. | .fieldAddr .. | .indexAddr .. | .extract .. | .binOp .. => 0
  | .convert _ t _ => bB (Nat.beq (E.ti t).k 5) 0 1
  | .call ⟨.builtin .len, _, _⟩ | .call ⟨.builtin .min, _, _⟩ | .call ⟨.builtin .max, _, _⟩ => 0
  | .call ⟨.value (.func f), _, _⟩ => bB (Nat.beq f E.add64) 0 (bB (Nat.beq f E.sub64) 0 2)
  | .load .. => 1
  | .alloc _ | .box .. | .buildSlice .. | .makeSlice .. => 3
  | _ => 2
/-- must the one come before the other? -/
def ancB (ops : Array Oper) : Nat → Nat → Nat → Bool
  | 0, _, _ => false
  | f + 1, i, j => match ops[j]? with
    | some o => o.after.toList.any fun e => and (Region.binds .any e) (or (Nat.beq e.on i) (ancB ops f i e.on))
    | none => false
def reads (ops : Array Oper) (o : Oper) (d : Option Nat) : Bool :=
  match d with
  | some d => (o.looksAt ops).any fun t => Nat.beq t d
  | none => false
def sameD (x y : Option Nat) : Bool :=
  match x, y with
  | some a, some b => Nat.beq a b
  | _, _ => false
/-- may operations of these kinds come in either order? -/
def freeK (a b : Nat) : Bool := not (and (Nat.beq b 2) (Nat.ble 2 a))
def goodP (E : Env) (ops : Array Oper) (x y : Oper) (an : Bool) : Bool :=
  and (or (not (reads ops x y.dst)) (and an (not (Nat.beq (kl E x.op) 1)))) (and (not (sameD x.dst y.dst)) (or an (and (not (reads ops y x.dst)) (freeK (kl E x.op) (kl E y.op)))))
def goodR (E : Env) (ops : Array Oper) : Bool :=
  (List.range ops.size).all fun j => match ops[j]? with
    | some y => and (y.after.toList.all fun e => or (not (Region.binds .any e)) (Nat.ble (e.on + 1) j)) (and (not (reads ops y y.dst))
        ((List.range j).all fun i => match ops[i]? with
          | some x => goodP E ops x y (ancB ops ops.size i j)
          | none => false))
    | none => false
def klAt (E : Env) (ops : Array Oper) (i : Nat) : Nat := match ops[i]? with | some o => kl E o.op | none => 0
/-- can the operation j see the heap at the place m of the text? -/
def sees (E : Env) (ops : Array Oper) (j m : Nat) : Bool :=
  (List.range ops.size).all fun k => or (not (Nat.beq (klAt E ops k) 2)) (and (or (not (ancB ops ops.size k j)) (Nat.ble (k + 1) m)) (or (not (ancB ops ops.size j k)) (Nat.ble m k)))
/-- the places where a heap is told: the head, and behind each writer -/
def marks (E : Env) (ops : Array Oper) : List Nat := 0 :: ((List.range ops.size).filter fun k => Nat.beq (klAt E ops k) 2).map (· + 1)
/-- which readers are looked at again, at which heaps -/
def againL (E : Env) (ops : Array Oper) : List (Nat × Nat) :=
  ((List.range ops.size).filter fun j => Nat.beq (klAt E ops j) 1).flatMap fun j => ((marks E ops).filter fun m => sees E ops j m).map fun m => (j, m)
structure ClH where
  f : CallF → Nat → Nat → Nat → List Bnd → Hp → List (Nat × Hp) → (Nat → Nat → List Bnd → Hp → List (Nat × Hp) → Bool) → Bool
def ClH.run (c : ClH) (cf : CallF) (r0 q v : Nat) (a : List Bnd) (H : Hp) (hs : List (Nat × Hp)) (k : Nat → Nat → List Bnd → Hp → List (Nat × Hp) → Bool) : Bool :=
  @ClH.casesOn (fun _ => Bool) c fun f => f cf r0 q v a H hs k
/-- in a region that draws: the operations by their numbers, with the heaps so far, the newest first -/
def cOpsH (E : Env) (fn : Nat) (ops : Array Oper) : List Oper → Nat → ClH
  | [], _ => ⟨fun _ _ q v a H hs k => k q v a H hs⟩
  | o :: os, i => match cOper E fn ops (some i) o, Nat.beq (kl E o.op) 2, cOpsH E fn ops os (i + 1) with
    | c, w, r => fN (i + 1) fun i' => ⟨fun cf r0 q v a H hs k => c.run cf r0 q v a H fun q v a H => r.run cf r0 q v a H (bB w ((i', H) :: hs) hs) k⟩
/-- the same result in slot d? -/
def sameReg (d : Nat) (v : Nat) (a : List Bnd) (v' : Nat) (a' : List Bnd) : Bool :=
  bB (Nat.beq (gF (shOf d) v) (gF (shOf d) v')) (z0 (gF (shOf d) v) (look d a fun c xs => look d a' fun c' xs' => bB (Nat.beq c c') (match xs, xs' with | [], [] => true | _, _ => false) false) true) false
def heapAt (m : Nat) (hs : List (Nat × Hp)) (k : Hp → Bool) : Bool :=
  match hs with
  | [] => false
  | (m', H) :: hs => bB (Nat.beq m' m) (k H) (heapAt m hs k)
structure Ag where
  m : Nat
  d : Nat
  c : Cl
def mkAg (E : Env) (fn : Nat) (ops : Array Oper) : List (Nat × Nat) → Option (List Ag)
  | [] => some []
  | (j, m) :: l => match ops[j]?, mkAg E fn ops l with
    | some o, some r => (match o.dst with | some d => some (⟨m, d, cOper E fn ops none o⟩ :: r) | none => none)
    | _, _ => none
def again (cf : CallF) (r0 q v : Nat) (a : List Bnd) (hs : List (Nat × Hp)) : List Ag → Bool
  | [] => true
  | g :: l => heapAt g.m hs fun H => bB (g.c.run cf r0 q v a H fun _ v' a' _ => sameReg g.d v a v' a') (again cf r0 q v a hs l) false
def wfOper (N : Nat) (o : Oper) : Bool := match o.dst with | some d => Nat.ble (d + 1) N | none => true
def wfCode (N : Nat) : Code → Bool
  | .region _ ops _ => ops.toList.all (wfOper N)
  | .seq x y => and (wfCode N x) (wfCode N y)
  | .cond _ x y => and (wfCode N x) (wfCode N y)
  | .block _ b => wfCode N b
  | .loop b => wfCode N b
  | _ => true

/-! code -/
abbrev KE := Nat → Nat → Nat → List Bnd → Hp → Bool
structure CC where
  f : CallF → Nat → Nat → List Bnd → Hp → KE → Bool
def CC.run (c : CC) (cf : CallF) (q v : Nat) (a : List Bnd) (H : Hp) (k : KE) : Bool := @CC.casesOn (fun _ => Bool) c fun f => f cf q v a H k
def ccNo : CC := ⟨fun _ _ _ _ _ _ => false⟩
def loopN (b : CC) : Nat → CallF → Nat → Nat → List Bnd → Hp → KE → Bool :=
  @Nat.rec (fun _ => CallF → Nat → Nat → List Bnd → Hp → KE → Bool) (fun _ _ _ _ _ _ => false)
    (fun _ ih cf q v a H k => b.run cf q v a H fun e q v a H => z0 e (ih cf q v a H k) (k e q v a H))
/-- the code of int32 -1 -/
def cM1 : Nat := 147573952589676412919
def deadT : List Nat := [8, 11, 12, 13, 14, 15, 16, 39]
def eraseT (q : Nat) : List Nat → Nat → Nat
  | [], v => v
  | t :: l, v => fN (setF q (shOf t) v 0) fun v => eraseT q l v
def tryT (s q v : Nat) (H : Hp) (yes : Nat → Bool) (no : Bool) : Bool :=
  fN (gF (shOf 9) v) fun cp => fN (gF (shOf 10) v) fun ci => bB (Nat.beq (tag cp) 11) (bB (Nat.beq (tag ci) 8) (bB (Nat.ble b63 (pay ci)) (fN (Nat.sub (pay ci) b63) fun j =>
      bB (Nat.ble (Nat.add j s) 4096) (ldN H (pAdd (pay cp) j) s fun X => bB (Nat.beq X (rep 1 s cM1)) (fN (setF q (shOf 10) (eraseT q deadT v) (enc 8 (Nat.add b63 (Nat.add j s)))) yes) no) no) no) no) no
def loopT (b : CC) : Nat → CallF → Nat → Nat → List Bnd → Hp → KE → Bool :=
  @Nat.rec (fun _ => CallF → Nat → Nat → List Bnd → Hp → KE → Bool) (fun _ _ _ _ _ _ => false)
    (fun _ ih cf q v a H k => tryT 64 q v H (fun v => ih cf q v [] H k) (tryT 8 q v H (fun v => ih cf q v [] H k) (b.run cf q v a H fun e q v a H => z0 e (ih cf q v a H k) (k e q v a H))))
def loopsOf : Code → List Code
  | .seq x y => loopsOf x ++ loopsOf y
  | .cond _ x y => loopsOf x ++ loopsOf y
  | .block _ b => loopsOf b
  | .loop b => b :: loopsOf b
  | _ => []
def cCode (E : Env) (fn : Nat) : Code → CC
  | .skip => ⟨fun _ q v a H k => k 0 q v a H⟩
  | .region _ ops false => match cOps E fn ops ops.toList with | c => ⟨fun cf q v a H k => c.run cf 0 q v a H (k 0)⟩
  | .region _ ops true => match goodR E ops, cOpsH E fn ops ops.toList 0, mkAg E fn ops (againL E ops) with
    | true, c, some l => fN ops.size fun n => ⟨fun cf q v a H k => hpK H fun hu pt lt bs => fN (Nat.add hu n) fun hu' =>
          c.run cf hu q v a ⟨hu', pt, lt, bs⟩ [(0, ⟨hu', pt, lt, bs⟩)] fun q v a H hs => bB (again cf hu q v a hs l) (k 0 q v a H) false⟩
    | _, _, _ => ccNo
  | .seq x y => match cCode E fn x, cCode E fn y with
    | x, y => ⟨fun cf q v a H k => x.run cf q v a H fun e q v a H => z0 e (y.run cf q v a H k) (k e q v a H)⟩
  | .cond c x y => match cOv c, cCode E fn x, cCode E fn y with
    | c, x, y => ⟨fun cf q v a H k => c.get v a fun c => bB (Nat.beq c 25) (x.run cf q v a H k) (bB (Nat.beq c 9) (y.run cf q v a H k) false)⟩
  | .block id b => match cCode E fn b with
    | b => ⟨fun cf q v a H k => b.run cf q v a H fun e q v a H => fN (bB (Nat.beq e (id + 2)) 0 e) fun e => k e q v a H⟩
  | .loop b => match Nat.beq fn E.tab, cCode E fn b with
    | true, b => ⟨fun cf q v a H k => loopT b 100000 cf q v a H k⟩
    | false, b => ⟨fun cf q v a H k => loopN b 100000 cf q v a H k⟩
  | .exit id => ⟨fun _ q v a H k => k (id + 2) q v a H⟩
  | .ret => ⟨fun _ q v a H k => k 1 q v a H⟩
  | _ => ccNo

def resK (E : Env) : List ResultVar → Nat → List Bnd → Hp → (List Nat → Bool) → Bool
  | [], _, _, _, k => k []
  | .tmp t :: rs, v, a, H, k => (cOv (.tmp t)).get v a fun c => bB (Nat.ble (tag c) 14) (resK E rs v a H fun cs => k (c :: cs)) false
  | .cell t ty :: rs, v, a, H, k => (cOv (.tmp t)).get v a fun c => bB (Nat.beq (tag c) 11)
      (z0 (E.ti ty).k false (bB (isAggK (E.ti ty).k)
        (ldN H (pay c) (E.ti ty).sz fun X => fN (cAgg (E.ti ty).sz X) fun c => resK E rs v a H fun cs => k (c :: cs))
        (ldN H (pay c) 1 fun c => z0 c false (resK E rs v a H fun cs => k (c :: cs))))) false
def entry : List Nat → Nat → Nat → Nat → List Bnd → (Nat → List Bnd → Bool) → Bool
  | [], _, _, v, a, k => k v a
  | c :: cs, q, t, v, a, k => z0 (tag c) (entry cs q (t + 1) v (⟨t, c, []⟩ :: a) k)
      (bB (Nat.ble c 340282366920938463463374607431768211455) (fN (setF q (shOf t) v c) fun v => entry cs q (t + 1) v a k) (entry cs q (t + 1) v (⟨t, c, []⟩ :: a) k))
structure FC where
  run : CallF → Nat → List Nat → Hp → (Nat → List Nat → Hp → Bool) → Bool
def fcNo : FC := ⟨fun _ _ _ _ _ => false⟩
def callN (F : Nat → FC) : Nat → CallF :=
  @Nat.rec (fun _ => CallF) (fun _ _ _ _ _ => false)
    (fun _ ih q f cs H k => @FC.casesOn (fun _ => Bool) (F f) fun r => r ih q cs H k)
def fcOf (E : Env) (fn : Nat) (f : Option Func) : FC :=
  match f with
  | some f => match f.body with
    | some c => match cCode E fn c, f.results.toList, and (wfCode f.ntmps c) (not (f.name == "runtime.NumGoroutine")) with
      | b, r, true => fN f.ntmps fun N => ⟨fun ih q cs H k => fN (Nat.succ q) fun q => bB (Nat.ble cs.length N) (entry cs q 0 0 [] fun v a => b.run ih q v a H fun e q v a H => bB (Nat.ble e 1) (resK E r v a H fun rs => k q rs H) false) false⟩
      | _, _, false => fcNo
    | none => fcNo
  | none => fcNo

end Go.Proofs.YgvajwGreat.Ev
