/- The evaluator of the framework, and its equations. No conditions. -/
import Derived.Laws.Entries
set_option linter.unusedVariables false
set_option linter.unusedSimpArgs false
namespace Go.Fw

/-- Data: what values hold, read through all slices. -/
inductive D where
  | int (k : IntKind) (n : Int)
  | bool (b : Bool)
  | agg (l : List D)
  | sl (nil : Bool) (l : List D)
  | str (l : List UInt8)
  deriving Inhabited

/-- Abstract values. -/
inductive V where
  | int (k : IntKind) (n : Int)
  | bool (b : Bool)
  | d (x : D)
  | agg (l : List V)
  | asl (nil : Bool) (l : List D)
  | sl (nil : Bool) (h off len : Nat)
  | ptr (h : Nat) (p : List Nat)
  | rp (x : D)
  | clo (f : Nat) (first caps : List V)
  | map (h : Nat)
  | tup (l : List V)
  | und
  deriving Inhabited

/-- Blocks of abstract memory. -/
inductive Blk where
  | box (v : V)
  | row (own : Bool) (l : List D)
  | mp (l : List (D × V))
  | dead
  deriving Inhabited

abbrev Env := List (Nat × V)
abbrev Hp := List (Nat × Blk)

def look : Env → Nat → V
  | [], _ => .und
  | (i, v) :: e, j => if i = j then v else look e j
def put : Env → Nat → V → Env
  | [], j, x => [(j, x)]
  | (i, v) :: e, j, x => if i = j then (i, x) :: e else (i, v) :: put e j x
def hlook : Hp → Nat → Option Blk
  | [], _ => none
  | (i, b) :: e, j => if i = j then some b else hlook e j
def hput : Hp → Nat → Blk → Hp
  | [], j, x => [(j, x)]
  | (i, v) :: e, j, x => if i = j then (i, x) :: e else (i, v) :: hput e j x

mutual
def D.beq : D → D → Bool
  | .int k n, .int k' n' => decide (k = k') && decide (n = n')
  | .bool a, .bool b => a == b
  | .agg l, .agg m => D.beqs l m
  | .sl a l, .sl b m => a == b && D.beqs l m
  | .str l, .str m => decide (l = m)
  | _, _ => false
def D.beqs : List D → List D → Bool
  | [], [] => true
  | x :: l, y :: m => D.beq x y && D.beqs l m
  | _, _ => false
end

def ofD : D → V
  | .int k n => .int k n
  | .bool b => .bool b
  | x => .d x

mutual
/-- Data without a look into memory. -/
def V.pure? : V → Option D
  | .int k n => some (.int k n)
  | .bool b => some (.bool b)
  | .d x => some x
  | .agg l => (V.pures? l).map .agg
  | _ => none
def V.pures? : List V → Option (List D)
  | [] => some []
  | v :: l => match V.pure? v, V.pures? l with | some x, some y => some (x :: y) | _, _ => none
end

def D.at : D → List Nat → Option D
  | x, [] => some x
  | .agg l, i :: p => match l[i]? with | some y => y.at p | none => none
  | _, _ :: _ => none
def D.set : D → List Nat → D → Option D
  | _, [], y => some y
  | .agg l, i :: p, y => match l[i]? with | some x => (match x.set p y with | some z => some (.agg (l.set i z)) | none => none) | none => none
  | _, _ :: _, _ => none
def V.at : V → List Nat → Option V
  | v, [] => some v
  | .agg l, i :: p => match l[i]? with | some y => y.at p | none => none
  | .d x, p => match x.at p with | some y => some (ofD y) | none => none
  | _, _ :: _ => none
/-- A store into a variable: data stay data while they may. -/
def V.set : V → List Nat → V → Option V
  | _, [], y => some y
  | .agg l, i :: p, y => match l[i]? with | some x => (match x.set p y with | some z => some (.agg (l.set i z)) | none => none) | none => none
  | .d (.agg l), i :: p, y => match l[i]? with | some x => (match (ofD x).set p y with | some z => some (.agg ((l.map ofD).set i z)) | none => none) | none => none
  | _, _ :: _, _ => none
def storeV (b : V) (p : List Nat) (y : V) : Option V :=
  match b, y.pure? with
  | .d x, some dy => (match x.set p dy with | some z => some (ofD z) | none => none)
  | _, _ => b.set p y

/-- Operands. -/
inductive Opd where
  | t (n : Nat)
  | c (v : V)
  deriving Inhabited
def val (e : Env) : Opd → V
  | .t n => look e n
  | .c v => v

/-- Instructions. -/
inductive KI where
  | mv (d : Nat) (x : Opd)
  | pick (d : Nat) (c a b : Opd)
  | box (d : Nat) (x : Opd)
  | alc (d : Nat) (z : V)
  | bld (d : Nat) (xs : List Opd)
  | bsl (d : Nat) (xs : List Opd)
  | ld (d : Nat) (x : Opd)
  | st (a x : Opd)
  | bin (d : Nat) (op : BinOp) (x y : Opd)
  | un (d : Nat) (op : UnOp) (x : Opd)
  | cv (d : Nat) (k : IntKind) (x : Opd)
  | mkf (d : Nat) (f : Nat) (first caps : List Opd)
  | mkm (d : Nat)
  | mks (d : Nat) (z : D) (l c : Opd)
  | slc (d : Nat) (x : Opd) (lo hi : Option Opd)
  | fa (d : Nat) (x : Opd) (i : Nat)
  | fd (d : Nat) (x : Opd) (i : Nat)
  | ia (d : Nat) (x i : Opd)
  | ix (d : Nat) (x i : Opd)
  | lk (d : Nat) (m k : Opd) (z : V) (ok : Bool)
  | mu (m k v : Opd)
  | ex (d : Nat) (x : Opd) (i : Nat)
  | len (d : Nat) (x : Opd)
  | mx (d : Nat) (xs : List Opd)
  | mn (d : Nat) (xs : List Opd)
  | app (d : Nat) (x y : Opd)
  | cpy (d : Nat) (x y : Opd)
  | clr (z : D) (x : Opd)
  | cvb (d : Nat) (x : Opd)
  | cal (d : Nat) (f : Nat) (xs : List Opd) (nt : List Nat)
  | dat (d : Nat) (f : Nat) (xs : List Opd)
  | daf (d : Nat) (f : Nat) (xs : List Opd)
  | das (d : Nat) (f : Nat) (xs : List Opd)
  | cad (d : Nat) (f : Nat) (xs : List Opd) (nt : List Nat)
  | cav (d : Nat) (f : Opd) (xs : List Opd)
  | nck (d : Nat) (x : Opd)
  | tos (d : Nat) (x : Opd)
  | cap (d : Nat) (x : Opd)
  | tob (d : Nat) (x : Opd)
  | apz (d : Nat) (x : Opd) (z : D) (c : Opd)
  | bad (d : Option Nat)
  deriving Inhabited
/-- An instruction under its guard. -/
structure GI where
  g : Option (Nat × Bool)
  i : KI
  deriving Inhabited
/-- Code. 'pairs': what may come up in either order and must not meet; 'kill': what is forgotten behind a region; 'keep': what is kept at a loop's head. -/
inductive K where
  | skip
  | ret
  | ext (n : Nat)
  | seq (a b : K)
  | cond (c : Opd) (a b : K)
  | blk (n : Nat) (a : K)
  | loop (keep : List Nat) (a : K)
  | reg (pairs : List (Nat × Nat)) (ops : List GI) (kill : List Nat)
  deriving Inhabited
inductive Res where
  | t (n : Nat)
  | cell (n : Nat)
  deriving Inhabited
/-- Functions of the library that are known as a whole: one that deletes a part of a row, one that lays a row into another one. -/
inductive NK where
  | del
  | ins
  deriving DecidableEq, Inhabited
structure KF where
  body : K
  res : List Res
  nat : Option NK
  deriving Inhabited

/-! ### What instructions do -/
/-- A piece that is there. -/
def pieceOf (l : List D) (off len : Nat) : Option (List D) := if off + len ≤ l.length then some ((l.drop off).take len) else none
mutual
def toD (g : Nat → Option Blk) : V → Option D
  | .int k n => some (.int k n)
  | .bool b => some (.bool b)
  | .d x => some x
  | .agg l => match toDs g l with | some m => some (.agg m) | none => none
  | .asl n l => some (.sl n l)
  | .sl n h off len => match g h with | some (.row _ l) => (match pieceOf l off len with | some m => some (.sl n m) | none => none) | _ => none
  | _ => none
def toDs (g : Nat → Option Blk) : List V → Option (List D)
  | [] => some []
  | v :: l => match toD g v, toDs g l with | some x, some y => some (x :: y) | _, _ => none
end
mutual
/-- Data that stay: rows of one's own in it are written no more. -/
def freeze (g : Nat → Option Blk) : V → Option (D × Hp)
  | .int k n => some (.int k n, [])
  | .bool b => some (.bool b, [])
  | .d x => some (x, [])
  | .agg l => match freezes g l with | some (m, u) => some (.agg m, u) | none => none
  | .asl true _ => some (.sl true [], [])
  | .sl n h off len => match g h with | some (.row _ l) => (match pieceOf l off len with | some m => some (.sl n m, [(h, .row false l)]) | none => none) | _ => none
  | _ => none
def freezes (g : Nat → Option Blk) : List V → Option (List D × Hp)
  | [] => some ([], [])
  | v :: l => match freeze g v, freezes g l with | some (x, u), some (y, w) => some (x :: y, u ++ w) | _, _ => none
end
mutual
def D.flat : D → Bool
  | .agg l => D.flats l
  | .sl _ _ => false
  | _ => true
def D.flats : List D → Bool
  | [] => true
  | x :: l => x.flat && D.flats l
end
mutual
/-- What comes in. -/
def argV : D → V
  | .int k n => .int k n
  | .bool b => .bool b
  | .sl n l => .asl n l
  | .str l => .d (.str l)
  | .agg l => if D.flats l then .d (.agg l) else .agg (argVs l)
def argVs : List D → List V
  | [] => []
  | x :: l => argV x :: argVs l
end
mutual
/-- What was handed back: its rows are one's own. -/
def adopt (n : Nat) : D → V × Hp × Nat
  | .int k x => (.int k x, [], n)
  | .bool b => (.bool b, [], n)
  | .str l => (.d (.str l), [], n)
  | .sl a l => if a && l.isEmpty then (.d (.sl true []), [], n) else (.sl a n 0 l.length, [(n, .row true l)], n + 1)
  | .agg l => if D.flats l then (.d (.agg l), [], n) else match adopts n l with | (vs, u, m) => (.agg vs, u, m)
def adopts (n : Nat) : List D → List V × Hp × Nat
  | [] => ([], [], n)
  | x :: l => match adopt n x with | (v, u, m) => (match adopts m l with | (vs, w, k) => (v :: vs, u ++ w, k))
end
def resV : List V → V
  | [v] => v
  | vs => .tup vs

def arith (op : BinOp) (k : IntKind) (a b : Int) : Option V :=
  match op with
  | .add => some (.int k (k.wrap (a + b)))
  | .sub => some (.int k (k.wrap (a - b)))
  | .mul => some (.int k (k.wrap (a * b)))
  | .quo => if b = 0 then none else some (.int k (k.wrap (a.tdiv b)))
  | .rem => if b = 0 then none else some (.int k (a.tmod b))
  | .and => some (.int k (bits .and k a b))
  | .or => some (.int k (bits .or k a b))
  | .xor => some (.int k (bits .xor k a b))
  | .andNot => some (.int k (bits .andNot k a b))
  | .eql => some (.bool (decide (a = b)))
  | .neq => some (.bool (!decide (a = b)))
  | .lss => some (.bool (decide (a < b)))
  | .leq => some (.bool (decide (a ≤ b)))
  | .gtr => some (.bool (decide (b < a)))
  | .geq => some (.bool (decide (b ≤ a)))
  | _ => none
def shiftV (op : BinOp) (k : IntKind) (a b : Int) : Option V :=
  if b < 0 then none else
  match op with
  | .shl => some (.int k (k.wrap (a * 2 ^ min b.toNat k.bits)))
  | .shr => some (.int k (a / 2 ^ min b.toNat k.bits))
  | _ => none
def isNil : V → Option Bool
  | .sl n _ _ _ => some n
  | .asl n _ => some n
  | .d (.sl n _) => some n
  | _ => none
def eqV : V → V → Option Bool
  | .bool a, .bool b => some (a == b)
  | x, .d (.sl true []) => isNil x
  | .d (.sl true []), x => isNil x
  | x, y => match x.pure?, y.pure? with | some a, some b => some (D.beq a b) | _, _ => none
def binV (op : BinOp) (x y : V) : Option V :=
  match op, x, y with
  | .shl, .int k a, .int _ b => shiftV .shl k a b
  | .shr, .int k a, .int _ b => shiftV .shr k a b
  | op, .int k a, .int k' b => if k = k' then arith op k a b else none
  | .eql, x, y => (match eqV x y with | some b => some (.bool b) | none => none)
  | .neq, x, y => (match eqV x y with | some b => some (.bool (!b)) | none => none)
  | .add, .d (.str a), .d (.str b) => if a.length + b.length ≤ 1073741824 then some (.d (.str (a ++ b))) else none
  | _, _, _ => none
def unV (op : UnOp) (x : V) : Option V :=
  match op, x with
  | .not, .bool b => some (.bool (!b))
  | .neg, .int k n => some (.int k (k.wrap (0 - n)))
  | .xor, .int k n => some (.int k (bits .xor k (if k.signed then -1 else k.max) n))
  | _, _ => none
def loadV (g : Nat → Option Blk) : V → Option V
  | .ptr h p => match g h with
    | some (.box v) => v.at p
    | some (.row _ l) => (match p with
      | i :: q => (match l[i]? with | some x => (match x.at q with | some y => some (ofD y) | none => none) | none => none)
      | [] => none)
    | _ => none
  | .rp x => some (ofD x)
  | _ => none
def saveV (g : Nat → Option Blk) (a x : V) : Option Hp :=
  match a with
  | .ptr h p => match g h with
    | some (.box v) => (match storeV v p x with | some w => some [(h, .box w)] | none => none)
    | some (.row true l) => (match p, freeze g x with
      | i :: q, some (y, u) => if u.any (fun e => e.1 == h) then none else (match l[i]? with
        | some z => (match z.set q y with | some z' => some (u ++ [(h, .row true (l.set i z'))]) | none => none)
        | none => none)
      | _, _ => none)
    | _ => none
  | _ => none
def elemsOf (g : Nat → Option Blk) : V → Option (List D)
  | .asl _ l => some l
  | .d (.sl _ l) => some l
  | .sl _ h off len => match g h with | some (.row _ l) => pieceOf l off len | _ => none
  | _ => none
/-- Bytes. -/
def bytesOf : List D → Option (List UInt8)
  | [] => some []
  | .int .u8 n :: l => (match bytesOf l with | some m => some (UInt8.ofNat n.toNat :: m) | none => none)
  | _ :: _ => none
def lenV : V → Option Int
  | .asl _ l => some l.length
  | .d (.sl _ l) => some l.length
  | .sl _ _ _ len => some len
  | _ => none
def partV (x : V) (i : Nat) : Option V := x.at [i]
def D.part? (x : D) (i : Nat) : Option D := x.at [i]
def fieldA (x : V) (i : Nat) : Option V :=
  match x with
  | .ptr h p => some (.ptr h (p ++ [i]))
  | .rp x => (match x.at [i] with | some y => some (.rp y) | none => none)
  | _ => none
def V.count : V → Option Nat
  | .agg l => some l.length
  | .d (.agg l) => some l.length
  | _ => none
/-- The place of element i. -/
def indexA (g : Nat → Option Blk) (x : V) (i : Int) : Option V :=
  match x with
  | .sl _ h off len => if 0 ≤ i ∧ i < len then some (.ptr h [off + i.toNat]) else none
  | .asl _ l => if 0 ≤ i then (match l[i.toNat]? with | some y => some (.rp y) | none => none) else none
  | .d (.sl _ l) => if 0 ≤ i then (match l[i.toNat]? with | some y => some (.rp y) | none => none) else none
  | .rp (.agg l) => if 0 ≤ i then (match l[i.toNat]? with | some y => some (.rp y) | none => none) else none
  | .ptr h p => (match loadV g (.ptr h p) with
    | some v => (match v.count with | some n => if 0 ≤ i ∧ i < n then some (.ptr h (p ++ [i.toNat])) else none | none => none)
    | none => none)
  | _ => none
def sliceV (x : V) (lo hi : Option Int) : Option V :=
  match lenV x with
  | none => none
  | some n =>
    let l := lo.getD 0
    let h := hi.getD n
    if 0 ≤ l ∧ l ≤ h ∧ h ≤ n then
      (match x with
       | .sl a b off _ => some (.sl a b (off + l.toNat) (h - l).toNat)
       | .asl a l' => some (.asl a ((l'.drop l.toNat).take (h - l).toNat))
       | .d (.sl a l') => some (.d (.sl a ((l'.drop l.toNat).take (h - l).toNat)))
       | _ => none)
    else none
def mostLen : Nat := 1073741824
def appendV (g : Nat → Option Blk) (n : Nat) (x y : V) : Option (V × Hp × Nat) :=
  match elemsOf g y with
  | none => none
  | some ys =>
    match x with
    | .sl a h off len => (match g h with
      | some (.row true l) => if len + ys.length ≤ mostLen then (match pieceOf l off len with
        | some m => some (.sl (a && ys.isEmpty) n 0 (len + ys.length), [(h, .dead), (n, .row true (m ++ ys))], n + 1)
        | none => none) else none
      | _ => none)
    | .d (.sl true []) => if ys.length ≤ mostLen then some (.sl ys.isEmpty n 0 ys.length, [(n, .row true ys)], n + 1) else none
    | .asl true [] => if ys.length ≤ mostLen then some (.sl ys.isEmpty n 0 ys.length, [(n, .row true ys)], n + 1) else none
    | _ => none
/-- A row without a part. -/
def delV (g : Nat → Option Blk) (n : Nat) : List V → Option (V × Hp × Nat)
  | [.sl a h off len, .int .i64 i, .int .i64 j] => if 0 ≤ i ∧ i ≤ j ∧ j ≤ len then (match g h with
    | some (.row true l) => (match pieceOf l off len with
      | some m => some (.sl a n 0 (i.toNat + (len - j.toNat)), [(h, .dead), (n, .row true (m.take i.toNat ++ m.drop j.toNat))], n + 1)
      | none => none)
    | _ => none) else none
  | _ => none
def insAt (x : List D) (i : Nat) (y : List D) : List D := x.take i ++ (y ++ x.drop i)
/-- A row with another one in it. -/
def insV (g : Nat → Option Blk) (n : Nat) : List V → Option (V × Hp × Nat)
  | [.sl a h off len, .int .i64 i, .sl false h' off' k] => if 0 ≤ i ∧ i ≤ len ∧ 0 < k ∧ len + k ≤ mostLen ∧ h ≠ h' then (match g h, g h' with
    | some (.row true l), some (.row _ l') => (match pieceOf l off len, pieceOf l' off' k with
      | some x, some y => some (.sl false n 0 (len + k), [(h, .dead), (n, .row true (insAt x i.toNat y))], n + 1)
      | _, _ => none)
    | _, _ => none) else none
  | [.d (.sl true []), .int .i64 i, .sl false h' off' k] => if i = 0 ∧ 0 < k ∧ k ≤ mostLen then (match g h' with
    | some (.row _ l') => (match pieceOf l' off' k with
      | some y => some (.sl false n 0 k, [(n, .row true y)], n + 1)
      | none => none)
    | _ => none) else none
  | _ => none
def natV (k : NK) (g : Nat → Option Blk) (n : Nat) (vs : List V) : Option (V × Hp × Nat) := match k with
  | .del => delV g n vs
  | .ins => insV g n vs
def copyV (g : Nat → Option Blk) (x y : V) : Option (V × Hp) :=
  match x, elemsOf g y with
  | .sl _ h off len, some ys => (match g h with
    | some (.row true l) => if l.length < off + len then none else some (.int .i64 (min ys.length len : Nat), [(h, .row true (l.take off ++ (ys.take (min ys.length len)) ++ l.drop (off + min ys.length len)))])
    | _ => none)
  | _, _ => none
def clearV (g : Nat → Option Blk) (z : D) (x : V) : Option Hp :=
  match x with
  | .sl _ h off len => (match g h with
    | some (.row true l) => if l.length < off + len then none else some [(h, .row true (l.take off ++ List.replicate len z ++ l.drop (off + len)))]
    | _ => none)
  | _ => none
def mapFind : List (D × V) → D → Option V
  | [], _ => none
  | (k, v) :: l, x => if D.beq x k then some v else mapFind l x
def mapPut : List (D × V) → D → V → List (D × V)
  | [], x, y => [(x, y)]
  | (k, v) :: l, x, y => if D.beq x k then (k, y) :: l else (k, v) :: mapPut l x y
def mostV (gt : Bool) (k : IntKind) (a : Int) : List V → Option V
  | [] => some (.int k a)
  | .int k' b :: l => if k = k' then mostV gt k (if gt then (if a < b then b else a) else (if b < a then b else a)) l else none
  | _ => none
def maxV (gt : Bool) : List V → Option V
  | .int k a :: l => mostV gt k a l
  | _ => none
def optV (e : Env) : Option Opd → Option (Option Int)
  | none => some none
  | some x => match val e x with | .int _ n => some (some n) | _ => none
def V.isUnd : V → Bool
  | .und => true
  | .tup _ => true
  | _ => false
def anyUnd (e : Env) : List Opd → Bool
  | [] => false
  | .t n :: l => (look e n).isUnd || anyUnd e l
  | _ :: l => anyUnd e l
def isNil0 : V → Bool
  | .d (.sl true []) => true
  | .asl true [] => true
  | _ => false
/-- What an instruction that calls nothing does: its value, what it changes, the next handle. -/
def eff (i : KI) (e : Env) (g : Nat → Option Blk) (n : Nat) : Option (V × Hp × Nat) :=
  match i with
  | .mv _ x => some (val e x, [], n)
  | .pick _ c a b => (match val e c with | .bool c => some (if c then val e a else val e b, [], n) | _ => none)
  | .box _ x => if (val e x).isUnd then none else some (.ptr n [], [(n, .box (val e x))], n + 1)
  | .alc _ z => some (.ptr n [], [(n, .box z)], n + 1)
  | .bld _ xs => if anyUnd e xs then none else (match V.pures? (xs.map (val e)) with | some l => some (.d (.agg l), [], n) | none => some (.agg (xs.map (val e)), [], n))
  | .bsl _ xs => (match freezes g (xs.map (val e)) with | some (l, u) => some (.sl false n 0 l.length, u ++ [(n, .row true l)], n + 1) | none => none)
  | .ld _ x => (match loadV g (val e x) with | some v => some (v, [], n) | none => none)
  | .st a x => if (val e x).isUnd then none else (match saveV g (val e a) (val e x) with | some u => some (.und, u, n) | none => none)
  | .bin _ op x y => (match binV op (val e x) (val e y) with | some v => some (v, [], n) | none => none)
  | .un _ op x => (match unV op (val e x) with | some v => some (v, [], n) | none => none)
  | .cv _ k x => (match val e x with | .int _ a => some (.int k (k.wrap a), [], n) | _ => none)
  | .mkf _ f first caps => if (first.map (val e)).any V.isUnd || (caps.map (val e)).any V.isUnd then none else some (.clo f (first.map (val e)) (caps.map (val e)), [], n)
  | .mkm _ => some (.map n, [(n, .mp [])], n + 1)
  | .mks _ z l c => (match val e l, val e c with
    | .int _ a, .int _ b => if 0 ≤ a ∧ a ≤ b ∧ b ≤ mostLen then some (.sl false n 0 a.toNat, [(n, .row true (List.replicate a.toNat z))], n + 1) else none
    | _, _ => none)
  | .slc _ x lo hi => (match optV e lo, optV e hi with
    | some l, some h => (match sliceV (val e x) l h with | some v => some (v, [], n) | none => none)
    | _, _ => none)
  | .fa _ x i => (match fieldA (val e x) i with | some v => some (v, [], n) | none => none)
  | .fd _ x i => (match partV (val e x) i with | some v => some (v, [], n) | none => none)
  | .ia _ x i => (match val e i with | .int _ j => (match indexA g (val e x) j with | some v => some (v, [], n) | none => none) | _ => none)
  | .ix _ x i => (match val e i with | .int _ j => if 0 ≤ j then (match partV (val e x) j.toNat with | some v => some (v, [], n) | none => none) else none | _ => none)
  | .lk _ m k z ok => (match val e m, (val e k).pure? with
    | .map h, some x => (match g h with
      | some (.mp l) => (match mapFind l x with
        | some v => some (if ok then .tup [v, .bool true] else v, [], n)
        | none => some (if ok then .tup [z, .bool false] else z, [], n))
      | _ => none)
    | _, _ => none)
  | .mu m k v => if (val e v).isUnd then none else (match val e m, (val e k).pure? with
    | .map h, some x => (match g h with
      | some (.mp l) => some (.und, [(h, .mp (mapPut l x (val e v)))], n)
      | _ => none)
    | _, _ => none)
  | .ex _ x i => (match val e x with | .tup l => (match l[i]? with | some v => some (v, [], n) | none => none) | _ => none)
  | .len _ x => (match lenV (val e x) with | some a => some (.int .i64 a, [], n) | none => none)
  | .mx _ xs => (match maxV true (xs.map (val e)) with | some v => some (v, [], n) | none => none)
  | .mn _ xs => (match maxV false (xs.map (val e)) with | some v => some (v, [], n) | none => none)
  | .app _ x y => appendV g n (val e x) (val e y)
  | .cpy _ x y => (match copyV g (val e x) (val e y) with | some (v, u) => some (v, u, n) | none => none)
  | .cvb _ x => (match val e x with
    | .sl false h 0 len => (match g h with
      | some (.row true l) => if l.length = len ∧ 0 < len then some (.d (.sl false l), [(h, .dead)], n) else none
      | _ => none)
    | _ => none)
  | .clr z x => (match clearV g z (val e x) with | some u => some (.und, u, n) | none => none)
  | .tob _ x => (match val e x with | .d (.str l) => if l.length ≤ mostLen then some (.d (.sl false (l.map fun b => .int .u8 (b.toNat : Int))), [], n) else none | _ => none)
  | .cap _ x => (match val e x with | .d (.sl true []) => some (.int .i64 0, [], n) | .asl true [] => some (.int .i64 0, [], n) | _ => none)
  | .apz _ x z c => (match isNil0 (val e x), val e c with | true, .int _ a => if 0 < a ∧ a ≤ mostLen then some (.sl false n 0 a.toNat, [(n, .row true (List.replicate a.toNat z))], n + 1) else none | _, _ => none)
  | .tos _ x => (match elemsOf g (val e x) with | some l => (match bytesOf l with | some m => some (.d (.str m), [], n) | none => none) | none => none)
  | .nck _ x => (match val e x with | .ptr h p => some (.ptr h p, [], n) | .rp x => some (.rp x, [], n) | .clo f a b => some (.clo f a b, [], n) | _ => none)
  | _ => none
def KI.dst : KI → Option Nat
  | .mv d _ | .pick d _ _ _ | .box d _ | .alc d _ | .bld d _ | .bsl d _ | .ld d _ | .bin d _ _ _ | .un d _ _ | .cv d _ _ | .mkf d _ _ _ | .mkm d | .mks d _ _ _ | .slc d _ _ _
  | .fa d _ _ | .fd d _ _ | .ia d _ _ | .ix d _ _ | .lk d _ _ _ _ | .ex d _ _ | .len d _ | .mx d _ | .mn d _ | .app d _ _ | .cpy d _ _ | .cal d _ _ _ | .dat d _ _ | .daf d _ _ | .das d _ _ | .cad d _ _ _ | .cvb d _ | .cav d _ _ | .nck d _ | .tos d _ | .cap d _ | .tob d _ | .apz d _ _ _ => some d
  | .bad d => d
  | .st _ _ | .mu _ _ _ | .clr _ _ => none

/-! ### States -/
structure St where
  env : Env
  hp : Hp
  tl : Nat → Option Blk
  base : Nat
  next : Nat
  deriving Inhabited
def St.g (s : St) (h : Nat) : Option Blk := match hlook s.hp h with | some b => some b | none => s.tl h
def hputs : Hp → Hp → Hp
  | s, [] => s
  | s, (h, b) :: u => hputs (hput s h b) u
def putO (e : Env) (d : Option Nat) (v : V) : Env := match d with | some d => put e d v | none => e
def St.after (s : St) (d : Option Nat) (v : V) (u : Hp) (n : Nat) : St := { s with env := putO s.env d v, hp := hputs s.hp u, next := n }

mutual
def V.hs : V → List Nat
  | .sl _ h _ _ => [h]
  | .ptr h _ => [h]
  | .map h => [h]
  | .agg l => V.hss l
  | .clo _ a b => V.hss a ++ V.hss b
  | .tup l => V.hss l
  | _ => []
def V.hss : List V → List Nat
  | [] => []
  | v :: l => v.hs ++ V.hss l
end
def Blk.hs : Blk → List Nat
  | .box v => v.hs
  | .mp l => V.hss (l.map (·.2))
  | _ => []
mutual
def V.ren (r : Nat → Nat) : V → V
  | .sl n h off len => .sl n (r h) off len
  | .ptr h p => .ptr (r h) p
  | .map h => .map (r h)
  | .agg l => .agg (V.rens r l)
  | .clo f a b => .clo f (V.rens r a) (V.rens r b)
  | .tup l => .tup (V.rens r l)
  | v => v
def V.rens (r : Nat → Nat) : List V → List V
  | [] => []
  | v :: l => v.ren r :: V.rens r l
end
def mapRen (r : Nat → Nat) : List (D × V) → List (D × V)
  | [] => []
  | (k, v) :: l => (k, v.ren r) :: mapRen r l
def Blk.ren (r : Nat → Nat) : Blk → Blk
  | .box v => .box (v.ren r)
  | .mp l => .mp (mapRen r l)
  | b => b
/-- The handles from 'base' on that can be reached. -/
def reach (g : Nat → Option Blk) (base : Nat) : Nat → List Nat → List Nat → List Nat
  | 0, _, seen => seen
  | _ + 1, [], seen => seen
  | k + 1, h :: t, seen => if h < base then reach g base k t seen else if seen.contains h then reach g base k t seen else
      reach g base k ((match g h with | some b => b.hs | none => []) ++ t) (seen ++ [h])
def idx : List Nat → Nat → Nat
  | [], _ => 0
  | a :: l, h => if a = h then 0 else idx l h + 1
def renOf (base : Nat) (seen : List Nat) (h : Nat) : Nat := if h < base then h else base + idx seen h
def outer (base : Nat) : Hp → Hp
  | [] => []
  | (h, b) :: l => if h < base then (h, b) :: outer base l else outer base l
def hpHs : Hp → List Nat
  | [] => []
  | (_, b) :: l => b.hs ++ hpHs l
def hpRen (r : Nat → Nat) : Hp → Hp
  | [] => []
  | (h, b) :: l => (h, b.ren r) :: hpRen r l
def envHs : Env → List Nat
  | [] => []
  | (_, v) :: l => v.hs ++ envHs l
def envRen (r : Nat → Nat) : Env → Env
  | [] => []
  | (i, v) :: l => (i, v.ren r) :: envRen r l
def kept (e : Env) : List Nat → Env
  | [] => []
  | i :: l => (i, look e i) :: kept e l
def gathered (g : Nat → Option Blk) (r : Nat → Nat) (n : Nat) : List Nat → Hp
  | [] => []
  | h :: l => (n, match g h with | some b => b.ren r | none => .dead) :: gathered g r (n + 1) l
/-- Only what these lead to, under new handles. -/
def canon (e : Env) (s : St) : Option St :=
  let o := outer s.base s.hp
  let seen := reach s.g s.base 4096 (envHs e ++ hpHs o) []
  let r := renOf s.base seen
  let hp := hpRen r o ++ gathered s.g r s.base seen
  if (envHs e ++ hpHs o ++ hpHs (gathered s.g id s.base seen)).all (fun h => decide (h < s.base) || seen.contains h) then
    some { env := envRen r e, hp := hp, tl := s.tl, base := s.base, next := s.base + seen.length }
  else none
def forget (e : Env) (kill : List Nat) : Env := e.filter fun x => !kill.contains x.1

/-! ### Footprints: what may come up in either order -/
def ptrs : V → List Nat
  | .ptr h _ => [h]
  | .sl _ h _ _ => [h]
  | .map h => [h]
  | _ => []
def KI.ops : KI → List Opd
  | .mv _ x | .box _ x | .ld _ x | .un _ _ x | .cv _ _ x | .fa _ x _ | .fd _ x _ | .ex _ x _ | .len _ x | .nck _ x | .tos _ x | .cap _ x | .tob _ x | .clr _ x | .cvb _ x => [x]
  | .pick _ a b c => [a, b, c]
  | .bld _ xs | .bsl _ xs | .mx _ xs | .mn _ xs | .dat _ _ xs | .daf _ _ xs | .das _ _ xs => xs
  | .cal _ _ xs nt | .cad _ _ xs nt => xs ++ nt.map .t
  | .st a x | .bin _ _ a x | .mks _ _ a x | .apz _ a _ x | .ia _ a x | .ix _ a x | .lk _ a x _ _ | .app _ a x | .cpy _ a x => [a, x]
  | .mkf _ _ a b => a ++ b
  | .mkm _ | .alc _ _ | .bad _ => []
  | .slc _ x a b => x :: (a.toList ++ b.toList)
  | .mu a b c => [a, b, c]
  | .cav _ f xs => f :: xs

/-! ### Running -/
inductive Out where
  | nrm
  | ret
  | ext (n : Nat)
  deriving DecidableEq, Inhabited
inductive Task where
  | code (k : K) (s : St)
  | ops (l : List GI) (s : St)
  | loop (keep : List Nat) (k : K) (s : St)
  | call (f : Nat) (vs : List V) (tl : Nat → Option Blk) (n : Nat)
  | data (f : Nat) (ds : List D)
  | dats (f : Nat) (ds : List D)
  | datk (f : Nat) (ds : List D)
inductive Ans where
  | out (o : Out) (s : St)
  | st (s : St)
  | val (v : V) (u : Hp) (n : Nat)
  | ds (l : List D)
def wanted (e : Env) : Option (Nat × Bool) → Option Bool
  | none => some true
  | some (t, b) => match look e t with | .bool c => some (c == b) | .tup [] => some false | _ => none
def KI.reads (e : Env) : KI → List Nat
  | .ld _ x | .tos _ x => ptrs (val e x)
  | .st a x => ptrs (val e a) ++ (val e x).hs
  | .app _ x y | .cpy _ x y => ptrs (val e x) ++ ptrs (val e y)
  | .dat _ _ xs | .daf _ _ xs | .das _ _ xs | .bsl _ xs => V.hss (xs.map (val e))
  | .ia _ x _ => (match val e x with | .ptr h _ => [h] | _ => [])
  | .lk _ m _ _ _ => ptrs (val e m)
  | .mu m _ v => ptrs (val e m) ++ (val e v).hs
  | .clr _ x | .cvb _ x => ptrs (val e x)
  | _ => []
def KI.writes (e : Env) : KI → List Nat
  | .st a x => ptrs (val e a) ++ (val e x).hs
  | .bsl _ xs | .daf _ _ xs | .das _ _ xs => V.hss (xs.map (val e))
  | .app _ x _ | .cpy _ x _ | .clr _ x | .cvb _ x => ptrs (val e x)
  | .mu m _ _ => ptrs (val e m)
  | _ => []
/-- What is new with it. -/
def KI.fresh (e : Env) : KI → List Nat
  | .alc d _ | .box d _ | .bsl d _ | .mks d _ _ _ | .apz d _ _ _ | .mkm d | .app d _ _ | .dat d _ _ | .daf d _ _ => (look e d).hs
  | _ => []
def hit (a b : List Nat) : Bool := a.any fun h => b.contains h
/-- Does a call change what it must not? -/
def clash (e : Env) (nt : List Nat) (u : Hp) : Bool := match nt with
  | [] => false
  | nt => u.any fun p => nt.any fun t => (ptrs (look e t)).contains p.1
/-- Is something read beside a call that the call might change? -/
def unspared (e : Env) (a b : KI) : Bool := match a with
  | .cal _ _ _ nt | .cad _ _ _ nt => (b.reads e).any fun h => !(nt.any fun t => (ptrs (look e t)).contains h)
  | .cav _ _ _ => !(b.reads e).isEmpty
  | _ => false
/-- Two that may come up in either order do not meet. -/
def meets (e : Env) (ops : List GI) : List (Nat × Nat) → Bool
  | [] => false
  | (i, j) :: l => (match ops[i]?, ops[j]? with
    | some a, some b => hit (a.i.writes e ++ a.i.fresh e) (b.i.reads e) || hit (b.i.writes e ++ b.i.fresh e) (a.i.reads e) || unspared e a.i b.i || unspared e b.i a.i
    | _, _ => true) || meets e ops l
def params (n : Nat) : List V → Env
  | [] => []
  | v :: l => (n, v) :: params (n + 1) l
def resOf (s : St) : List Res → Option (List V)
  | [] => some []
  | .t n :: l => if (look s.env n).isUnd then none else match resOf s l with | some vs => some (look s.env n :: vs) | none => none
  | .cell n :: l => match loadV s.g (look s.env n), resOf s l with | some v, some vs => if v.isUnd then none else some (v :: vs) | _, _ => none
/-- The rows of a result are apart. -/
def apartHs : List Nat → Bool
  | [] => true
  | a :: l => !l.contains a && apartHs l
mutual
/-- No memory in it, but for nil. -/
def D.free : D → Bool
  | .agg l => D.frees l
  | .sl n l => n && l.isEmpty
  | _ => true
def D.frees : List D → Bool
  | [] => true
  | x :: l => x.free && D.frees l
end
mutual
def ownAll (g : Nat → Option Blk) : V → Bool
  | .int _ _ => true
  | .bool _ => true
  | .d x => x.free
  | .agg l => ownAlls g l
  | .sl _ h _ _ => (match g h with | some (.row true _) => true | _ => false)
  | _ => false
def ownAlls (g : Nat → Option Blk) : List V → Bool
  | [] => true
  | v :: l => ownAll g v && ownAlls g l
end
variable (kp : Nat → Option KF)
def step (rec : Task → Option Ans) : Task → Option Ans
  | .code .skip s => some (.out .nrm s)
  | .code .ret s => some (.out .ret s)
  | .code (.ext n) s => some (.out (.ext n) s)
  | .code (.seq a b) s => (match rec (.code a s) with
    | some (.out .nrm s') => rec (.code b s')
    | r => r)
  | .code (.cond c a b) s => (match val s.env c with
    | .bool c => if c then rec (.code a s) else rec (.code b s)
    | _ => none)
  | .code (.blk n a) s => (match rec (.code a s) with
    | some (.out (.ext m) s') => some (.out (if m = n then .nrm else .ext m) s')
    | r => r)
  | .code (.loop keep a) s => (match canon (kept s.env keep) s with
    | some s' => rec (.loop keep a s')
    | none => none)
  | .code (.reg pairs ops kill) s => (match rec (.ops ops s) with
    | some (.st s') => if meets s'.env ops pairs then none else some (.out .nrm { s' with env := forget s'.env kill })
    | _ => none)
  | .loop keep a s => (match rec (.code a s) with
    | some (.out .nrm s') => (match canon (kept s'.env keep) s' with
      | some s'' => rec (.loop keep a s'')
      | none => none)
    | r => r)
  | .ops [] s => some (.st s)
  | .ops (⟨gd, i⟩ :: r) s => (match wanted s.env gd with
    | none => none
    | some false => rec (.ops r { s with env := putO s.env i.dst (.tup []) })
    | some true => (match i with
      | .cal d f xs nt => (match rec (.call f (xs.map (val s.env)) s.g s.next) with
        | some (.val v u n) => if clash s.env nt u then none else rec (.ops r (s.after (some d) v u n))
        | _ => none)
      | .dat d f xs => (match toDs s.g (xs.map (val s.env)) with
        | some ds => (match rec (.data f ds) with
          | some (.ds rs) => (match adopts s.next rs with | (vs, u, n) => rec (.ops r (s.after (some d) (resV vs) u n)))
          | _ => none)
        | none => none)
      | .daf d f xs => (match freezes s.g (xs.map (val s.env)) with
        | some (ds, u0) => (match rec (.dats f ds) with
          | some (.ds rs) => (match adopts s.next rs with | (vs, u, n) => rec (.ops r (s.after (some d) (resV vs) (u0 ++ u) n)))
          | _ => none)
        | none => none)
      | .das d f xs => (match freezes s.g (xs.map (val s.env)) with
        | some (ds, u0) => (match rec (.datk f ds) with
          | some (.ds rs) => rec (.ops r (s.after (some d) (resV (rs.map ofD)) u0 s.next))
          | _ => none)
        | none => none)
      | .cad d f xs nt => (match rec (.call f (xs.map (val s.env)) s.g s.next) with
        | some (.val v u n) => (match freeze (s.after (some d) v u n).g v with
          | some (y, u0) => if clash s.env nt (u ++ u0) then none else rec (.ops r (s.after (some d) (ofD y) (u ++ u0) n))
          | none => none)
        | _ => none)
      | .cav d f xs => (match val s.env f with
        | .clo c first caps => (match rec (.call c (first ++ xs.map (val s.env) ++ caps) s.g s.next) with
          | some (.val v u n) => rec (.ops r (s.after (some d) v u n))
          | _ => none)
        | _ => none)
      | i => (match eff i s.env s.g s.next with
        | some (v, u, n) => rec (.ops r (s.after i.dst v u n))
        | none => none)))
  | .call f vs tl n => (match kp f with
    | none => none
    | some kf => (match kf.nat with
      | some k => (match natV k tl n vs with | some (v, u, m) => some (.val v u m) | none => none)
      | none => (match rec (.code kf.body { env := params 0 vs, hp := [], tl := tl, base := n, next := n }) with
        | some (.out (.ext _) _) => none
        | some (.out _ s) => (match resOf s kf.res with
          | some rs => (match canon [(0, resV rs)] s with
            | some s' => some (.val (look s'.env 0) s'.hp s'.next)
            | none => none)
          | none => none)
        | _ => none)))
  | .data f ds => (match rec (.call f (ds.map argV) (fun _ => none) 0) with
    | some (.val v u _) =>
      let vs := match v with | .tup l => l | v => [v]
      if ownAlls (hlook u) vs && apartHs (V.hss vs) then (match toDs (hlook u) vs with | some rs => some (.ds rs) | none => none) else none
    | _ => none)
  | .dats f ds => (match rec (.call f (ds.map ofD) (fun _ => none) 0) with
    | some (.val v u _) =>
      let vs := match v with | .tup l => l | v => [v]
      if ownAlls (hlook u) vs && apartHs (V.hss vs) then (match toDs (hlook u) vs with | some rs => some (.ds rs) | none => none) else none
    | _ => none)
  | .datk f ds => (match rec (.call f (ds.map ofD) (fun _ => none) 0) with
    | some (.val v u _) =>
      let vs := match v with | .tup l => l | v => [v]
      (match freezes (hlook u) vs with | some (rs, _) => some (.ds rs) | none => none)
    | _ => none)
def runF : Nat → Task → Option Ans
  | 0, _ => none
  | n + 1, t => step kp (runF n) t
end Go.Fw
namespace Go.Fw

/-- f tells no more than g. -/
def LeT (f g : Task → Option Ans) : Prop := ∀ t r, f t = some r → g t = some r

variable {kp : Nat → Option KF}

theorem LeT.refl (f : Task → Option Ans) : LeT f f := fun _ _ h => h
theorem LeT.trans {f g h : Task → Option Ans} (a : LeT f g) (b : LeT g h) : LeT f h := fun t r e => b t r (a t r e)

/-- One more way to say what a round does: with the calls' answers taken one by one. -/
theorem step_mono {f g : Task → Option Ans} (hfg : LeT f g) : LeT (step kp f) (step kp g) := by
  intro t r h
  have key : ∀ x, f x = none ∨ ∃ a, f x = some a ∧ g x = some a := fun x => by
    cases hx : f x with
    | none => exact .inl rfl
    | some a => exact .inr ⟨a, rfl, hfg _ _ hx⟩
  cases t with
  | code k s =>
    cases k with
    | skip => exact h
    | ret => exact h
    | ext n => exact h
    | seq a b =>
      simp only [step] at h ⊢
      rcases key (.code a s) with e | ⟨x, e, e'⟩
      · rw [e] at h; simp at h
      · rw [e] at h; rw [e']
        split at h
        · rename_i s' hx
          injection hx with hx; subst hx
          exact hfg _ _ h
        · exact h
    | cond c a b =>
      simp only [step] at h ⊢
      split at h
      · rename_i c' hc
        split at h
        · rename_i hb; rw [if_pos hb]; exact hfg _ _ h
        · rename_i hb; rw [if_neg hb]; exact hfg _ _ h
      · cases h
    | blk n a =>
      simp only [step] at h ⊢
      rcases key (.code a s) with e | ⟨x, e, e'⟩
      · rw [e] at h; simp at h
      · rw [e] at h; rw [e']; exact h
    | loop keep a =>
      simp only [step] at h ⊢
      split at h
      · exact hfg _ _ h
      · cases h
    | reg pairs ops kill =>
      simp only [step] at h ⊢
      rcases key (.ops ops s) with e | ⟨x, e, e'⟩
      · rw [e] at h; simp at h
      · rw [e] at h; rw [e']; exact h
  | loop keep a s =>
    simp only [step] at h ⊢
    rcases key (.code a s) with e | ⟨x, e, e'⟩
    · rw [e] at h; simp at h
    · rw [e] at h; rw [e']
      split at h
      · rename_i s' hx
        injection hx with hx; subst hx
        split at h
        · exact hfg _ _ h
        · cases h
      · exact h
  | ops l s =>
    cases l with
    | nil => exact h
    | cons gi r' =>
      obtain ⟨gd, i⟩ := gi
      simp only [step] at h ⊢
      split at h
      · cases h
      · exact hfg _ _ h
      · split at h
        · rename_i d fn xs nt
          rcases key (.call fn (xs.map (val s.env)) s.g s.next) with e | ⟨x, e, e'⟩
          · rw [e] at h; simp at h
          · rw [e] at h; rw [e']
            split at h
            · rename_i hx; injection hx with hx; subst hx
              split at h
              · cases h
              · rename_i hcl
                simp only [hcl]
                exact hfg _ _ h
            · cases h
        · rename_i d fn xs
          split at h
          · rename_i ds hds
            rcases key (.data fn ds) with e | ⟨x, e, e'⟩
            · rw [e] at h; simp at h
            · rw [e] at h; rw [e']
              split at h
              · rename_i hx; injection hx with hx; subst hx; exact hfg _ _ h
              · cases h
          · cases h
        · rename_i d fn xs
          split at h
          · rename_i ds u0 hds
            rcases key (.dats fn ds) with e | ⟨x, e, e'⟩
            · rw [e] at h; simp at h
            · rw [e] at h; rw [e']
              split at h
              · rename_i hx; injection hx with hx; subst hx; exact hfg _ _ h
              · cases h
          · cases h
        · rename_i d fn xs
          split at h
          · rename_i ds u0 hds
            rcases key (.datk fn ds) with e | ⟨x, e, e'⟩
            · rw [e] at h; simp at h
            · rw [e] at h; rw [e']
              split at h
              · rename_i hx; injection hx with hx; subst hx; exact hfg _ _ h
              · cases h
          · cases h
        · rename_i d fn xs nt
          rcases key (.call fn (xs.map (val s.env)) s.g s.next) with e | ⟨x, e, e'⟩
          · rw [e] at h; simp at h
          · rw [e] at h; rw [e']
            split at h
            · rename_i hx; injection hx with hx; subst hx
              split at h
              · rename_i hz
                split at h
                · cases h
                · rename_i hcl
                  simp only [hcl]
                  exact hfg _ _ h
              · cases h
            · cases h
        · rename_i d fo xs
          split at h
          · rename_i c first caps hc
            rcases key (.call c (first ++ xs.map (val s.env) ++ caps) s.g s.next) with e | ⟨x, e, e'⟩
            · rw [e] at h; simp at h
            · rw [e] at h; rw [e']
              split at h
              · rename_i hx; injection hx with hx; subst hx; exact hfg _ _ h
              · cases h
          · cases h
        · split at h
          · exact hfg _ _ h
          · cases h
  | call fn vs tl n =>
    simp only [step] at h ⊢
    split at h
    · cases h
    · rename_i kf hk
      split at h
      · exact h
      · rcases key (.code kf.body { env := params 0 vs, hp := [], tl := tl, base := n, next := n }) with e | ⟨x, e, e'⟩
        · rw [e] at h; simp at h
        · rw [e] at h; rw [e']; exact h
  | data fn ds =>
    simp only [step] at h ⊢
    rcases key (.call fn (ds.map argV) (fun _ => none) 0) with e | ⟨x, e, e'⟩
    · rw [e] at h; simp at h
    · rw [e] at h; rw [e']; exact h
  | dats fn ds =>
    simp only [step] at h ⊢
    rcases key (.call fn (ds.map ofD) (fun _ => none) 0) with e | ⟨x, e, e'⟩
    · rw [e] at h; simp at h
    · rw [e] at h; rw [e']; exact h
  | datk fn ds =>
    simp only [step] at h ⊢
    rcases key (.call fn (ds.map ofD) (fun _ => none) 0) with e | ⟨x, e, e'⟩
    · rw [e] at h; simp at h
    · rw [e] at h; rw [e']; exact h

theorem runF_succ (n : Nat) : LeT (runF kp n) (runF kp (n + 1)) := by
  induction n with
  | zero => intro t r h; cases h
  | succ n ih => exact step_mono ih
theorem runF_le {n m : Nat} (h : n ≤ m) : LeT (runF kp n) (runF kp m) := by
  induction h with
  | refl => exact LeT.refl _
  | step _ ih => exact ih.trans (runF_succ _)

open Classical in
/-- What some number of rounds comes to. -/
noncomputable def run (kp : Nat → Option KF) (t : Task) : Option Ans := if h : ∃ n r, runF kp n t = some r then some h.choose_spec.choose else none
theorem run_of {n : Nat} {t : Task} {r : Ans} (h : runF kp n t = some r) : run kp t = some r := by
  have hx : ∃ n r, runF kp n t = some r := ⟨n, r, h⟩
  unfold run
  rw [dif_pos hx]
  have h2 := hx.choose_spec.choose_spec
  have a := runF_le (kp := kp) (Nat.le_max_left n hx.choose) _ _ h
  have b := runF_le (kp := kp) (Nat.le_max_right n hx.choose) _ _ h2
  exact (b.symm.trans a)
theorem run_some {t : Task} {r : Ans} (h : run kp t = some r) : ∃ n, runF kp n t = some r := by
  unfold run at h
  split at h
  · rename_i hx
    injection h with h
    exact ⟨_, h ▸ hx.choose_spec.choose_spec⟩
  · cases h
theorem le_run (n : Nat) : LeT (runF kp n) (run kp) := fun _ _ h => run_of h

/-- What a round over the unbounded answers comes to, it comes to over some bounded ones. -/
theorem step_run {t : Task} {r : Ans} (h : step kp (run kp) t = some r) : ∃ n, step kp (runF kp n) t = some r := by
  have key : ∀ x, run kp x = none ∨ ∃ a n, run kp x = some a ∧ runF kp n x = some a := fun x => by
    cases hx : run kp x with
    | none => exact .inl rfl
    | some a => exact .inr ⟨a, (run_some hx).choose, rfl, (run_some hx).choose_spec⟩
  have two : ∀ {x y : Task} {a b : Ans} {n : Nat}, runF kp n x = some a → run kp y = some b → ∃ m, runF kp m x = some a ∧ runF kp m y = some b := by
    intro x y a b n hx hy
    obtain ⟨m, hm⟩ := run_some hy
    exact ⟨max n m, runF_le (Nat.le_max_left _ _) _ _ hx, runF_le (Nat.le_max_right _ _) _ _ hm⟩
  cases t with
  | code k s =>
    cases k with
    | skip => exact ⟨0, h⟩
    | ret => exact ⟨0, h⟩
    | ext n => exact ⟨0, h⟩
    | seq a b =>
      simp only [step] at h ⊢
      rcases key (.code a s) with e | ⟨x, n, e, e'⟩
      · rw [e] at h; simp at h
      · rw [e] at h
        split at h
        · rename_i s' hx
          injection hx with hx; subst hx
          obtain ⟨m, h1, h2⟩ := two e' h
          exact ⟨m, by rw [h1]; exact h2⟩
        · rename_i hx
          refine ⟨n, ?_⟩
          rw [e']
          split
          · rename_i s' hy
            exact absurd hy (hx s')
          · exact h
    | cond c a b =>
      simp only [step] at h ⊢
      split at h
      · rename_i c' hc
        split at h
        · rename_i hb; obtain ⟨n, hn⟩ := run_some h; exact ⟨n, by rw [if_pos hb]; exact hn⟩
        · rename_i hb; obtain ⟨n, hn⟩ := run_some h; exact ⟨n, by rw [if_neg hb]; exact hn⟩
      · cases h
    | blk n a =>
      simp only [step] at h ⊢
      rcases key (.code a s) with e | ⟨x, m, e, e'⟩
      · rw [e] at h; simp at h
      · exact ⟨m, by rw [e']; rw [e] at h; exact h⟩
    | loop keep a =>
      simp only [step] at h ⊢
      split at h
      · exact run_some h
      · cases h
    | reg pairs ops kill =>
      simp only [step] at h ⊢
      rcases key (.ops ops s) with e | ⟨x, m, e, e'⟩
      · rw [e] at h; simp at h
      · exact ⟨m, by rw [e']; rw [e] at h; exact h⟩
  | loop keep a s =>
    simp only [step] at h ⊢
    rcases key (.code a s) with e | ⟨x, n, e, e'⟩
    · rw [e] at h; simp at h
    · rw [e] at h
      split at h
      · rename_i s' hx
        injection hx with hx; subst hx
        split at h
        · rename_i s'' hc
          obtain ⟨m, h1, h2⟩ := two e' h
          exact ⟨m, by rw [h1]; simp only [hc]; exact h2⟩
        · cases h
      · rename_i hx
        refine ⟨n, ?_⟩
        rw [e']
        split
        · rename_i s' hy
          exact absurd hy (hx s')
        · exact h
  | ops l s =>
    cases l with
    | nil => exact ⟨0, h⟩
    | cons gi r' =>
      obtain ⟨gd, i⟩ := gi
      simp only [step] at h ⊢
      split at h
      · cases h
      · exact run_some h
      · split at h
        · rename_i d fn xs nt
          rcases key (.call fn (xs.map (val s.env)) s.g s.next) with e | ⟨x, n, e, e'⟩
          · rw [e] at h; simp at h
          · rw [e] at h
            split at h
            · rename_i hx; injection hx with hx; subst hx
              split at h
              · cases h
              · rename_i hcl
                obtain ⟨m, h1, h2⟩ := two e' h
                exact ⟨m, by simp only [h1, hcl]; exact h2⟩
            · cases h
        · rename_i d fn xs
          split at h
          · rename_i ds hds
            rcases key (.data fn ds) with e | ⟨x, n, e, e'⟩
            · rw [e] at h; simp at h
            · rw [e] at h
              split at h
              · rename_i hx; injection hx with hx; subst hx
                obtain ⟨m, h1, h2⟩ := two e' h
                exact ⟨m, by simp only [h1]; exact h2⟩
              · cases h
          · cases h
        · rename_i d fn xs
          split at h
          · rename_i ds u0 hds
            rcases key (.dats fn ds) with e | ⟨x, n, e, e'⟩
            · rw [e] at h; simp at h
            · rw [e] at h
              split at h
              · rename_i hx; injection hx with hx; subst hx
                obtain ⟨m, h1, h2⟩ := two e' h
                exact ⟨m, by simp only [h1]; exact h2⟩
              · cases h
          · cases h
        · rename_i d fn xs
          split at h
          · rename_i ds u0 hds
            rcases key (.datk fn ds) with e | ⟨x, n, e, e'⟩
            · rw [e] at h; simp at h
            · rw [e] at h
              split at h
              · rename_i hx; injection hx with hx; subst hx
                obtain ⟨m, h1, h2⟩ := two e' h
                exact ⟨m, by simp only [h1]; exact h2⟩
              · cases h
          · cases h
        · rename_i d fn xs nt
          rcases key (.call fn (xs.map (val s.env)) s.g s.next) with e | ⟨x, n, e, e'⟩
          · rw [e] at h; simp at h
          · rw [e] at h
            split at h
            · rename_i hx; injection hx with hx; subst hx
              split at h
              · rename_i hz
                split at h
                · cases h
                · rename_i hcl
                  obtain ⟨m, h1, h2⟩ := two e' h
                  exact ⟨m, by simp only [h1, hz, hcl]; exact h2⟩
              · cases h
            · cases h
        · rename_i d fo xs
          split at h
          · rename_i c first caps hc
            rcases key (.call c (first ++ xs.map (val s.env) ++ caps) s.g s.next) with e | ⟨x, n, e, e'⟩
            · rw [e] at h; simp at h
            · rw [e] at h
              split at h
              · rename_i hx; injection hx with hx; subst hx
                obtain ⟨m, h1, h2⟩ := two e' h
                exact ⟨m, by simp only [h1]; exact h2⟩
              · cases h
          · cases h
        · split at h
          · exact run_some h
          · cases h
  | call fn vs tl n =>
    simp only [step] at h ⊢
    split at h
    · cases h
    · rename_i kf hk
      split at h
      · rename_i k hkn
        exact ⟨0, by exact h⟩
      · rename_i hkn
        rcases key (.code kf.body { env := params 0 vs, hp := [], tl := tl, base := n, next := n }) with e | ⟨x, m, e, e'⟩
        · rw [e] at h; simp at h
        · refine ⟨m, ?_⟩
          rw [e] at h
          simp only [hkn, e']
          exact h
  | data fn ds =>
    simp only [step] at h ⊢
    rcases key (.call fn (ds.map argV) (fun _ => none) 0) with e | ⟨x, m, e, e'⟩
    · rw [e] at h; simp at h
    · exact ⟨m, by rw [e']; rw [e] at h; exact h⟩
  | dats fn ds =>
    simp only [step] at h ⊢
    rcases key (.call fn (ds.map ofD) (fun _ => none) 0) with e | ⟨x, m, e, e'⟩
    · rw [e] at h; simp at h
    · exact ⟨m, by rw [e']; rw [e] at h; exact h⟩
  | datk fn ds =>
    simp only [step] at h ⊢
    rcases key (.call fn (ds.map ofD) (fun _ => none) 0) with e | ⟨x, m, e, e'⟩
    · rw [e] at h; simp at h
    · exact ⟨m, by rw [e']; rw [e] at h; exact h⟩

/-- The equation of the evaluator. -/
theorem run_eq (t : Task) : run kp t = step kp (run kp) t := by
  cases h : step kp (run kp) t with
  | some r =>
    obtain ⟨n, hn⟩ := step_run h
    exact run_of (n := n + 1) hn
  | none =>
    cases h' : run kp t with
    | none => rfl
    | some r =>
      obtain ⟨n, hn⟩ := run_some h'
      cases n with
      | zero => cases hn
      | succ n => rw [step_mono (le_run n) _ _ hn] at h; cases h
end Go.Fw
namespace Go.Fw
variable {kp : Nat → Option KF}

noncomputable def thenK (kp : Nat → Option KF) (r : Option Ans) (b : K) : Option Ans := match r with | some (.out .nrm s) => run kp (.code b s) | r => r
def blkK (r : Option Ans) (n : Nat) : Option Ans := match r with | some (.out (.ext m) s') => some (.out (if m = n then .nrm else .ext m) s') | r => r
noncomputable def headK (kp : Nat → Option KF) (r : Option St) (keep : List Nat) (a : K) : Option Ans := match r with | some s => run kp (.loop keep a s) | none => none
noncomputable def roundK (kp : Nat → Option KF) (r : Option Ans) (keep : List Nat) (a : K) : Option Ans := match r with | some (.out .nrm s) => headK kp (canon (kept s.env keep) s) keep a | r => r
def regK (r : Option Ans) (pairs : List (Nat × Nat)) (ops : List GI) (kill : List Nat) : Option Ans := match r with
  | some (.st s') => if meets s'.env ops pairs then none else some (.out .nrm { s' with env := forget s'.env kill })
  | _ => none
noncomputable def condK (kp : Nat → Option KF) (c : V) (a b : K) (s : St) : Option Ans := match c with
  | .bool c => if c then run kp (.code a s) else run kp (.code b s)
  | _ => none
noncomputable def effK (kp : Nat → Option KF) (x : Option (V × Hp × Nat)) (d : Option Nat) (r : List GI) (s : St) : Option Ans := match x with
  | some (v, u, n) => run kp (.ops r (s.after d v u n))
  | none => none
noncomputable def calK (kp : Nat → Option KF) (x : Option Ans) (d : Nat) (r : List GI) (s : St) : Option Ans := match x with
  | some (.val v u n) => run kp (.ops r (s.after (some d) v u n))
  | _ => none
noncomputable def calN (kp : Nat → Option KF) (x : Option Ans) (nt : List Nat) (d : Nat) (r : List GI) (s : St) : Option Ans := match x with
  | some (.val v u n) => if clash s.env nt u then none else run kp (.ops r (s.after (some d) v u n))
  | _ => none
noncomputable def resK (kp : Nat → Option KF) (x : List V × Hp × Nat) (d : Nat) (r : List GI) (s : St) : Option Ans := match x with
  | (vs, u, n) => run kp (.ops r (s.after (some d) (resV vs) u n))
noncomputable def datK (kp : Nat → Option KF) (x : Option Ans) (d : Nat) (r : List GI) (s : St) : Option Ans := match x with
  | some (.ds rs) => resK kp (adopts s.next rs) d r s
  | _ => none
noncomputable def datK0 (kp : Nat → Option KF) (x : Option (List D)) (f d : Nat) (r : List GI) (s : St) : Option Ans := match x with
  | some ds => datK kp (run kp (.data f ds)) d r s
  | none => none
noncomputable def resKu (kp : Nat → Option KF) (u0 : Hp) (x : List V × Hp × Nat) (d : Nat) (r : List GI) (s : St) : Option Ans := match x with
  | (vs, u, n) => run kp (.ops r (s.after (some d) (resV vs) (u0 ++ u) n))
noncomputable def dafK (kp : Nat → Option KF) (u0 : Hp) (x : Option Ans) (d : Nat) (r : List GI) (s : St) : Option Ans := match x with
  | some (.ds rs) => resKu kp u0 (adopts s.next rs) d r s
  | _ => none
noncomputable def dafK0 (kp : Nat → Option KF) (x : Option (List D × Hp)) (f d : Nat) (r : List GI) (s : St) : Option Ans := match x with
  | some (ds, u0) => dafK kp u0 (run kp (.dats f ds)) d r s
  | none => none
noncomputable def dasK (kp : Nat → Option KF) (u0 : Hp) (x : Option Ans) (d : Nat) (r : List GI) (s : St) : Option Ans := match x with
  | some (.ds rs) => run kp (.ops r (s.after (some d) (resV (rs.map ofD)) u0 s.next))
  | _ => none
noncomputable def dasK0 (kp : Nat → Option KF) (x : Option (List D × Hp)) (f d : Nat) (r : List GI) (s : St) : Option Ans := match x with
  | some (ds, u0) => dasK kp u0 (run kp (.datk f ds)) d r s
  | none => none
noncomputable def cadF (kp : Nat → Option KF) (x : Option (D × Hp)) (u : Hp) (n : Nat) (nt : List Nat) (d : Nat) (r : List GI) (s : St) : Option Ans := match x with
  | some (y, u0) => if clash s.env nt (u ++ u0) then none else run kp (.ops r (s.after (some d) (ofD y) (u ++ u0) n))
  | none => none
noncomputable def cadK (kp : Nat → Option KF) (x : Option Ans) (nt : List Nat) (d : Nat) (r : List GI) (s : St) : Option Ans := match x with
  | some (.val v u n) => cadF kp (freeze (s.after (some d) v u n).g v) u n nt d r s
  | _ => none
noncomputable def cavK (kp : Nat → Option KF) (c : V) (xs : List V) (d : Nat) (r : List GI) (s : St) : Option Ans := match c with
  | .clo c first caps => calK kp (run kp (.call c (first ++ xs ++ caps) s.g s.next)) d r s
  | _ => none
noncomputable def doK (kp : Nat → Option KF) (i : KI) (r : List GI) (s : St) : Option Ans := match i with
  | .cal d f xs nt => calN kp (run kp (.call f (xs.map (val s.env)) s.g s.next)) nt d r s
  | .dat d f xs => datK0 kp (toDs s.g (xs.map (val s.env))) f d r s
  | .daf d f xs => dafK0 kp (freezes s.g (xs.map (val s.env))) f d r s
  | .das d f xs => dasK0 kp (freezes s.g (xs.map (val s.env))) f d r s
  | .cad d f xs nt => cadK kp (run kp (.call f (xs.map (val s.env)) s.g s.next)) nt d r s
  | .cav d f xs => cavK kp (val s.env f) (xs.map (val s.env)) d r s
  | i => effK kp (eff i s.env s.g s.next) i.dst r s
noncomputable def wantK (kp : Nat → Option KF) (w : Option Bool) (i : KI) (r : List GI) (s : St) : Option Ans := match w with
  | none => none
  | some false => run kp (.ops r { s with env := putO s.env i.dst (.tup []) })
  | some true => doK kp i r s
def canK (x : Option St) : Option Ans := match x with
  | some s' => some (.val (look s'.env 0) s'.hp s'.next)
  | none => none
def retK (x : Option (List V)) (s : St) : Option Ans := match x with
  | some rs => canK (canon [(0, resV rs)] s)
  | none => none
def outK (x : Option Ans) (res : List Res) : Option Ans := match x with
  | some (.out (.ext _) _) => none
  | some (.out _ s) => retK (resOf s res) s
  | _ => none
noncomputable def bodyK (kp : Nat → Option KF) (x : Option KF) (vs : List V) (tl : Nat → Option Blk) (n : Nat) : Option Ans := match x with
  | none => none
  | some ⟨b, r, none⟩ => outK (run kp (.code b { env := params 0 vs, hp := [], tl := tl, base := n, next := n })) r
  | some ⟨_, _, some k⟩ => (match natV k tl n vs with | some (v, u, m) => some (.val v u m) | none => none)
def dsK (x : Option (List D)) : Option Ans := match x with | some rs => some (.ds rs) | none => none
def vsOf : V → List V
  | .tup l => l
  | v => [v]
def frK (x : Option (List D × Hp)) : Option Ans := match x with | some (rs, _) => some (.ds rs) | none => none
def frzK (x : Option Ans) : Option Ans := match x with
  | some (.val v u _) => frK (freezes (hlook u) (vsOf v))
  | _ => none
def valK (x : Option Ans) : Option Ans := match x with
  | some (.val v u _) => if ownAlls (hlook u) (vsOf v) && apartHs (V.hss (vsOf v)) then dsK (toDs (hlook u) (vsOf v)) else none
  | _ => none

theorem run_skip (s : St) : run kp (.code .skip s) = some (.out .nrm s) := by rw [run_eq]; rfl
theorem run_ret (s : St) : run kp (.code .ret s) = some (.out .ret s) := by rw [run_eq]; rfl
theorem run_ext (n : Nat) (s : St) : run kp (.code (.ext n) s) = some (.out (.ext n) s) := by rw [run_eq]; rfl
theorem run_seq (a b : K) (s : St) : run kp (.code (.seq a b) s) = thenK kp (run kp (.code a s)) b := by rw [run_eq]; rfl
theorem run_cond (c : Opd) (a b : K) (s : St) : run kp (.code (.cond c a b) s) = condK kp (val s.env c) a b s := by rw [run_eq]; rfl
theorem run_blk (n : Nat) (a : K) (s : St) : run kp (.code (.blk n a) s) = blkK (run kp (.code a s)) n := by rw [run_eq]; rfl
theorem run_loop (keep : List Nat) (a : K) (s : St) : run kp (.code (.loop keep a) s) = headK kp (canon (kept s.env keep) s) keep a := by rw [run_eq]; rfl
theorem run_round (keep : List Nat) (a : K) (s : St) : run kp (.loop keep a s) = roundK kp (run kp (.code a s)) keep a := by rw [run_eq]; rfl
theorem run_reg (pairs : List (Nat × Nat)) (ops : List GI) (kill : List Nat) (s : St) : run kp (.code (.reg pairs ops kill) s) = regK (run kp (.ops ops s)) pairs ops kill := by rw [run_eq]; rfl
theorem run_nil (s : St) : run kp (.ops [] s) = some (.st s) := by rw [run_eq]; rfl
theorem run_cons (gd : Option (Nat × Bool)) (i : KI) (r : List GI) (s : St) : run kp (.ops (⟨gd, i⟩ :: r) s) = wantK kp (wanted s.env gd) i r s := by
  rw [run_eq]
  simp only [step]
  cases h : wanted s.env gd with
  | none => rfl
  | some b => cases b with
    | false => rfl
    | true => cases i <;> rfl
theorem run_call (f : Nat) (vs : List V) (tl : Nat → Option Blk) (n : Nat) : run kp (.call f vs tl n) = bodyK kp (kp f) vs tl n := by
  rw [run_eq]
  simp only [step, bodyK]
  cases kp f with
  | none => rfl
  | some kf =>
    obtain ⟨b, r, nat⟩ := kf
    cases nat with
    | some k => rfl
    | none =>
      simp only
      cases h : run kp (.code b { env := params 0 vs, hp := [], tl := tl, base := n, next := n }) with
      | none => rfl
      | some a => cases a with
        | out o s => cases o <;> rfl
        | st s => rfl
        | val v u n => rfl
        | ds l => rfl
theorem run_data (f : Nat) (ds : List D) : run kp (.data f ds) = valK (run kp (.call f (ds.map argV) (fun _ => none) 0)) := by
  rw [run_eq]
  simp only [step, valK]
  cases h : run kp (.call f (ds.map argV) (fun _ => none) 0) with
  | none => rfl
  | some a => cases a with
    | val v u n => cases v <;> rfl
    | _ => rfl
theorem run_dats (f : Nat) (ds : List D) : run kp (.dats f ds) = valK (run kp (.call f (ds.map ofD) (fun _ => none) 0)) := by
  rw [run_eq]
  simp only [step, valK]
  cases h : run kp (.call f (ds.map ofD) (fun _ => none) 0) with
  | none => rfl
  | some a => cases a with
    | val v u n => cases v <;> rfl
    | _ => rfl
theorem run_datk (f : Nat) (ds : List D) : run kp (.datk f ds) = frzK (run kp (.call f (ds.map ofD) (fun _ => none) 0)) := by
  rw [run_eq]
  simp only [step, frzK]
  cases h : run kp (.call f (ds.map ofD) (fun _ => none) 0) with
  | none => rfl
  | some a => cases a with
    | val v u n => cases v <;> rfl
    | _ => rfl

theorem thenK_nrm (s : St) (b : K) : thenK kp (some (.out .nrm s)) b = run kp (.code b s) := rfl
theorem thenK_ret (s : St) (b : K) : thenK kp (some (.out .ret s)) b = some (.out .ret s) := rfl
theorem thenK_ext (n : Nat) (s : St) (b : K) : thenK kp (some (.out (.ext n) s)) b = some (.out (.ext n) s) := rfl
theorem thenK_none (b : K) : thenK kp none b = none := rfl
theorem thenK_ite (c : Prop) [Decidable c] (x y : Option Ans) (b : K) : thenK kp (if c then x else y) b = if c then thenK kp x b else thenK kp y b := by split <;> rfl
theorem blkK_nrm (s : St) (n : Nat) : blkK (some (.out .nrm s)) n = some (.out .nrm s) := rfl
theorem blkK_ret (s : St) (n : Nat) : blkK (some (.out .ret s)) n = some (.out .ret s) := rfl
theorem blkK_ext (m : Nat) (s : St) (n : Nat) : blkK (some (.out (.ext m) s)) n = some (.out (if m = n then .nrm else .ext m) s) := rfl
theorem blkK_none (n : Nat) : blkK none n = none := rfl
theorem blkK_ite (c : Prop) [Decidable c] (x y : Option Ans) (n : Nat) : blkK (if c then x else y) n = if c then blkK x n else blkK y n := by split <;> rfl
theorem headK_some (s : St) (keep : List Nat) (a : K) : headK kp (some s) keep a = run kp (.loop keep a s) := rfl
theorem headK_none (keep : List Nat) (a : K) : headK kp none keep a = none := rfl
theorem roundK_nrm (s : St) (keep : List Nat) (a : K) : roundK kp (some (.out .nrm s)) keep a = headK kp (canon (kept s.env keep) s) keep a := rfl
theorem roundK_ret (s : St) (keep : List Nat) (a : K) : roundK kp (some (.out .ret s)) keep a = some (.out .ret s) := rfl
theorem roundK_ext (n : Nat) (s : St) (keep : List Nat) (a : K) : roundK kp (some (.out (.ext n) s)) keep a = some (.out (.ext n) s) := rfl
theorem roundK_none (keep : List Nat) (a : K) : roundK kp none keep a = none := rfl
theorem roundK_ite (c : Prop) [Decidable c] (x y : Option Ans) (keep : List Nat) (a : K) : roundK kp (if c then x else y) keep a = if c then roundK kp x keep a else roundK kp y keep a := by split <;> rfl
theorem regK_st (s : St) (ops : List GI) (kill : List Nat) : regK (some (.st s)) [] ops kill = some (.out .nrm { s with env := forget s.env kill }) := rfl
theorem regK_st' (s : St) (p : Nat × Nat) (ps : List (Nat × Nat)) (ops : List GI) (kill : List Nat) : regK (some (.st s)) (p :: ps) ops kill = if meets s.env ops (p :: ps) then none else some (.out .nrm { s with env := forget s.env kill }) := rfl
theorem regK_none (pairs : List (Nat × Nat)) (ops : List GI) (kill : List Nat) : regK none pairs ops kill = none := rfl
theorem regK_ite (c : Prop) [Decidable c] (x y : Option Ans) (pairs : List (Nat × Nat)) (ops : List GI) (kill : List Nat) : regK (if c then x else y) pairs ops kill = if c then regK x pairs ops kill else regK y pairs ops kill := by split <;> rfl
theorem condK_bool (c : Bool) (a b : K) (s : St) : condK kp (.bool c) a b s = if c then run kp (.code a s) else run kp (.code b s) := rfl
theorem effK_some (v : V) (u : Hp) (n : Nat) (d : Option Nat) (r : List GI) (s : St) : effK kp (some (v, u, n)) d r s = run kp (.ops r (s.after d v u n)) := rfl
theorem effK_none (d : Option Nat) (r : List GI) (s : St) : effK kp none d r s = none := rfl
theorem effK_ite (c : Prop) [Decidable c] (x y : Option (V × Hp × Nat)) (d : Option Nat) (r : List GI) (s : St) : effK kp (if c then x else y) d r s = if c then effK kp x d r s else effK kp y d r s := by split <;> rfl
theorem calK_val (v : V) (u : Hp) (n d : Nat) (r : List GI) (s : St) : calK kp (some (.val v u n)) d r s = run kp (.ops r (s.after (some d) v u n)) := rfl
theorem calK_none (d : Nat) (r : List GI) (s : St) : calK kp none d r s = none := rfl
theorem calN_nil (x : Option Ans) (d : Nat) (r : List GI) (s : St) : calN kp x [] d r s = calK kp x d r s := by
  cases x with
  | none => rfl
  | some a => cases a <;> rfl
theorem calN_val (v : V) (u : Hp) (n : Nat) (t : Nat) (nt : List Nat) (d : Nat) (r : List GI) (s : St) : calN kp (some (.val v u n)) (t :: nt) d r s = if clash s.env (t :: nt) u then none else run kp (.ops r (s.after (some d) v u n)) := rfl
theorem calN_ite (c : Prop) [Decidable c] (x y : Option Ans) (nt : List Nat) (d : Nat) (r : List GI) (s : St) : calN kp (if c then x else y) nt d r s = if c then calN kp x nt d r s else calN kp y nt d r s := by split <;> rfl
theorem calK_ite (c : Prop) [Decidable c] (x y : Option Ans) (d : Nat) (r : List GI) (s : St) : calK kp (if c then x else y) d r s = if c then calK kp x d r s else calK kp y d r s := by split <;> rfl
theorem resK_mk (vs : List V) (u : Hp) (n d : Nat) (r : List GI) (s : St) : resK kp (vs, u, n) d r s = run kp (.ops r (s.after (some d) (resV vs) u n)) := rfl
theorem datK_ds (rs : List D) (d : Nat) (r : List GI) (s : St) : datK kp (some (.ds rs)) d r s = resK kp (adopts s.next rs) d r s := rfl
theorem datK_none (d : Nat) (r : List GI) (s : St) : datK kp none d r s = none := rfl
theorem datK_ite (c : Prop) [Decidable c] (x y : Option Ans) (d : Nat) (r : List GI) (s : St) : datK kp (if c then x else y) d r s = if c then datK kp x d r s else datK kp y d r s := by split <;> rfl
theorem datK0_some (ds : List D) (f d : Nat) (r : List GI) (s : St) : datK0 kp (some ds) f d r s = datK kp (run kp (.data f ds)) d r s := rfl
theorem resKu_mk (u0 : Hp) (vs : List V) (u : Hp) (n d : Nat) (r : List GI) (s : St) : resKu kp u0 (vs, u, n) d r s = run kp (.ops r (s.after (some d) (resV vs) (u0 ++ u) n)) := rfl
theorem dafK_ds (u0 : Hp) (rs : List D) (d : Nat) (r : List GI) (s : St) : dafK kp u0 (some (.ds rs)) d r s = resKu kp u0 (adopts s.next rs) d r s := rfl
theorem dafK_none (u0 : Hp) (d : Nat) (r : List GI) (s : St) : dafK kp u0 none d r s = none := rfl
theorem dafK0_some (ds : List D) (u0 : Hp) (f d : Nat) (r : List GI) (s : St) : dafK0 kp (some (ds, u0)) f d r s = dafK kp u0 (run kp (.dats f ds)) d r s := rfl
theorem dafK_ite (c : Prop) [Decidable c] (u0 : Hp) (x y : Option Ans) (d : Nat) (r : List GI) (s : St) : dafK kp u0 (if c then x else y) d r s = if c then dafK kp u0 x d r s else dafK kp u0 y d r s := by split <;> rfl
theorem dasK_ds (u0 : Hp) (rs : List D) (d : Nat) (r : List GI) (s : St) : dasK kp u0 (some (.ds rs)) d r s = run kp (.ops r (s.after (some d) (resV (rs.map ofD)) u0 s.next)) := rfl
theorem dasK_none (u0 : Hp) (d : Nat) (r : List GI) (s : St) : dasK kp u0 none d r s = none := rfl
theorem dasK0_some (ds : List D) (u0 : Hp) (f d : Nat) (r : List GI) (s : St) : dasK0 kp (some (ds, u0)) f d r s = dasK kp u0 (run kp (.datk f ds)) d r s := rfl
theorem dasK_ite (c : Prop) [Decidable c] (u0 : Hp) (x y : Option Ans) (d : Nat) (r : List GI) (s : St) : dasK kp u0 (if c then x else y) d r s = if c then dasK kp u0 x d r s else dasK kp u0 y d r s := by split <;> rfl
theorem cadF_some (y : D) (u0 u : Hp) (n : Nat) (nt : List Nat) (d : Nat) (r : List GI) (s : St) : cadF kp (some (y, u0)) u n nt d r s = if clash s.env nt (u ++ u0) then none else run kp (.ops r (s.after (some d) (ofD y) (u ++ u0) n)) := rfl
theorem cadK_val (v : V) (u : Hp) (n : Nat) (nt : List Nat) (d : Nat) (r : List GI) (s : St) : cadK kp (some (.val v u n)) nt d r s = cadF kp (freeze (s.after (some d) v u n).g v) u n nt d r s := rfl
theorem cadK_none (nt : List Nat) (d : Nat) (r : List GI) (s : St) : cadK kp none nt d r s = none := rfl
theorem cadK_ite (c : Prop) [Decidable c] (x y : Option Ans) (nt : List Nat) (d : Nat) (r : List GI) (s : St) : cadK kp (if c then x else y) nt d r s = if c then cadK kp x nt d r s else cadK kp y nt d r s := by split <;> rfl
theorem cavK_clo (c : Nat) (first caps xs : List V) (d : Nat) (r : List GI) (s : St) : cavK kp (.clo c first caps) xs d r s = calK kp (run kp (.call c (first ++ xs ++ caps) s.g s.next)) d r s := rfl
theorem wantK_true (i : KI) (r : List GI) (s : St) : wantK kp (some true) i r s = doK kp i r s := rfl
theorem wantK_false (i : KI) (r : List GI) (s : St) : wantK kp (some false) i r s = run kp (.ops r { s with env := putO s.env i.dst (.tup []) }) := rfl
theorem wantK_some (b : Bool) (i : KI) (r : List GI) (s : St) : wantK kp (some b) i r s = if b then doK kp i r s else run kp (.ops r { s with env := putO s.env i.dst (.tup []) }) := by cases b <;> rfl
theorem canK_some (s : St) : canK (some s) = some (.val (look s.env 0) s.hp s.next) := rfl
theorem canK_none : canK none = none := rfl
theorem retK_some (rs : List V) (s : St) : retK (some rs) s = canK (canon [(0, resV rs)] s) := rfl
theorem outK_nrm (s : St) (res : List Res) : outK (some (.out .nrm s)) res = retK (resOf s res) s := rfl
theorem outK_ret (s : St) (res : List Res) : outK (some (.out .ret s)) res = retK (resOf s res) s := rfl
theorem outK_none (res : List Res) : outK none res = none := rfl
theorem outK_ite (c : Prop) [Decidable c] (x y : Option Ans) (res : List Res) : outK (if c then x else y) res = if c then outK x res else outK y res := by split <;> rfl
theorem bodyK_some (b : K) (r : List Res) (vs : List V) (tl : Nat → Option Blk) (n : Nat) : bodyK kp (some ⟨b, r, none⟩) vs tl n = outK (run kp (.code b { env := params 0 vs, hp := [], tl := tl, base := n, next := n })) r := rfl
theorem bodyK_nat (b : K) (r : List Res) (k : NK) (vs : List V) (tl : Nat → Option Blk) (n : Nat) : bodyK kp (some ⟨b, r, some k⟩) vs tl n = match natV k tl n vs with | some (v, u, m) => some (.val v u m) | none => none := rfl
theorem dsK_some (rs : List D) : dsK (some rs) = some (.ds rs) := rfl
theorem valK_val (v : V) (u : Hp) (n : Nat) : valK (some (.val v u n)) = if ownAlls (hlook u) (vsOf v) && apartHs (V.hss (vsOf v)) then dsK (toDs (hlook u) (vsOf v)) else none := rfl
theorem valK_none : valK none = none := rfl
theorem valK_ite (c : Prop) [Decidable c] (x y : Option Ans) : valK (if c then x else y) = if c then valK x else valK y := by split <;> rfl
end Go.Fw
