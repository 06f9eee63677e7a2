/- An evaluator for small resolved code, and the making of that code out of the program's own. Nothing is proved here. -/
import Derived.Orders
import Derived.Tactics
import Derived.Below
import Derived.Laws.Entries
namespace Go.Proofs.Ytjgnjpbplnmdmaa
open Go

/-- A value as the evaluator has it: one that is the very same in memory's eyes (v); a pointer into a row of its own (p); a closure; a slice of a row of its own (sl), with room for at least cap; a slice that nobody writes, by its cells (im); a pointer into such cells (pi); a struct or an array, by its cells; several results; an interface value; one that nobody may look at. -/
inductive LV where
  | v (x : Value)
  | p (k ver off : Nat)
  | f (fn : FuncId) (cap : List LV)
  | sl (k ver off len esz cap : Nat)
  | im (cells : List LV) (len : Nat) (full : Bool)
  | pi (cells : List LV)
  | agg (cs : List LV)
  | tup (cs : List LV)
  | ifc (t : TypeId) (x : LV)
  | bad
  deriving Inhabited

abbrev LV.i (n : Int) : LV := .v (.int .i64 n)
abbrev LV.b (b : Bool) : LV := .v (.bool b)
abbrev LV.u : LV := .v undef
abbrev LV.nils : LV := .v (.slice none 0 0)

inductive MO where
  | t (i : Nat)
  | c (x : LV)

/-- The kinds of cells that are held against one another. -/
inductive Kd where
  | i | b | s
  deriving DecidableEq

inductive MOp where
  | mv (a : MO)
  | pick (c a b : MO)
  | box (a : MO)
  | ld (a : MO) (n : Option Nat)
  | st (a b : MO) (n : Nat)
  | fa (a : MO) (off : Nat)
  | fld (a : MO) (off : Nat) (n : Option Nat)
  | ixa (a i : MO) (len esz : Nat)
  | ixs (a i : MO) (esz : Nat)
  | ix (a i : MO) (len esz : Nat) (n : Option Nat)
  | bin (op : BinOp) (a b : MO)
  | eqv (neg ag : Bool) (ks : List Kd) (a b : MO)
  | eqn (neg : Bool) (nk : Nat) (a : MO)
  | un (op : UnOp) (a : MO)
  | conv (k : IntKind) (a : MO)
  | ext (a : MO) (i : Nat)
  | bld (zero : List LV) (parts : List (Nat × Nat × MO))
  | bsl (zero : List LV) (len : Nat) (parts : List (Nat × Nat × MO))
  | mkf (f : FuncId) (caps : List MO)
  | ifc (t : TypeId) (a : MO)
  | nilc (a : MO)
  | call (f : MO) (args : List MO)
  | len (a : MO)
  | lenS (a : MO)
  | mm (isMax : Bool) (args : List MO)
  | app (a b : MO) (esz bytes : Nat)
  | slc (a : MO) (lo hi mx : Option MO) (esz : Nat)
  | sap (a : MO) (n : Nat)
  | mks (a b : MO) (zero : List LV) (esz bytes : Nat)
  | clr (a : MO) (zero : List LV) (esz : Nat)
  | inv (tab : List (TypeId × FuncId)) (a : MO) (args : List MO)
  | tas (a : MO) (t : TypeId) (ok : Bool) (zero : LV)
  | sst (a lo hi : MO)
  | bst (a : MO)
  | stk

structure MI where
  dst : Option Nat
  op : MOp
  g : Option (Nat × Bool)

/-- How an operation of a head comes: at any time, and looks at what was there (p); at any time, and makes the r-th new row (m); in its place, behind those that it waits for (r); so, and leaving no trace (q). -/
inductive Cls where
  | p
  | m (r : Nat)
  | r (w : List Nat)
  | q (w : List Nat)

inductive MC where
  | skip | ret
  | exit (id : Nat)
  | reg (hd tl : List MI)
  | seq (a b : MC)
  | cond (c : MO) (a b : MC)
  | block (id : Nat) (a : MC)
  | loop (fg : List Nat) (a : MC)
  | loopK (kp fg : List Nat) (a : MC)
  | loopN (fg : List Nat) (a : MC)
  | stuck
  | alt (a b : MC)
  | regS (bs : List (Nat × Nat × Nat)) (hd tl : List MI)
  | regM (hd : List (Cls × MI)) (tl : List MI)

inductive MR where
  | t (i : Nat)
  | cell (i : Nat) (n : Option Nat)

structure MF where
  np : Nat
  nt : Nat
  body : MC
  res : List MR

structure Row where
  ver : Nat
  cells : List LV

abbrev St := List LV × List Row

inductive Ex where
  | nrm | ret
  | exit (id : Nat)

/-! ### looking and writing -/

def getT : List LV → Nat → LV
  | [], _ => .bad
  | x :: _, 0 => x
  | _ :: l, n + 1 => getT l n

def setT : List LV → Nat → LV → List LV
  | [], _, _ => []
  | _ :: l, 0, y => y :: l
  | x :: l, n + 1, y => x :: setT l n y

def LV.cells : LV → List LV
  | .agg cs => cs
  | x => [x]

def atomB : LV → Bool
  | .v x => x.oneCell'
  | .agg _ => false
  | .tup _ => false
  | .bad => false
  | _ => true

mutual
def closed : LV → Bool
  | .v _ => true
  | .f _ cap => closedL cap
  | .im cs _ _ => closedL cs
  | .pi cs => closedL cs
  | .agg cs => closedL cs
  | .tup cs => closedL cs
  | .ifc _ x => closed x
  | _ => false
def closedL : List LV → Bool
  | [] => true
  | x :: l => closed x && closedL l
end

mutual
def flat : LV → Bool
  | .v _ => true
  | .f _ cap => flatL cap
  | .agg cs => flatL cs
  | .tup cs => flatL cs
  | .ifc _ x => flat x
  | _ => false
def flatL : List LV → Bool
  | [] => true
  | x :: l => flat x && flatL l
end

def rowOf (h : List Row) (k ver : Nat) : Option (List LV) :=
  match h[k]? with
  | some r => if r.ver = ver then some r.cells else none
  | none => none

mutual
/-- A slice of a row, as one that nobody writes. -/
def frz (h : List Row) : LV → LV
  | .sl k ver off len esz _ =>
    match rowOf h k ver with
    | some cs => if off + len * esz ≤ cs.length then .im ((cs.drop off).take (len * esz)) len false else .bad
    | none => .bad
  | .agg cs => .agg (frzL h cs)
  | .tup cs => .tup (frzL h cs)
  | .ifc t x => .ifc t (frz h x)
  | x => x
def frzL (h : List Row) : List LV → List LV
  | [] => []
  | x :: l => frz h x :: frzL h l
end

mutual
/-- What leads to rows from n on is forgotten. -/
def purge (n : Nat) : LV → LV
  | .p k ver off => if k < n then .p k ver off else .bad
  | .sl k ver off len esz cap => if k < n then .sl k ver off len esz cap else .bad
  | .f fn cap => .f fn (purgeL n cap)
  | .im cs len full => .im (purgeL n cs) len full
  | .pi cs => .pi (purgeL n cs)
  | .agg cs => .agg (purgeL n cs)
  | .tup cs => .tup (purgeL n cs)
  | .ifc t x => .ifc t (purge n x)
  | x => x
def purgeL (n : Nat) : List LV → List LV
  | [] => []
  | x :: l => purge n x :: purgeL n l
end

def rdAt (cs : List LV) (off : Nat) : Option Nat → Option LV
  | none => cs[off]?
  | some n => if off + n ≤ cs.length then some (.agg ((cs.drop off).take n)) else none

def putR (cs : List LV) (off : Nat) (xs : List LV) : List LV := cs.take off ++ xs ++ cs.drop (off + xs.length)

/-! ### operations -/

def ev (t : List LV) : MO → LV
  | .t i => getT t i
  | .c x => x

def evBin (op : BinOp) (k : IntKind) (a : Int) (k' : IntKind) (b : Int) : Option Value :=
  match op with
  | .shl => if b < 0 then none else some (.int k (k.wrap (a * 2 ^ (min b.toNat k.bits))))
  | .shr => if b < 0 then none else some (.int k (a.fdiv (2 ^ (min b.toNat k.bits))))
  | .add => if k = k' then some (.int k (k.wrap (a + b))) else none
  | .sub => if k = k' then some (.int k (k.wrap (a - b))) else none
  | .mul => if k = k' then some (.int k (k.wrap (a * b))) else none
  | .quo => if k = k' then (if b = 0 then none else some (.int k (k.wrap (a.tdiv b)))) else none
  | .rem => if k = k' then (if b = 0 then none else some (.int k (a.tmod b))) else none
  | .and => if k = k' then some (.int k (bits .and k a b)) else none
  | .or => if k = k' then some (.int k (bits .or k a b)) else none
  | .xor => if k = k' then some (.int k (bits .xor k a b)) else none
  | .andNot => if k = k' then some (.int k (bits .andNot k a b)) else none
  | .eql => if k = k' then some (.bool (decide (a = b))) else none
  | .neq => if k = k' then some (.bool (!decide (a = b))) else none
  | .lss => if k = k' then some (.bool (decide (a < b))) else none
  | .leq => if k = k' then some (.bool (decide (a ≤ b))) else none
  | .gtr => if k = k' then some (.bool (decide (b < a))) else none
  | .geq => if k = k' then some (.bool (decide (b ≤ a))) else none

def eqAtom : Kd → Value → Value → Option Bool
  | .i, .int k a, .int k' b => if k = k' then some (decide (a = b)) else none
  | .b, .bool a, .bool b => some (a == b)
  | .s, .string a, .string b => some (a == b)
  | _, _, _ => none

def eqCells : List Kd → List LV → List LV → Option Bool
  | [], [], [] => some true
  | k :: ks, .v x :: xs, .v y :: ys =>
    match eqAtom k x y, eqCells ks xs ys with
    | some a, some b => some (a && b)
    | _, _ => none
  | _, _, _ => none

/-- Is a slice (0), a function (1), an interface value (2) nil? -/
def nilQ : Nat → LV → Option Bool
  | 0, .v (.slice none 0 0) => some true
  | 0, .sl _ _ _ _ _ _ => some false
  | 0, .im _ _ _ => some false
  | 1, .v .nilFunc => some true
  | 1, .f _ _ => some false
  | 2, .v .nilIface => some true
  | 2, .ifc _ _ => some false
  | 3, .v (.pointer none) => some true
  | 3, .p _ _ _ => some false
  | 3, .pi _ => some false
  | _, _ => none

def evUn (op : UnOp) : LV → Option LV
  | .v (.int k n) =>
    match op with
    | .neg => some (.v (.int k (k.wrap (0 - n))))
    | .xor => some (.v (.int k (bits .xor k (if k.signed then -1 else k.max) n)))
    | _ => none
  | .v (.bool b) => match op with
    | .not => some (.v (.bool (!b)))
    | _ => none
  | _ => none

def fillP (t : List LV) (cs : List LV) : List (Nat × Nat × MO) → Option (List LV)
  | [] => some cs
  | (off, n, x) :: rest =>
    let xs := (ev t x).cells
    if xs.length = n ∧ off + n ≤ cs.length ∧ xs.all atomB = true then fillP t (putR cs off xs) rest else none

def repC (zero : List LV) : Nat → List LV
  | 0 => []
  | n + 1 => zero ++ repC zero n

def mmInt (isMax : Bool) : LV → List LV → Option LV
  | x, [] => some x
  | .v (.int k a), .v (.int _ b) :: rest => mmInt isMax (.v (.int k (if isMax then (if a < b then b else a) else (if b < a then b else a)))) rest
  | _, _ => none

/-- What is to be added to a slice: its cells, and how many things they are. -/
def newsE (h : List Row) (esz : Nat) : LV → Option (List LV × Nat)
  | .im new m _ => if new.length = m * esz ∧ new.all atomB = true then some (new, m) else none
  | .sl k ver off m e _ => match rowOf h k ver with
    | some cs => if e = esz ∧ off + m * esz ≤ cs.length ∧ ((cs.drop off).take (m * esz)).all atomB = true then some ((cs.drop off).take (m * esz), m) else none
    | none => none
  | .v (.slice none 0 0) => some ([], 0)
  | _ => none

/-- Something is added to a slice: a new row; the slice's own, where there is room; or its own in a new version. -/
def appE (lim : Nat) (h : List Row) (esz bytes : Nat) (new : List LV) (m : Nat) : LV → Option (LV × List Row)
  | .v (.slice none 0 0) => if m = 0 then some (.v (.slice none 0 0), h) else if m ≤ 9223372036854775807 ∧ m * bytes ≤ 140737488355328 then some (.sl h.length 0 0 m esz m, h ++ [⟨0, new⟩]) else none
  | .sl k ver off len e cap => if k < lim then none else match rowOf h k ver with
    | some cs => if e = esz ∧ len + m ≤ cap ∧ off + (len + m) * esz ≤ cs.length then some (.sl k ver off (len + m) esz cap, h.set k ⟨ver, putR cs (off + len * esz) new⟩)
      else if 0 < m ∧ off = 0 ∧ e = esz ∧ cs.length = len * esz ∧ len + m ≤ 9223372036854775807 ∧ (len + m) * bytes ≤ 140737488355328 then some (.sl k (ver + 1) 0 (len + m) esz (len + m), h.set k ⟨ver + 1, cs ++ new⟩) else none
    | none => none
  | .im cells len full => if m = 0 then some (.im cells len full, h) else if full = true ∧ cells.length = len * esz ∧ len + m ≤ 9223372036854775807 ∧ (len + m) * bytes ≤ 140737488355328 then some (.sl h.length 0 0 (len + m) esz (len + m), h ++ [⟨0, cells ++ new⟩]) else none
  | _ => none

/-- A slice's bound: what is given, or else what stands for it. -/
def bndE (t : List LV) : Option MO → Nat → Option Int
  | none, d => some d
  | some m, _ => match ev t m with
    | .v (.int _ j) => some j
    | _ => none

def maxE (t : List LV) : Option MO → Option (Option Int)
  | none => some none
  | some m => match ev t m with
    | .v (.int _ j) => some (some j)
    | _ => none

/-- A part of a slice. -/
def partE (h : List Row) (esz : Nat) (lv : LV) (lo hi : Int) (mx : Option Int) : Option LV :=
  match lv with
  | .sl k ver off _ e cap => match rowOf h k ver with
    | some _ => (match mx with
      | none => if e = esz ∧ 0 ≤ lo ∧ lo ≤ hi ∧ hi ≤ (cap : Int) then some (if lo = (cap : Int) then .im [] 0 false else .sl k ver (off + lo.toNat * esz) (hi.toNat - lo.toNat) esz (cap - lo.toNat)) else none
      | some m => if e = esz ∧ 0 ≤ lo ∧ lo ≤ hi ∧ hi ≤ m ∧ m ≤ (cap : Int) then some (if lo = m then .im [] 0 true else .sl k ver (off + lo.toNat * esz) (hi.toNat - lo.toNat) esz (m.toNat - lo.toNat)) else none)
    | none => none
  | .im cs len full => (match mx with
      | none => if 0 ≤ lo ∧ lo ≤ hi ∧ hi ≤ (len : Int) then some (if lo = hi then .im [] 0 false else .im ((cs.drop (lo.toNat * esz)).take ((hi.toNat - lo.toNat) * esz)) (hi.toNat - lo.toNat) (full && decide (hi = (len : Int)))) else none
      | some m => if 0 ≤ lo ∧ lo ≤ hi ∧ hi ≤ m ∧ m ≤ (len : Int) then some (if lo = hi then .im [] 0 (decide (m = hi)) else .im ((cs.drop (lo.toNat * esz)).take ((hi.toNat - lo.toNat) * esz)) (hi.toNat - lo.toNat) (decide (m = hi))) else none)
  | .v (.slice none 0 0) => if lo = 0 ∧ hi = 0 ∧ mx.getD 0 = 0 then some (.v (.slice none 0 0)) else none
  | _ => none

def lenN : LV → Nat
  | .sl _ _ _ len _ _ => len
  | .im _ len _ => len
  | _ => 0

/-- Bytes, out of cells. -/
def bytesE : List LV → Option (List Int)
  | [] => some []
  | .v (.int .u8 x) :: l => (bytesE l).map (x :: ·)
  | _ => none
def strE (ns : List Int) : ByteArray := ns.foldl (fun r n => r.push (UInt8.ofNat n.toNat)) ByteArray.empty


/-- An operation that calls nothing. -/
def evOp (op : MOp) (t : List LV) (h : List Row) (lim : Nat) : Option (LV × List Row) :=
  match op with
  | .mv a => some (ev t a, h)
  | .pick c a b => match ev t c with
    | .v (.bool q) => some (if q then ev t a else ev t b, h)
    | _ => none
  | .box a => if (ev t a).cells.all atomB then some (.p h.length 0 0, h ++ [⟨0, (ev t a).cells⟩]) else none
  | .ld a n => match ev t a with
    | .p k ver off => ((rowOf h k ver).bind fun cs => rdAt cs off n).map fun x => (x, h)
    | .pi cs => (rdAt cs 0 n).map fun x => (x, h)
    | _ => none
  | .st a b n => match ev t a with
    | .p k ver off => if k < lim then none else match rowOf h k ver with
      | some cs =>
        if (ev t b).cells.length = n ∧ off + n ≤ cs.length ∧ (ev t b).cells.all atomB = true then some (.u, h.set k ⟨ver, putR cs off (ev t b).cells⟩) else none
      | none => none
    | _ => none
  | .fa a o => match ev t a with
    | .p k ver off => some (.p k ver (off + o), h)
    | .pi cs => some (.pi (cs.drop o), h)
    | _ => none
  | .fld a o n => match ev t a with
    | .agg cs => (rdAt cs o n).map fun x => (x, h)
    | _ => none
  | .ixa a i len esz => match ev t a, ev t i with
    | .p k ver off, .v (.int _ n) => if 0 ≤ n ∧ n < (len : Int) then some (.p k ver (off + n.toNat * esz), h) else none
    | .pi cs, .v (.int _ n) => if 0 ≤ n ∧ n < (len : Int) then some (.pi (cs.drop (n.toNat * esz)), h) else none
    | _, _ => none
  | .ixs a i esz => match ev t a, ev t i with
    | .sl k ver off len e _, .v (.int _ n) => if e = esz ∧ 0 ≤ n ∧ n < (len : Int) then some (.p k ver (off + n.toNat * esz), h) else none
    | .im cs len _, .v (.int _ n) => if 0 ≤ n ∧ n < (len : Int) then some (.pi (cs.drop (n.toNat * esz)), h) else none
    | _, _ => none
  | .ix a i len esz n => match ev t a, ev t i with
    | .agg cs, .v (.int _ q) => if 0 ≤ q ∧ q < (len : Int) then (rdAt cs (q.toNat * esz) n).map fun x => (x, h) else none
    | _, _ => none
  | .bin o a b => match ev t a, ev t b with
    | .v (.int k x), .v (.int k' y) => (evBin o k x k' y).map fun r => (.v r, h)
    | _, _ => none
  | .eqv neg ag ks a b => match ev t a, ev t b with
    | .agg xs, .agg ys => if ag then (eqCells ks xs ys).map fun q => (.v (.bool (if neg then !q else q)), h) else none
    | x, y => if ag then none else (eqCells ks [x] [y]).map fun q => (.v (.bool (if neg then !q else q)), h)
  | .eqn neg nk a => (nilQ nk (ev t a)).map fun q => (.v (.bool (if neg then !q else q)), h)
  | .un o a => (evUn o (ev t a)).map fun x => (x, h)
  | .conv k a => match ev t a with
    | .v (.int _ n) => some (.v (.int k (k.wrap n)), h)
    | _ => none
  | .ext a i => match ev t a with
    | .tup cs => (cs[i]?).map fun x => (x, h)
    | _ => none
  | .bld zero parts => (fillP t zero parts).map fun cs => (.agg cs, h)
  | .bsl zero len parts => (fillP t (repC zero len) parts).map fun cs => (.im cs len true, h)
  | .mkf f caps => some (.f f (caps.map (ev t)), h)
  | .ifc ty a => some (.ifc ty (ev t a), h)
  | .nilc a => match ev t a with
    | .p k ver off => some (.p k ver off, h)
    | .pi cs => some (.pi cs, h)
    | .f fn cap => some (.f fn cap, h)
    | .ifc ty x => some (.ifc ty x, h)
    | _ => none
  | .len a => match ev t a with
    | .sl _ _ _ len _ _ => some (.i len, h)
    | .im _ len _ => some (.i len, h)
    | .v (.slice _ n _) => some (.i n, h)
    | _ => none
  | .lenS a => match ev t a with
    | .v (.string s) => some (.i s.size, h)
    | _ => none
  | .mm isMax args => match args.map (ev t) with
    | [] => none
    | x :: rest => (mmInt isMax x rest).map fun r => (r, h)
  | .app a b esz bytes => match newsE h esz (ev t b) with
    | some (new, m) => appE lim h esz bytes new m (ev t a)
    | none => none
  | .slc a lo hi mx esz => match bndE t lo 0, bndE t hi (lenN (ev t a)), maxE t mx with
    | some x, some y, some z => (partE h esz (ev t a) x y z).map fun z => (z, h)
    | _, _, _ => none
  | .sap a n => match ev t a with
    | .sl k ver off len _ _ => if n ≤ len then some (.p k ver off, h) else none
    | .im cs len _ => if n ≤ len then some (.pi cs, h) else none
    | _ => none
  | .mks a b zero esz bytes => match ev t a, ev t b with
    | .v (.int _ n), .v (.int _ m) => if n = m ∧ 0 ≤ n ∧ n ≤ 9223372036854775807 ∧ n.toNat * bytes ≤ 140737488355328 then some (.sl h.length 0 0 n.toNat esz n.toNat, h ++ [⟨0, repC zero n.toNat⟩]) else none
    | _, _ => none
  | .clr a zero esz => match ev t a with
    | .sl k ver off len e _ => if k < lim then none else match rowOf h k ver with
      | some cs => if e = esz ∧ off + len * esz ≤ cs.length ∧ zero.all atomB = true then some (.tup [], h.set k ⟨ver, putR cs off (repC zero len)⟩) else none
      | none => none
    | .v (.slice none 0 0) => some (.tup [], h)
    | .im _ 0 _ => some (.tup [], h)
    | _ => none
  | .inv _ _ _ => none
  | .tas a ty ok zero => match ev t a with
    | .v .nilIface => if ok then some (.tup [zero, .b false], h) else none
    | .ifc d x => if d = ty then some (if ok then .tup [x, .b true] else x, h) else if ok then some (.tup [zero, .b false], h) else none
    | _ => none
  | .sst a lo hi => match ev t a, ev t lo, ev t hi with
    | .v (.string s), .v (.int _ i), .v (.int _ j) => if 0 ≤ i ∧ i ≤ j ∧ j ≤ (s.size : Int) then some (.v (.string (s.extract i.toNat j.toNat)), h) else none
    | _, _, _ => none
  | .bst a => match ev t a with
    | .sl k ver off len e _ => match rowOf h k ver with
      | some cs => if e = 1 ∧ off + len ≤ cs.length then (bytesE ((cs.drop off).take len)).map fun ns => (.v (.string (strE ns)), h) else none
      | none => none
    | .v (.slice none 0 0) => some (.v (.string ⟨#[]⟩), h)
    | _ => none
  | .stk => none
  | .call _ _ => none

def quietOp : MOp → Bool
  | .box _ => false
  | .st _ _ _ => false
  | .app _ _ _ _ => false
  | .mks _ _ _ _ _ => false
  | .clr _ _ _ => false
  | .bst _ => false
  | _ => true

abbrev Callee := FuncId → List LV → List Row → Nat → Option (LV × List Row)

mutual
/-- The rows' numbers go up. -/
def shL (n : Nat) : LV → LV
  | .p k ver off => .p (n + k) ver off
  | .sl k ver off len esz cap => .sl (n + k) ver off len esz cap
  | .f fn cap => .f fn (shLs n cap)
  | .im cs len full => .im (shLs n cs) len full
  | .pi cs => .pi (shLs n cs)
  | .agg cs => .agg (shLs n cs)
  | .tup cs => .tup (shLs n cs)
  | .ifc t x => .ifc t (shL n x)
  | x => x
def shLs (n : Nat) : List LV → List LV
  | [] => []
  | x :: l => shL n x :: shLs n l
end
def shR (n : Nat) : List Row → List Row
  | [] => []
  | r :: h => ⟨r.ver, shLs n r.cells⟩ :: shR n h

mutual
/-- Nothing in it is a slice that nobody writes. -/
def noim : LV → Bool
  | .f _ cap => noimL cap
  | .im cs _ _ => cs.isEmpty
  | .pi cs => cs.isEmpty
  | .agg cs => noimL cs
  | .tup cs => noimL cs
  | .ifc _ x => noim x
  | _ => true
def noimL : List LV → Bool
  | [] => true
  | x :: l => noim x && noimL l
end
def noimR : List Row → Bool
  | [] => true
  | r :: h => noimL r.cells && noimR h

/-- A call by itself, in a heap of its own: its answer, and the rows that are new. -/
def isoE (cal : Callee) (h : List Row) (g : FuncId) (as : List LV) : Option (LV × List Row) :=
  if closedL as then
    match cal g as [] 0 with
    | some (r, h1) => if closed (frz h1 r) then some (frz h1 r, []) else some (shL h.length r, shR h.length h1)
    | none => none
  else if closedL (frzL h as) then
    match cal g (frzL h as) [] 0 with
    | some (r, h1) => if flat r then some (r, []) else if noim r && noimR h1 then some (shL h.length r, shR h.length h1) else none
    | none => none
  else none

/-- A call that leaves no trace. -/
def callQ (cal : Callee) (h : List Row) (g : FuncId) (as : List LV) : Option (LV × List Row) :=
  if closedL as then
    match cal g as [] 0 with
    | some (r, h') => if closed (frz h' r) then some (frz h' r, h) else none
    | none => none
  else if closedL (frzL h as) then
    match cal g (frzL h as) [] 0 with
    | some (r, _) => if flat r then some (r, h) else none
    | none => none
  else
    match cal g as h h.length with
    | some (r, _) => if flat r then some (r, h) else none
    | none => none

def callG (cal : Callee) (quiet : Bool) (lim : Nat) (h : List Row) (g : FuncId) (as : List LV) : Option (LV × List Row) :=
  if quiet then callQ cal h g as
  else match isoE cal h g as with
    | some (r, rows) => some (r, h ++ rows)
    | none => cal g as h lim

def evCall (cal : Callee) (quiet : Bool) (lim : Nat) (t : List LV) (h : List Row) (f : MO) (args : List MO) : Option (LV × List Row) :=
  match ev t f with
  | .f g cap => callG cal quiet lim h g (args.map (ev t) ++ cap)
  | _ => none

def lookT : List (TypeId × FuncId) → TypeId → Option FuncId
  | [], _ => none
  | (a, f) :: l, t => if a = t then some f else lookT l t

/-- A method is called, of what an interface value holds. -/
def evInv (cal : Callee) (quiet : Bool) (lim : Nat) (t : List LV) (h : List Row) (tab : List (TypeId × FuncId)) (a : MO) (args : List MO) : Option (LV × List Row) :=
  match ev t a with
  | .ifc d x => match lookT tab d with
    | some g => callG cal quiet lim h g (x :: args.map (ev t))
    | none => none
  | _ => none

def evAny (cal : Callee) (quiet : Bool) (lim : Nat) (op : MOp) (t : List LV) (h : List Row) : Option (LV × List Row) :=
  match op with
  | .call f args => evCall cal quiet lim t h f args
  | .inv tab a args => evInv cal quiet lim t h tab a args
  | op => evOp op t h lim

def putD (d : Option Nat) (t : List LV) (x : LV) : List LV :=
  match d with
  | some d => setT t d x
  | none => t

/-- Is the operation wanted? -/
def wantB (t : List LV) : Option (Nat × Bool) → Option Bool
  | none => some true
  | some (g, want) => match getT t g with
    | .v (.bool q) => some (q == want)
    | .v _ => some false
    | _ => none

def evMI (cal : Callee) (quiet : Bool) (lim : Nat) (m : MI) (s : St) : Option St :=
  match wantB s.1 m.g with
  | some true => match evAny cal quiet lim m.op s.1 s.2 with
    | some (x, h) => some (putD m.dst s.1 x, h)
    | none => none
  | some false => some (putD m.dst s.1 .u, s.2)
  | none => none

def evOps (cal : Callee) (quiet : Bool) (lim : Nat) : List MI → St → Option St
  | [], s => some s
  | m :: l, s => match evMI cal quiet lim m s with
    | some s' => evOps cal quiet lim l s'
    | none => none

def forget : List Nat → List LV → List LV
  | [], t => t
  | d :: l, t => forget l (setT t d .bad)

def clean (fg : List Nat) (n lim : Nat) (s : St) : St :=
  if lim = 0 ∧ n < s.2.length then (purgeL n (forget fg s.1), (s.2.take n).map fun r => ⟨r.ver, purgeL n r.cells⟩)
  else (forget fg s.1, s.2)

/-- Where a row is among those that are kept. -/
def posn : List Nat → Nat → Option Nat
  | [], _ => none
  | x :: K, k => if x = k then some 0 else (posn K k).map (· + 1)

mutual
/-- What leads to rows from n on is forgotten, but for slices of rows that are kept. -/
def kpurge (n : Nat) (K : List Nat) : LV → LV
  | .p k ver off => if k < n then .p k ver off else .bad
  | .sl k ver off len esz cap => if k < n then .sl k ver off len esz cap else match posn K k with
    | some j => .sl (n + j) ver off len esz cap
    | none => .bad
  | .f fn cap => .f fn (kpurgeL n K cap)
  | .im cs len full => .im (kpurgeL n K cs) len full
  | .pi cs => .pi (kpurgeL n K cs)
  | .agg cs => .agg (kpurgeL n K cs)
  | .tup cs => .tup (kpurgeL n K cs)
  | .ifc t x => .ifc t (kpurge n K x)
  | x => x
def kpurgeL (n : Nat) (K : List Nat) : List LV → List LV
  | [] => []
  | x :: l => kpurge n K x :: kpurgeL n K l
end

/-- The rows of slices. -/
def srefs : LV → List Nat
  | .sl k _ _ _ _ _ => [k]
  | _ => []
def srefsL : List LV → List Nat
  | [] => []
  | x :: l => srefs x ++ srefsL l
def trefs : List Nat → List LV → List Nat
  | [], _ => []
  | d :: kp, t => srefs (getT t d) ++ trefs kp t
def rrefs : List Row → List Nat
  | [] => []
  | r :: h => srefsL r.cells ++ rrefs h
def memN : List Nat → Nat → Bool
  | [], _ => false
  | x :: l, k => decide (x = k) || memN l k
/-- Of the j rows from n on those that are in S. -/
def keepK (n : Nat) (S : List Nat) : Nat → List Nat
  | 0 => []
  | j + 1 => keepK n S j ++ (if memN S (n + j) then [n + j] else [])

def rowK (n : Nat) (K : List Nat) (h : List Row) (k : Nat) : Row := match h[k]? with
  | some r => ⟨r.ver, kpurgeL n K r.cells⟩
  | none => ⟨0, []⟩

def cleanS (n : Nat) (K : List Nat) (t : List LV) (h : List Row) : St := (kpurgeL n K t, (h.take n).map (fun r => ⟨r.ver, kpurgeL n K r.cells⟩) ++ K.map (rowK n K h))

def cleanK (kp fg : List Nat) (n lim : Nat) (s : St) : St :=
  if lim = 0 ∧ n < s.2.length then cleanS n (keepK n (trefs kp (forget fg s.1) ++ rrefs (s.2.take n)) (s.2.length - n)) (forget fg s.1) s.2
  else (forget fg s.1, s.2)

def cleanN (fg : List Nat) (s : St) : St := (forget fg s.1, s.2)

def iter (f : St → Option (Ex × St)) (cl : St → St) : Nat → St → Option (Ex × St)
  | 0, _ => none
  | n + 1, s => match f (cl s) with
    | some (.nrm, s') => iter f cl n s'
    | some (.ret, s') => some (.ret, s')
    | some (.exit i, s') => some (.exit i, s')
    | none => none

/-- Is a cell one of these (a row, from where on, how many; 0: all of the row)? -/
def inP : List (Nat × Nat × Nat) → Nat → Nat → Bool
  | [], _, _ => false
  | (r, o, n) :: ps, k, i => (decide (r = k) && (decide (n = 0) || (decide (o ≤ i) && decide (i < o + n)))) || inP ps k i
def inPs (ps : List (Nat × Nat × Nat)) (k : Nat) : Nat → Nat → Bool
  | _, 0 => true
  | o, n + 1 => inP ps k o && inPs ps k (o + 1) n
/-- A row's cells with nothing known of these. -/
def poisC (ps : List (Nat × Nat × Nat)) (k : Nat) : Nat → List LV → List LV
  | _, [] => []
  | i, c :: cs => (if inP ps k i then .bad else c) :: poisC ps k (i + 1) cs
def poisA (ps : List (Nat × Nat × Nat)) : Nat → List Row → List Row
  | _, [] => []
  | k, r :: h => ⟨r.ver, poisC ps k 0 r.cells⟩ :: poisA ps (k + 1) h

/-- The cells that these lead to. -/
def rowsP : List (LV × Nat × Nat) → List (Nat × Nat × Nat)
  | [] => []
  | (.p r _ b, o, n) :: l => (r, b + o, n) :: rowsP l
  | _ :: l => rowsP l
def lookP (t : List LV) (bs : List (Nat × Nat × Nat)) : List (LV × Nat × Nat) := bs.map fun b => (getT t b.1, b.2)

def isSt (m : MI) : Bool := match m.op with | .st _ _ _ => true | _ => false

/-- Is what is stored into one of these cells? -/
def stIn (ps : List (Nat × Nat × Nat)) (t : List LV) (m : MI) : Bool := match m.op with
  | .st x _ n => (match ev t x with | .p r _ o => inPs ps r o n | _ => false)
  | _ => false

/-- Operations in whatever order, of which some store: the others know nothing of the rows that are stored into. -/
def evHS (cal : Callee) (lim : Nat) (ps : List (Nat × Nat × Nat)) (hp : List Row) : List MI → St → Option St
  | [], s => some s
  | m :: l, s => if isSt m then
      (if stIn ps s.1 m then (match evMI cal false lim m s with
        | some s' => evHS cal lim ps hp l s'
        | none => none) else none)
    else match evMI cal true lim m (s.1, hp) with
      | some s' => evHS cal lim ps hp l (s'.1, s.2)
      | none => none

/-- The rows that a quiet operation looks at. -/
def rdsMI (op : MOp) (t : List LV) : Option (List Nat) :=
  match op with
  | .ld a _ => (match ev t a with | .p k _ _ => some [k] | _ => some [])
  | .slc a _ _ _ _ => (match ev t a with | .sl k _ _ _ _ _ => some [k] | _ => some [])
  | .call f args => (match ev t f with | .f _ cap => if closedL (args.map (ev t) ++ cap) then some [] else none | _ => none)
  | .inv _ a args => (match ev t a with | .ifc _ x => if closedL (x :: args.map (ev t)) then some [] else none | _ => none)
  | op => if quietOp op then some [] else none

/-- The rows that an operation may write. -/
def mutsMI (cal : Callee) (h : List Row) (op : MOp) (t : List LV) : Option (List Nat) :=
  match op with
  | .st a _ _ => (match ev t a with | .p k _ _ => some [k] | _ => some [])
  | .app a _ _ _ => (match ev t a with | .sl k _ _ _ _ _ => some [k] | _ => some [])
  | .clr a _ _ => (match ev t a with | .sl k _ _ _ _ _ => some [k] | _ => some [])
  | .call f args => (match ev t f with | .f g cap => (match isoE cal h g (args.map (ev t) ++ cap) with | some _ => some [] | none => none) | _ => none)
  | .inv tab a args => (match ev t a with | .ifc d x => (match lookT tab d with | some g => (match isoE cal h g (x :: args.map (ev t)) with | some _ => some [] | none => none) | none => none) | _ => none)
  | _ => some []

/-- A slice is made, as the r-th new row. -/
def evMk (n0 r : Nat) (m : MI) (s : St) : Option St :=
  match m with
  | ⟨some d, .mks a b z esz bytes, none⟩ => (match ev s.1 a, ev s.1 b with
    | .v (.int _ n), .v (.int _ n') => if n = n' ∧ 0 ≤ n ∧ n ≤ 9223372036854775807 ∧ n.toNat * bytes ≤ 140737488355328 then some (setT s.1 d (.sl (n0 + r) 0 0 n.toNat esz n.toNat), s.2.set (n0 + r) ⟨0, repC z n.toNat⟩) else none
    | _, _ => none)
  | _ => none

abbrev LogR := List (Nat × List Nat)
abbrev LogM := List (List Nat × Option (List Nat) × List Row × List Row)

/-- Values that are surely the same. -/
def eqV : Value → Value → Bool
  | .int k n, .int k' n' => decide (k = k') && decide (n = n')
  | .bool a, .bool b => a == b
  | .string a, .string b => decide (a.data = b.data)
  | .pointer none, .pointer none => true
  | .slice none l c, .slice none l' c' => decide (l = l') && decide (c = c')
  | .map none, .map none => true
  | .nilFunc, .nilFunc => true
  | .nilIface, .nilIface => true
  | .tuple a, .tuple b => a.isEmpty && b.isEmpty
  | _, _ => false
mutual
def eqLV : LV → LV → Bool
  | .v x, .v y => eqV x y
  | .p k v o, .p k' v' o' => decide (k = k') && decide (v = v') && decide (o = o')
  | .f g c, .f g' c' => decide (g = g') && eqLs c c'
  | .sl k v o l e c, .sl k' v' o' l' e' c' => decide (k = k') && decide (v = v') && decide (o = o') && decide (l = l') && decide (e = e') && decide (c = c')
  | .im c l b, .im c' l' b' => eqLs c c' && decide (l = l') && (b == b')
  | .pi c, .pi c' => eqLs c c'
  | .agg c, .agg c' => eqLs c c'
  | .tup c, .tup c' => eqLs c c'
  | .ifc t x, .ifc t' x' => decide (t = t') && eqLV x x'
  | .bad, .bad => true
  | _, _ => false
def eqLs : List LV → List LV → Bool
  | [], [] => true
  | x :: l, y :: m => eqLV x y && eqLs l m
  | _, _ => false
end
/-- Is a row the same in two heaps? -/
def turnK (h h' : List Row) (k : Nat) : Bool := match h[k]?, h'[k]? with
  | some r, some r' => decide (r.ver = r'.ver) && eqLs r.cells r'.cells
  | _, _ => false

def evHM (cal : Callee) (lim : Nat) (h0 : List Row) : Nat → List (Cls × MI) → St → Option (St × LogR × LogM)
  | _, [], s => some (s, [], [])
  | i, (.p, m) :: l, s => (match evMI cal true lim m (s.1, h0) with
    | some s' => (match rdsMI m.op s.1 with
      | some ks => (match evHM cal lim h0 (i + 1) l (s'.1, s.2) with
        | some (z, rs, ms) => some (z, (i, ks) :: rs, ms)
        | none => none)
      | none => none)
    | none => none)
  | i, (.m r, m) :: l, s => (match evMk h0.length r m s with
    | some s' => (match evHM cal lim h0 (i + 1) l s' with
      | some (z, rs, ms) => some (z, (i, [h0.length + r]) :: rs, ms)
      | none => none)
    | none => none)
  | i, (.q _, m) :: l, s => (match evMI cal true lim m s with
    | some s' => evHM cal lim h0 (i + 1) l (s'.1, s.2)
    | none => none)
  | i, (.r w, m) :: l, s => (match evMI cal false lim m s with
    | some s' => (match evHM cal lim h0 (i + 1) l s' with
      | some (z, rs, ms) => some (z, rs, (w, mutsMI cal s.2 m.op s.1, s.2, s'.2) :: ms)
      | none => none)
    | none => none)

def disj : List Nat → List Nat → Bool
  | [], _ => true
  | k :: l, ms => !memN ms k && disj l ms

/-- Whoever may write what another one looks at waits for it. -/
def okRM1 (w : List Nat) (ms : Option (List Nat)) (h h' : List Row) : LogR → Bool
  | [] => true
  | (i, ks) :: rs => (memN w i || (match ms with | some ms => disj ks ms | none => ks.all (turnK h h'))) && okRM1 w ms h h' rs
def okRM (rs : LogR) : LogM → Bool
  | [] => true
  | (w, ms, h, h') :: l => okRM1 w ms h h' rs && okRM rs l

def cntM : List (Cls × MI) → Nat
  | [] => 0
  | (.m _, _) :: l => cntM l + 1
  | _ :: l => cntM l

def evCode (cal : Callee) (n lim : Nat) : MC → St → Option (Ex × St)
  | .skip, s => some (.nrm, s)
  | .ret, s => some (.ret, s)
  | .exit i, s => some (.exit i, s)
  | .reg hd tl, s => match evOps cal true lim hd s with
    | some s' => match evOps cal false lim tl s' with
      | some s'' => some (.nrm, s'')
      | none => none
    | none => none
  | .seq a b, s => match evCode cal n lim a s with
    | some (.nrm, s') => evCode cal n lim b s'
    | some (.ret, s') => some (.ret, s')
    | some (.exit i, s') => some (.exit i, s')
    | none => none
  | .cond c a b, s => match ev s.1 c with
    | .v (.bool q) => if q then evCode cal n lim a s else evCode cal n lim b s
    | _ => none
  | .block id a, s => match evCode cal n lim a s with
    | some (.nrm, s') => some (.nrm, s')
    | some (.ret, s') => some (.ret, s')
    | some (.exit i, s') => if i = id then some (.nrm, s') else some (.exit i, s')
    | none => none
  | .loop fg a, s => iter (evCode cal n lim a) (clean fg s.2.length lim) n s
  | .loopK kp fg a, s => iter (evCode cal n lim a) (cleanK kp fg s.2.length lim) n s
  | .loopN fg a, s => iter (evCode cal n lim a) (cleanN fg) n s
  | .stuck, _ => none
  | .alt a b, s => match evCode cal n lim a s with
    | some r => some r
    | none => evCode cal n lim b s
  | .regM hd tl, s => match evHM cal lim s.2 0 hd (s.1, s.2 ++ List.replicate (cntM hd) ⟨0, []⟩) with
    | some (s', rs, ms) => if okRM rs ms then (match evOps cal false lim tl s' with
      | some s'' => some (.nrm, s'')
      | none => none) else none
    | none => none
  | .regS bs hd tl, s => match evHS cal lim (rowsP (lookP s.1 bs)) (poisA (rowsP (lookP s.1 bs)) 0 s.2) hd s with
    | some s' => match evOps cal false lim tl s' with
      | some s'' => some (.nrm, s'')
      | none => none
    | none => none

def evRes (t : List LV) (h : List Row) : List MR → Option (List LV)
  | [] => some []
  | .t i :: l => match evRes t h l with
    | some r => some (getT t i :: r)
    | none => none
  | .cell i n :: l => match getT t i, evRes t h l with
    | .p k ver off, some r => match (rowOf h k ver).bind fun cs => rdAt cs off n with
      | some x => some (x :: r)
      | none => none
    | _, _ => none

def tupOf : List LV → LV
  | [x] => x
  | l => .tup l

def runF (cal : Callee) (n lim : Nat) (m : MF) (args : List LV) (h : List Row) : Option (LV × List Row) :=
  if args.length = m.np then
    match evCode cal n lim m.body (args ++ List.replicate (m.nt - m.np) .u, h) with
    | some (.nrm, s) => (evRes s.1 s.2 m.res).map fun r => (tupOf r, s.2)
    | some (.ret, s) => (evRes s.1 s.2 m.res).map fun r => (tupOf r, s.2)
    | _ => none
  else none

/-- What stands in a table of functions: resolved code (n); the same, which is run in the heap of the one who calls, never in one of its own (s); an answer that is shown right elsewhere (o). -/
inductive ME where
  | n (m : MF)
  | s (m : MF)
  | o (f : List LV → List Row → Nat → Option (LV × List Row))

def evF (cm : FuncId → Option ME) : Nat → Callee
  | 0 => fun _ _ _ _ => none
  | n + 1 => fun g args h lim => match cm g with
    | some (.n m) => runF (evF cm n) n lim m args h
    | some (.s m) => if h.isEmpty then none else runF (evF cm n) n lim m args h
    | some (.o f) => f args h lim
    | none => none

/-! ### from the program's code -/

def sizeT (P : Program) (t : TypeId) : Option Nat := (P.info? t).map (·.size)

/-- How a variable of a type is read: one cell; so many. -/
def shapeT (P : Program) (t : TypeId) : Option (Option Nat) :=
  match P.underlying t with
  | some (.struct _) => (sizeT P t).map some
  | some (.array _ _) => (sizeT P t).map some
  | some _ => if sizeT P t = some 1 then some none else none
  | none => none

def cO : Operand → Option MO
  | .tmp i => some (.t i)
  | .const (.agg _) => none
  | .const (.tuple _) => none
  | .const v => some (.c (.v v))
  | .func g => some (.c (.f g []))
  | .global _ => none


def liftV : Value → LV
  | .agg us => .agg (us.toList.map .v)
  | x => .v x

def zeroT (P : Program) (t : TypeId) : Option LV := (P.info? t).bind fun i => i.zero.map liftV

def mapO {α β : Type} (f : α → Option β) : List α → Option (List β)
  | [] => some []
  | x :: l => match f x, mapO f l with
    | some y, some m => some (y :: m)
    | _, _ => none

def kindsF (P : Program) (K : TypeId → Option (List Kd)) : Nat → List Field → Option (List Kd)
  | _, [] => some []
  | off, f :: fs => match K f.type with
    | some l => if f.name ≠ "_" ∧ f.offset = off ∧ sizeT P f.type = some l.length then
        match kindsF P K (off + l.length) fs with
        | some m => some (l ++ m)
        | none => none
      else none
    | none => none

/-- The kinds of a type's cells, if two values of it are held against one another cell by cell. -/
def kindsT (P : Program) : Nat → TypeId → Option (List Kd)
  | 0, _ => none
  | d + 1, t => match P.underlying t with
    | some .bool => some [.b]
    | some (.int _) => some [.i]
    | some .string => some [.s]
    | some (.struct fs) => if P.stoodInHeld t = false then kindsF P (kindsT P d) 0 fs.toList else none
    | some (.array n e) => match kindsT P d e with
      | some l => if sizeT P e = some l.length then some (List.replicate n l).flatten else none
      | none => none
    | _ => none

/-- A type whose values are held against nil alone. -/
def nilT (P : Program) (t : TypeId) : Option Nat :=
  match P.underlying t with
  | some (.slice _) => some 0
  | some (.func _ _ _) => some 1
  | some (.interface _) => some 2
  | some (.pointer _) => some 3
  | _ => none

def cOs (l : List Operand) : Option (List MO) := mapO cO l

def isNilC : Nat → Operand → Bool
  | 0, .const (.slice none 0 0) => true
  | 1, .const .nilFunc => true
  | 2, .const .nilIface => true
  | 3, .const (.pointer none) => true
  | _, _ => false

def placeP (pl : List (Nat × Nat)) (p : Nat × Operand) : Option (Nat × Nat × MO) :=
  match pl[p.1]?, cO p.2 with
  | some q, some x => some (q.1, q.2, x)
  | _, _ => none

def fieldsP (P : Program) (fs : List Field) : Option (List (Nat × Nat)) := mapO (fun f => (sizeT P f.type).map fun n => (f.offset, n)) fs

def placeE (esz : Nat) (p : Nat × Operand) : Option (Nat × Nat × MO) :=
  match cO p.2 with
  | some x => some (p.1 * esz, esz, x)
  | none => none

def cEq (P : Program) (neg : Bool) (t : TypeId) (x y : Operand) : Option MOp :=
  match kindsT P 50 t with
  | some ks => if P.eqGuardType P.depth t = false ∧ sizeT P t = some ks.length then (match cO x, cO y, shapeT P t with | some a, some b, some n => some (.eqv neg n.isSome ks a b) | _, _, _ => none) else none
  | none => match nilT P t with
    | some nk => if isNilC nk y then (cO x).map (.eqn neg nk) else if isNilC nk x then (cO y).map (.eqn neg nk) else none
    | none => none

def cOo : Option Operand → Option (Option MO)
  | none => some none
  | some x => (cO x).map some

def cApp (P : Program) (c : Call) : Option MOp :=
  match c.args.toList, c.argTypes.toList with
  | [x, y], [ty, ty'] => if ty = ty' then (match P.underlying ty with
    | some (.slice e) => (match P.info? e with
      | some i => (match i.zero with
        | some z => if z.cells.size = i.size ∧ 0 < i.size then (match cO x, cO y with | some a, some b => some (.app a b i.size i.bytes) | _, _ => none) else none
        | none => none)
      | none => none)
    | _ => none) else none
  | _, _ => none

/-- The method of a type that goes by a name, if its receiver is just what an interface value holds. -/
def mtab1 (P : Program) (name : String) (t : TypeId) : Option FuncId :=
  match P.info? t with
  | some i => match i.methods.find? (·.name == name) with
    | some m => if m.path.isEmpty then (match m.func, P.underlying t with
      | some (f, pr), some (.pointer _) => if pr then some f else none
      | some (f, pr), some _ => if pr then none else some f
      | _, _ => none) else none
    | none => none
  | none => none

def mtab (P : Program) (name : String) : List (TypeId × FuncId) := (List.range P.types.size).filterMap fun t => (mtab1 P name t).map fun f => (t, f)

def cOp0 (P : Program) (o : Oper) : Option MOp :=
  match o.op with
  | .move x => (cO x).map .mv
  | .assign x => (cO x).map .mv
  | .pick c a b => do pure (.pick (← cO c) (← cO a) (← cO b))
  | .alloc t => (zeroT P t).map fun z => .box (.c z)
  | .box _ x => (cO x).map .box
  | .build t ps => match P.underlying t with
    | some (.struct fs) => match zeroT P t, fieldsP P fs.toList with
      | some z, some pl => (mapO (placeP pl) ps.toList).map (.bld z.cells)
      | _, _ => none
    | some (.array _ e) => match zeroT P t, sizeT P e with
      | some z, some n => (mapO (placeE n) ps.toList).map (.bld z.cells)
      | _, _ => none
    | _ => none
  | .buildSlice t len ps => match P.underlying t with
    | some (.slice e) => match zeroT P e, sizeT P e with
      | some z, some n => if z.cells.length = n ∧ 0 < n ∧ len * n ≤ 2 ^ 24 then (mapO (placeE n) ps.toList).map (.bsl z.cells len) else none
      | _, _ => none
    | _ => none
  | .load t a => do pure (.ld (← cO a) (← shapeT P t))
  | .store t a x => do pure (.st (← cO a) (← cO x) (← sizeT P t))
  | .nilCheck x => (cO x).map .nilc
  | .fieldAddr s x i => match P.underlying s with
    | some (.struct fs) => do
      let f ← fs[i]?
      if (← sizeT P f.type) = 0 then none else pure (.fa (← cO x) f.offset)
    | _ => none
  | .field s x i => match P.underlying s with
    | some (.struct fs) => do
      let f ← fs[i]?
      pure (.fld (← cO x) f.offset (← shapeT P f.type))
    | _ => none
  | .indexAddr t x i => match P.underlying t with
    | some (.array n e) => do pure (.ixa (← cO x) (← cO i) n (← sizeT P e))
    | some (.slice e) => do pure (.ixs (← cO x) (← cO i) (← sizeT P e))
    | _ => none
  | .index t x i => match P.underlying t with
    | some (.array n e) => do pure (.ix (← cO x) (← cO i) n (← sizeT P e) (← shapeT P e))
    | _ => none
  | .binOp op t x y _ => match P.underlying t with
    | some (.int _) => do pure (.bin op (← cO x) (← cO y))
    | _ => match op with
      | .eql => cEq P false t x y
      | .neq => cEq P true t x y
      | _ => none
  | .unOp op _ x => (cO x).map (.un op)
  | .convert s d x => match P.underlying s, P.underlying d with
    | some (.int _), some (.int k) => (cO x).map (.conv k)
    | some (.slice e), some .string => (match P.underlying e with
      | some (.int .u8) => (cO x).map .bst
      | _ => none)
    | _, _ => none
  | .extract x i => (cO x).map (.ext · i)
  | .slice ty x lo hi mx => match P.underlying ty with
    | some (.slice e) => if hi.isNone && mx.isSome then none else do pure (.slc (← cO x) (← cOo lo) (← cOo hi) (← cOo mx) (← sizeT P e))
    | some .string => (match lo, hi, mx with
      | some l, some g, none => do pure (.sst (← cO x) (← cO l) (← cO g))
      | _, _, _ => none)
    | _ => none
  | .sliceToArrayPointer arr x => match P.underlying arr with
    | some (.array n _) => (cO x).map (.sap · n)
    | _ => none
  | .makeSlice ty l c => match P.underlying ty with
    | some (.slice e) => (match zeroT P e, P.info? e with
      | some z, some i => if z.cells.length = i.size ∧ 0 < i.size then (match cO l, cO c with | some a, some b => some (.mks a b z.cells i.size i.bytes) | _, _ => none) else none
      | _, _ => none)
    | _ => none
  | .makeFunc (.func f) first cap => if first.isEmpty then (cOs cap.toList).map (.mkf f) else none
  | .makeInterface t x => match P.underlying t with
    | some (.interface _) => none
    | some _ => (cO x).map (.ifc t)
    | none => none
  | .call c => match c.callee with
    | .value f => do pure (.call (← cO f) (← cOs c.args.toList))
    | .invoke r name => do pure (.inv (mtab P name) (← cO r) (← cOs c.args.toList))
    | .builtin .len => match c.args.toList, (c.argTypes[0]?).bind P.underlying with
      | [x], some .string => (cO x).map .lenS
      | [x], some (.slice _) => (cO x).map .len
      | _, _ => none
    | .builtin .append => cApp P c
    | .builtin .clear => match c.args.toList, (c.argTypes[0]?).bind P.underlying with
      | [x], some (.slice e) => (match zeroT P e, sizeT P e with
        | some z, some n => if z.cells.length = n ∧ 0 < n then (cO x).map fun a => .clr a z.cells n else none
        | _, _ => none)
      | _, _ => none
    | .builtin .max => (cOs c.args.toList).map (.mm true)
    | .builtin .min => (cOs c.args.toList).map (.mm false)
    | _ => none
  | .typeAssert x _ ty ok => match P.underlying ty with
    | some (.interface _) => none
    | some _ => (match zeroT P ty with
      | some z => (cO x).map fun a => .tas a ty ok z
      | none => none)
    | none => none
  | _ => none

/-- An operation; one that we do not know leads nowhere. -/
def cOp (P : Program) (o : Oper) : Option MOp := some ((cOp0 P o).getD .stk)

def cI (P : Program) (ops : Array Oper) (o : Oper) : Option MI := do
  let op ← cOp P o
  match o.guard with
  | none => pure ⟨o.dst, op, none⟩
  | some (g, want) => match (ops[g]?).bind (·.dst) with
    | some d => pure ⟨o.dst, op, some (d, want)⟩
    | none => none

/-- Operation i waits for operation j. -/
def waitsB (o : Oper) (j : Nat) : Bool := o.after.any fun e => Region.binds .any e && e.on == j

def afters (o : Oper) : List Nat := (o.after.toList.filter (Region.binds .any)).map (·.on)

def reachStep (ops : Array Oper) (j : Nat) (S : List Nat) : List Nat := if S.contains j then (match ops[j]? with | some o => afters o ++ S | none => S) else S

/-- What operation i waits for, directly or through others. -/
def reach (ops : Array Oper) (i : Nat) : List Nat :=
  (List.range i).foldr (reachStep ops) (match ops[i]? with | some o => afters o | none => [])

/-- What is reckoned of a region: every operation waits for earlier ones alone; among the first n: what one writes and another looks at is ordered between the two, no two write one place; the next one waits for all of them, each of the others for the one ahead of it. -/
def flowB (ops : Array Oper) (n : Nat) : Bool :=
  ((List.range ops.size).all fun i => match ops[i]? with
    | some o => o.after.all (fun e => !Region.binds .any e || decide (e.on < i)) && (match o.op with | .select _ _ => false | _ => true) &&
      (decide (i ≤ n) || waitsB o (i - 1)) && (decide (i ≠ n) || (List.range n).all fun j => (reach ops n).contains j)
    | none => true) &&
  ((List.range n).all fun i => (List.range n).all fun j => match ops[i]?, ops[j]? with
    | some x, some y =>
      (match y.dst with
      | some t => (!(x.looksAt ops).contains t || decide (i = j) || (decide (j < i) && waitsB x j) || (decide (i < j) && waitsB y i)) && (decide (i = j) || x.dst != some t)
      | none => true)
    | _, _ => true)

/-- How many operations come in whatever order. -/
def headN (ops : Array Oper) : Nat :=
  ((List.range (ops.size + 1)).find? fun n => (List.range ops.size).all fun i => decide (i < n) || (if i = n then (List.range n).all fun j => (reach ops n).contains j else (match ops[i]? with | some o => waitsB o (i - 1) | none => true))).getD ops.size

/-- A new variable. -/
def ghostZ (m : MI) : Option LV := match m.op, m.dst, m.g with
  | .box (.c z), some _, none => if z.cells.all atomB then some z else none
  | _, _, _ => none
def ghostB (m : MI) : Bool := (ghostZ m).isSome

/-- A store of a value into what a temporary points to. -/
def gstZ (m : MI) : Option (Nat × MO × Nat) := match m.op, m.dst, m.g with
  | .st (.t d) b n, none, none => some (d, b, n)
  | _, _, _ => none

/-- Does operation i make the variable of n cells that d points to? -/
def gdefB (ms : List MI) (i d n : Nat) : Bool := match ms[i]? with
  | some m => m.dst == some d && (match ghostZ m with | some z => decide (z.cells.length = n) | none => false)
  | none => false

/-- Is operation j among the first n the one store into a new variable of theirs, of a value that stays? -/
def gstB (ms : List MI) (n j : Nat) : Bool := match (ms[j]?).bind gstZ with
  | some (d, b, sz) => ((List.range j).any fun i => gdefB ms i d sz) &&
    ((List.range n).all fun i => decide (i = j) || (match (ms[i]?).bind gstZ with | some (d', _, _) => d' != d | none => true)) &&
    (match b with
      | .t e => (List.range n).all fun i => match ms[i]? with | some m => m.dst != some e || (decide (i < j) && !ghostB m) | none => true
      | .c _ => true)
  | none => false

def gstL (ms : List MI) (n : Nat) : List Bool := (List.range n).map (gstB ms n)

/-- The one store into what d points to. -/
def gfind (ms : List MI) (n d : Nat) : Option Nat := (List.range n).find? fun j => gstB ms n j && (match (ms[j]?).bind gstZ with | some (d', _, _) => d' == d | none => false)

/-- What a new variable holds behind the first n operations. -/
def gval (ms : List MI) (n d : Nat) (z : LV) : MO := match gfind ms n d with
  | some j => (match (ms[j]?).bind gstZ with | some (_, b, _) => b | none => .c z)
  | none => .c z

/-- A new variable, and a store into one, are put off; what is stored is looked at. -/
def hide (b : Bool) (m : MI) : MI := if ghostB m then ⟨m.dst, .mv (.c .bad), none⟩ else if b then (match gstZ m with
    | some (_, x, sz) => ⟨none, .bld (repC [.u] sz) [(0, sz, x)], none⟩
    | none => m) else m

def ghostG (m : MI) : Option (Nat × LV) := match ghostZ m, m.dst with | some z, some d => some (d, z) | _, _ => none

def ghosts (ms : List MI) (n : Nat) : List MI :=
  ((List.range n).filterMap fun i => ((ms[i]?).bind ghostG).map fun g => (⟨some g.1, .box (gval ms n g.1 g.2), none⟩ : MI)) ++
  ((List.range n).filterMap fun i => ((ms[i]?).bind ghostG).map fun g => (⟨none, .fa (.t g.1) 0, none⟩ : MI))

/-- The temporaries that a code looks at ahead of writing them, in the order of the text; those that it writes. -/
def looks (o : Oper) : List Nat := o.op.operands.toList.filterMap fun | .tmp t => some t | _ => none

def scan : Code → List Nat × List Nat → List Nat × List Nat
  | .region _ ops _, s => ops.toList.foldl (fun s o => ((looks o).filter (fun t => !s.2.contains t) ++ s.1, match o.dst with | some d => d :: s.2 | none => s.2)) s
  | .seq a b, s => scan b (scan a s)
  | .cond c a b, s => let s := ((match c with | .tmp t => if s.2.contains t then [] else [t] | _ => []) ++ s.1, s.2); scan b (scan a s)
  | .block _ a, s => scan a s
  | .loop a, s => scan a s
  | .scope a, s => scan a s
  | _, s => s

def forgets (names : Array String) (c : Code) : List Nat :=
  let s := scan c ([], [])
  s.2.eraseDups.filter fun t => !s.1.contains t && (names.getD t "" == "")

/-- What is added to slices in a code, and what that is then called. -/
def apps : Code → List Nat × List (Nat × Nat)
  | .region _ ops _ => (ops.toList.filterMap (fun o => match o.op, o.dst with
      | .call c, some d => (match c.callee with | .builtin .append => some d | _ => none)
      | _, _ => none), ops.toList.filterMap (fun o => match o.op, o.dst with
      | .move (.tmp x), some d => some (x, d)
      | .assign (.tmp x), some d => some (x, d)
      | _, _ => none))
  | .seq a b => ((apps a).1 ++ (apps b).1, (apps a).2 ++ (apps b).2)
  | .cond _ a b => ((apps a).1 ++ (apps b).1, (apps a).2 ++ (apps b).2)
  | .block _ a => apps a
  | .loop a => apps a
  | .scope a => apps a
  | _ => ([], [])

def keeps (c : Code) : List Nat := ((apps c).2.filterMap fun p => if (apps c).1.contains p.1 then some p.2 else none).eraseDups

/-- Does a region's head keep its stores in order? -/
def ordS (ops : Array Oper) (l : List MI) (n : Nat) : Bool := (List.range n).all fun j => (List.range j).all fun i => match l[i]?, l[j]?, ops[j]? with
  | some a, some b, some o => !isSt a || !isSt b || waitsB o i
  | _, _, _ => false

/-- The temporary that what is stored into comes from, and which of its cells (0: all). -/
def baseO (l : List MI) : Nat → Nat → Nat → Nat → Nat × Nat × Nat
  | 0, d, o, n => (d, o, n)
  | f + 1, d, o, n => match l.find? fun m => m.dst == some d with
    | some m => (match m.op with
      | .fa (.t b) o' => baseO l f b (o + o') n
      | .ixa (.t b) _ _ _ => baseO l f b o 0
      | .mv (.t b) => baseO l f b o n
      | .nilc (.t b) => baseO l f b o n
      | _ => (d, o, n))
    | none => (d, o, n)
def basesT (l : List MI) : List (Nat × Nat × Nat) := (l.filterMap fun m => match m.op with | .st (.t d) _ n => some (baseO l 20 d 0 n) | _ => none).eraseDups

/-- Does an operation look at memory by way of what another one of the head has made? -/
def isCallM (m : MI) : Bool := match m.op with | .call _ _ => true | .inv _ _ _ => true | _ => false
def rdM (m : MI) : Bool := match m.op with | .ld _ _ => true | .slc _ _ _ _ _ => true | .call _ _ => true | .inv _ _ _ => true | _ => false
def isMk (m : MI) : Bool := match m with | ⟨some _, .mks _ _ _ _ _, none⟩ => true | _ => false

def pureM (pf : List FuncId) (m : MI) : Bool := match m.op with | .call (.c (.f g _)) _ => pf.contains g | _ => false
def dirtyB (ops : Array Oper) (i : Nat) (dirty : List Nat) : Bool := match ops[i]? with | some o => (looks o).any dirty.contains | none => false
def dstL (m : MI) : List Nat := match m.dst with | some d => [d] | none => []

/-- How the operations of a head come (serial: calls come in their place): the operations, those that are behind what the head makes, how many rows are made. -/
def clsL (ops : Array Oper) (pf : List FuncId) (serial : Bool) : Nat → List Nat → Nat → List MI → List (Cls × MI)
  | _, _, _, [] => []
  | i, dirty, r, m :: l =>
    if quietOp m.op && !(serial && isCallM m) && !(dirtyB ops i dirty && rdM m) then (.p, m) :: clsL ops pf serial (i + 1) (if dirtyB ops i dirty then dstL m ++ dirty else dirty) r l
    else if isMk m then (.m r, m) :: clsL ops pf serial (i + 1) (dstL m ++ dirty) (r + 1) l
    else (if pureM pf m then .q ((List.range i).filter (reach ops i).contains) else .r ((List.range i).filter (reach ops i).contains), m) :: clsL ops pf serial (i + 1) (dstL m ++ dirty) r l

/-- Those that come in their place wait for each other, and stand behind those that make rows. -/
def okCls (ops : Array Oper) (hd : List (Cls × MI)) : Bool :=
  (List.range hd.length).all fun j => match hd[j]? with
    | some (.p, m) => quietOp m.op
    | some (.m r, _) => decide (r < cntM hd) && (List.range j).all fun i => match hd[i]? with | some (.r _, _) => false | some (.q _, _) => false | some (.m r', _) => decide (r' ≠ r) | _ => true
    | some (.r w, _) => (w.all (reach ops j).contains) && (List.range j).all fun i => match hd[i]? with | some (.r _, _) => memN w i | some (.q _, _) => memN w i | _ => true
    | some (.q w, m) => quietOp m.op && (w.all (reach ops j).contains) && (List.range j).all fun i => match hd[i]? with | some (.r _, _) => memN w i | some (.q _, _) => memN w i | _ => true
    | none => true

def cRg (P : Program) (ops : Array Oper) (draw : Bool) : Option MC := do
  let l ← mapO (cI P ops) ops.toList
  if draw then
    if flowB ops (headN ops) && (List.range (headN ops)).all (fun i => match l[i]? with | some m => quietOp m.op || ghostB m || gstB l (headN ops) i | none => true) && decide (headN ops ≤ ops.size) then
      pure (.reg (List.zipWith hide (gstL l (headN ops)) (l.take (headN ops))) (ghosts l (headN ops) ++ l.drop (headN ops)))
    else if flowB ops (headN ops) && (l.take (headN ops)).all (fun m => quietOp m.op || isSt m) && ordS ops l (headN ops) && decide (headN ops ≤ ops.size) then
      pure (.regS (basesT (l.take (headN ops))) (l.take (headN ops)) (l.drop (headN ops)))
    else none
  else pure (.reg [] l)

/-- The same, of what makes rows and writes in its place. -/
def cRgM (P : Program) (ops : Array Oper) (pf : List FuncId) (serial : Bool) : Option MC := do
  let l ← mapO (cI P ops) ops.toList
  if flowB ops (headN ops) && decide (headN ops ≤ ops.size) && okCls ops (clsL ops pf serial 0 [] 0 (l.take (headN ops))) then
    pure (.regM (clsL ops pf serial 0 [] 0 (l.take (headN ops))) (l.drop (headN ops)))
  else none

def hasCall (ops : Array Oper) : Bool := (ops.toList.take (headN ops)).any fun o => match o.op with | .call c => (match c.callee with | .builtin _ => false | _ => true) | _ => false

def altO : Option MC → Option MC → Option MC
  | some a, some b => some (.alt a b)
  | some a, none => some a
  | none, b => b

def orO : Option MC → Option MC → Option MC
  | some a, _ => some a
  | none, b => b

def cRegion (P : Program) (pf : List FuncId) (ops : Array Oper) (draw : Bool) : Option MC :=
  if draw then
    if hasCall ops then altO (cRgM P ops pf true) (orO (cRg P ops true) (cRgM P ops pf false))
    else orO (cRg P ops true) (orO (cRgM P ops pf true) (cRgM P ops pf false))
  else cRg P ops false

/-- The code; what we do not know leads nowhere. With md no round's rows are dropped. -/
def cC (P : Program) (md : Bool × List FuncId) (names : Array String) : Code → MC
  | .skip => .skip
  | .label _ => .skip
  | .ret => .ret
  | .exit i => .exit i
  | .region _ ops draw => (cRegion P md.2 ops draw).getD .stuck
  | .seq a b => .seq (cC P md names a) (cC P md names b)
  | .cond c a b => match cO c with
    | some c => .cond c (cC P md names a) (cC P md names b)
    | none => .stuck
  | .block i a => .block i (cC P md names a)
  | .scope a => cC P md names a
  | .loop a => if md.1 then .loopN (forgets names a) (cC P md names a) else if (apps a).1.isEmpty then .loop (forgets names a) (cC P md names a) else .loopK (keeps a) (forgets names a) (cC P md names a)
  | _ => .stuck

def cR (P : Program) : ResultVar → Option MR
  | .tmp t => some (.t t)
  | .cell a t => (shapeT P t).map (.cell a)

def cF (P : Program) (md : Bool × List FuncId) (f : FuncId) : Option MF := do
  let fn ← P.funcs[f]?
  let b ← fn.body
  let r ← mapO (cR P) fn.results.toList
  if fn.name = "runtime.NumGoroutine" then none else pure ⟨fn.params.size + fn.nfree, fn.ntmps, cC P md fn.tmpNames b, r⟩
end Go.Proofs.Ytjgnjpbplnmdmaa
