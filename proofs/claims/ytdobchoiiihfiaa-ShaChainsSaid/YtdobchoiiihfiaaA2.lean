/- Operations as the proofs tell them, what each makes of abstract values and memory, and the closed test that an operation of the program is such a one; no condition. -/
import Derived.Test.YtdobchoiiihfiaaA1
set_option linter.unusedVariables false
set_option linter.unusedSimpArgs false
namespace Go.Wit

inductive Opn where
  | t (n : Nat)
  | c (v : AV)
  deriving Inhabited

/-- The kinds of plain cells. -/
inductive LK | b | i | s
  deriving DecidableEq, Inhabited

inductive AOp where
  | mv (x : Opn)
  | nck (x : Opn)
  | pick (c a b : Opn)
  | alloc (es n : Nat) (zs : List AV)
  | box (es n : Nat) (x : Opn)
  | build (zs : List AV) (parts : List (Nat × Nat × Opn))
  | bsl (es len : Nat) (zs : List AV) (parts : List (Nat × Nat × Opn))
  | load (sz : Nat) (ag : Bool) (a : Opn)
  | store (sz : Nat) (a v : Opn)
  | bin (op : BinOp) (x y : Opn)
  | eqb (neg : Bool) (x y : Opn)
  | eqa (ks : List LK) (neg : Bool) (x y : Opn)
  | eqnS (neg : Bool) (x : Opn)
  | eqnP (neg : Bool) (x : Opn)
  | eqnI (neg : Bool) (x : Opn)
  | un (op : UnOp) (x : Opn)
  | conv (k : IntKind) (x : Opn)
  | arrp (n es : Nat) (x : Opn)
  | slice (es : Nat) (x : Opn) (lo hi mx : Option Opn)
  | sslice (x : Opn) (lo hi : Option Opn)
  | slarr (n es : Nat) (x : Opn) (lo hi mx : Option Opn)
  | fldA (off : Nat) (x : Opn)
  | fld (off sz : Nat) (ag : Bool) (x : Opn)
  | idxA (es : Nat) (x i : Opn)
  | idxP (n es : Nat) (x i : Opn)
  | idx (n es : Nat) (ag : Bool) (x i : Opn)
  | idxs (x i : Opn)
  | ext (x : Opn) (i : Nat)
  | len (x : Opn)
  | lens (x : Opn)
  | lena (n : Nat)
  | mksl (es bytes : Nat) (zs : List AV) (len cap : Opn)
  | copy (es : Nat) (x y : Opn)
  | mkif (t : Nat) (x : Opn)
  | tas (x : Opn) (t : Nat) (ok : Bool) (zs : AV)
  | mkfn (f : Nat) (caps : List Opn)
  | call (f : Opn) (args : List Opn)
  | app (es bytes : Nat) (x y : Opn)
  | sbytes (x : Opn)
  | bstr (x : Opn)
  | frz (x : Opn)
  deriving Inhabited

structure AOpr where
  dst : Option Nat
  op : AOp
  guard : Option (Nat × Bool)
  deriving Inhabited

def Opn.ev (e : Env) : Opn → AV
  | .t n => e.get n
  | .c v => v

def kbeq : IntKind → IntKind → Bool
  | .i8, .i8 | .i16, .i16 | .i32, .i32 | .i64, .i64 | .u8, .u8 | .u16, .u16 | .u32, .u32 | .u64, .u64 => true
  | _, _ => false
theorem kbeq_eq {a b : IntKind} (h : kbeq a b = true) : a = b := by cases a <;> cases b <;> first | rfl | cases h

def pickA (c : Bool) : AV → AV → AV
  | .int k a, .int k' b => bif kbeq k k' then .int k (bif c then a else b) else bif c then .int k a else .int k' b
  | .bool a, .bool b => .bool (bif c then a else b)
  | .str a, .str b => .str (bif c then a else b)
  | x, y => bif c then x else y
theorem pickA_eq (c : Bool) (x y : AV) : pickA c x y = bif c then x else y := by
  cases c <;> cases x <;> cases y <;> simp only [pickA, cond_true, cond_false, ite_self] <;> (try rfl) <;>
    (rename_i k _ k' _; cases h : kbeq k k' <;> simp [h] <;> (have := kbeq_eq h; simp [this]))

structure Out where
  ok : Bool
  v : AV
  u : Option (Nat × Blk)

def out (v : AV) : Option Out := some ⟨true, v, none⟩
def outIf (ok : Bool) (v : AV) : Option Out := some ⟨ok, v, none⟩

def bitsV (op : BinOp) (k : IntKind) (x y : Int) : Int :=
  let a := BitVec.ofInt k.bits x
  let b := BitVec.ofInt k.bits y
  match op with
  | .and => k.wrap (a &&& b).toNat
  | .or => k.wrap (a ||| b).toNat
  | .xor => k.wrap (a ^^^ b).toNat
  | _ => k.wrap (a &&& ~~~b).toNat

def binV (op : BinOp) : AV → AV → Option Out
  | .int k a, .int k' b =>
    match op with
    | .shl => outIf (decide (0 ≤ b)) (.int k (k.wrap (a * 2 ^ (min b.toNat k.bits))))
    | .shr => outIf (decide (0 ≤ b)) (.int k (a.fdiv (2 ^ (min b.toNat k.bits))))
    | .add => outIf (kbeq k k') (.int k (k.wrap (a + b)))
    | .sub => outIf (kbeq k k') (.int k (k.wrap (a - b)))
    | .mul => outIf (kbeq k k') (.int k (k.wrap (a * b)))
    | .quo => outIf (kbeq k k' && !(b == 0)) (.int k (k.wrap (a.tdiv b)))
    | .rem => outIf (kbeq k k' && !(b == 0)) (.int k (a.tmod b))
    | .and => outIf (kbeq k k') (.int k (bitsV .and k a b))
    | .or => outIf (kbeq k k') (.int k (bitsV .or k a b))
    | .xor => outIf (kbeq k k') (.int k (bitsV .xor k a b))
    | .andNot => outIf (kbeq k k') (.int k (bitsV .andNot k a b))
    | .eql => outIf (kbeq k k') (.bool (a == b))
    | .neq => outIf (kbeq k k') (.bool (a != b))
    | .lss => outIf (kbeq k k') (.bool (decide (a < b)))
    | .leq => outIf (kbeq k k') (.bool (decide (a ≤ b)))
    | .gtr => outIf (kbeq k k') (.bool (decide (a > b)))
    | .geq => outIf (kbeq k k') (.bool (decide (a ≥ b)))
  | .str a, .str b =>
    match op with
    | .eql => out (.bool (a.toList == b.toList))
    | .neq => out (.bool (!(a.toList == b.toList)))
    | _ => none
  | _, _ => none

/-- Two rows of plain cells: the same? -/
def eqCells : List AV → List AV → Option Bool
  | [], [] => some true
  | .int k a :: xs, .int k' b :: ys => bif kbeq k k' then (eqCells xs ys).map fun r => (a == b) && r else none
  | .bool a :: xs, .bool b :: ys => (eqCells xs ys).map fun r => (a == b) && r
  | .str a :: xs, .str b :: ys => (eqCells xs ys).map fun r => (a == b) && r
  | _, _ => none

def lkOf : AV → Option LK
  | .bool _ => some .b
  | .int _ _ => some .i
  | .str _ => some .s
  | _ => none

def matchK : List AV → List LK → Bool
  | [], [] => true
  | .bool _ :: us, .b :: ks => matchK us ks
  | .int _ _ :: us, .i :: ks => matchK us ks
  | .str _ :: us, .s :: ks => matchK us ks
  | _, _ => false

def unV (op : UnOp) : AV → Option Out
  | .int k n =>
    match op with
    | .neg => out (.int k (k.wrap (0 - n)))
    | .xor => out (.int k (bitsV .xor k (if k.signed then -1 else k.max) n))
    | _ => none
  | .bool b =>
    match op with
    | .not => out (.bool (!b))
    | _ => none
  | _ => none

def cellsOf : AV → List AV
  | .agg cs => cs
  | v => [v]

/-- What fits into one cell. -/
def isCell : AV → Bool
  | .un | .agg _ | .tup _ => false
  | _ => true

/-- A value whose cells are known one by one, sz of them. -/
def hasCells (v : AV) (sz : Nat) : Bool := (cellsOf v).length == sz && (cellsOf v).all isCell

def cellG (blk : Blk) (i j t : Nat) : AV := bif Nat.blt (j + t) blk.es then blk.get i (j + t) else blk.get (i + (j + t) / blk.es) ((j + t) % blk.es)

def roomG (blk : Blk) (i j sz : Nat) : Bool := bif Nat.ble (j + sz) blk.es then decide (i < blk.n) else Nat.blt 0 blk.es && decide (i * blk.es + j + sz ≤ blk.n * blk.es)

def loadV (sz : Nat) (ag : Bool) (m : Mem) : AV → Option Out
  | .ptr l i j =>
    match m[l]? with
    | some (some blk) => bif ag then outIf (roomG blk i j sz) (.agg ((List.range sz).map (cellG blk i j))) else outIf (roomG blk i j 1) (cellG blk i j 0)
    | _ => none
  | .vptr n get j => bif ag then outIf (Nat.ble (j + sz) n) (.agg ((List.range sz).map fun t => get (j + t))) else outIf (Nat.ble (j + 1) n) (get j)
  | _ => none

def updG (blk : Blk) (i j sz : Nat) (vs : List AV) : Nat → Nat → AV := fun i' j' =>
  bif Nat.ble (j + sz) blk.es then pickA (i' == i && (Nat.ble j j' && Nat.blt j' (j + sz))) (vs.getD (j' - j) .un) (blk.get i' j')
  else pickA (Nat.ble (i * blk.es + j) (i' * blk.es + j') && Nat.blt (i' * blk.es + j') (i * blk.es + j + sz)) (vs.getD (i' * blk.es + j' - (i * blk.es + j)) .un) (blk.get i' j')

def storeV (sz : Nat) (m : Mem) (v : AV) : AV → Option Out
  | .ptr l i j =>
    match m[l]? with
    | some (some blk) => bif hasCells v sz then some ⟨roomG blk i j sz, .un, some (l, ⟨blk.es, blk.n, updG blk i j sz (cellsOf v)⟩)⟩ else none
    | _ => none
  | _ => none

def intOfA : AV → Option Int
  | .int _ n => some n
  | _ => none

/-- A bound of a slice expression: not below 0, not above y. -/
def bnd (y : Nat) (v : AV) : Option (Bool × Nat) := (intOfA v).map fun (n : Int) => (decide (0 ≤ n) && decide (n ≤ (y : Int)), n.toNat)

/-- The same, for a bound that may reach into the room behind the elements; what is within them is within the room. -/
def bnd2 (len cap : Nat) (v : AV) : Option (Bool × Nat) := (intOfA v).map fun (n : Int) => (decide (0 ≤ n) && (decide (n ≤ (len : Int)) || decide (n ≤ (cap : Int))), n.toNat)

def bnds (len cap : Nat) (lo hi mx : Option AV) : Option (Bool × Nat × Nat × Nat) :=
  match (match mx with | some v => bnd cap v | none => some (true, cap)) with
  | none => none
  | some (c1, m) =>
    match (match hi with | some v => (match mx with | some _ => bnd m v | none => bnd2 len cap v) | none => (match mx with | some _ => none | none => some (true, len))) with
    | none => none
    | some (c2, h) =>
      match (match lo with | some v => bnd h v | none => some (true, 0)) with
      | none => none
      | some (c3, l) => some (c1 && (c2 && c3), l, h, m)

def sliceV (es : Nat) (m : Mem) (x : AV) (lo hi mx : Option AV) : Option Out :=
  match x with
  | .sl l off len cap =>
    match m[l]? with
    | some (some blk) => bif blk.es == es then (bnds len cap lo hi mx).map fun (c, a, h, m) => ⟨c, .sl l (off + a) (h - a) (m - a), none⟩ else none
    | _ => none
  | .vsl es' len cap get => bif es' == es then (bnds len cap lo hi mx).map fun (c, a, h, m) => ⟨c && decide (h ≤ len), .vsl es' (h - a) (m - a) (fun i j => get (i + a) j), none⟩ else none
  | .nils => (bnds 0 0 lo hi mx).map fun (c, a, h, m) => ⟨c, .nils, none⟩
  | _ => none

def ssliceV (x : AV) (lo hi : Option AV) : Option Out :=
  match x with
  | .str s => (bnds s.size s.size lo hi none).map fun (c, a, h, m) => ⟨c, .str (s.extract a h), none⟩
  | _ => none

def slarrV (n es : Nat) (m : Mem) (x : AV) (lo hi mx : Option AV) : Option Out :=
  match x with
  | .ptr l i 0 =>
    match m[l]? with
    | some (some blk) => bif blk.es == es then (bnds n n lo hi mx).map fun (c, a, h, q) => ⟨c && decide (i + n ≤ blk.n), .sl l (i + a) (h - a) (q - a), none⟩ else none
    | _ => none
  | _ => none

def arrpV (n es : Nat) : AV → Option Out
  | .sl l off len cap => bif n == 0 then none else outIf (decide (n ≤ len)) (.ptr l off 0)
  | .vsl es' len cap get => bif es' == es && (!(es == 0) && !(n == 0)) then outIf (decide (n ≤ len)) (.vptr (n * es) (fun t => get (t / es) (t % es)) 0) else none
  | _ => none

def fldAV (off : Nat) : AV → Option Out
  | .ptr l i j => out (.ptr l i (j + off))
  | .vptr m get j => out (.vptr m get (j + off))
  | _ => none

def partV (sz : Nat) (ag : Bool) (cs : List AV) (off : Nat) : Option Out :=
  bif ag then outIf (Nat.ble (off + sz) cs.length) (.agg ((cs.drop off).take sz)) else outIf (Nat.blt off cs.length) (cs.getD off .un)

def idxAV (es : Nat) (m : Mem) (x i : AV) : Option Out :=
  match x, i with
  | .sl l off len cap, .int _ n =>
    match m[l]? with
    | some (some blk) => bif blk.es == es then outIf (decide (0 ≤ n) && decide (n < len)) (.ptr l (off + n.toNat) 0) else none
    | _ => none
  | .vsl es' len cap get, .int _ n => bif es' == es then outIf (decide (0 ≤ n) && decide (n < len)) (.vptr es (get n.toNat) 0) else none
  | _, _ => none

def idxPV (len es : Nat) (m : Mem) (x i : AV) : Option Out :=
  match x, i with
  | .ptr l q j, .int _ n =>
    match m[l]? with
    | some (some blk) => outIf (decide (0 ≤ n) && decide (n < len)) (bif blk.es == es then .ptr l (q + n.toNat) j else .ptr l q (j + n.toNat * es))
    | _ => none
  | .vptr m get j, .int _ n => outIf (decide (0 ≤ n) && decide (n < len)) (.vptr m get (j + n.toNat * es))
  | _, _ => none

def idxV (len es : Nat) (ag : Bool) (x i : AV) : Option Out :=
  match x, i with
  | .agg cs, .int _ n => (partV es ag cs (n.toNat * es)).map fun o => ⟨(decide (0 ≤ n) && decide (n < len)) && o.ok, o.v, none⟩
  | _, _ => none

def idxsV (x i : AV) : Option Out :=
  match x, i with
  | .str s, .int _ n => outIf (decide (0 ≤ n) && decide (n < s.size)) (.int .u8 (s.data.getD n.toNat 0).toNat)
  | _, _ => none

def extV (i : Nat) : AV → Option Out
  | .tup vs => bif Nat.blt i vs.length then out (vs.getD i .un) else none
  | _ => none

def lenV : AV → Option Out
  | .sl _ _ n _ => out (.int .i64 n)
  | .vsl _ n _ _ => out (.int .i64 n)
  | .nils => out (.int .i64 0)
  | _ => none

def setL (cs : List AV) (off : Nat) (vs : List AV) : List AV := cs.take off ++ (vs ++ cs.drop (off + vs.length))

def fillV (cs : List AV) : List (Nat × Nat × AV) → Option (List AV)
  | [] => some cs
  | (off, sz, v) :: rest => bif hasCells v sz && Nat.ble (off + sz) cs.length then fillV (setL cs off (cellsOf v)) rest else none

def reps (zs : List AV) : Nat → List AV
  | 0 => []
  | n + 1 => zs ++ reps zs n

def newV (m : Mem) (v : Nat → AV) (b : Blk) : Option Out := some ⟨true, v m.length, some (m.length, b)⟩

/-- What a slice shows, element by element (if all of it is known). -/
def viewS (m : Mem) : AV → Option (Bool × Nat × (Nat → Nat → AV))
  | .sl l off len cap =>
    match m[l]? with
    | some (some blk) => some (decide (off + len ≤ blk.n), len, fun i j => blk.get (off + i) j)
    | _ => none
  | .vsl es len cap get => some (true, len, get)
  | .nils => some (true, 0, fun _ _ => .un)
  | .str s => some (true, s.size, fun i _ => .int .u8 (s.data.getD i 0).toNat)
  | _ => none

def esS (m : Mem) : AV → Option Nat
  | .sl l _ _ _ => match m[l]? with | some (some blk) => some blk.es | _ => none
  | .vsl es _ _ _ => some es
  | .nils => none
  | .str _ => some 1
  | _ => none

def minN (a b : Nat) : Nat := bif Nat.ble a b then a else b

def copyV (es : Nat) (m : Mem) (x y : AV) : Option Out :=
  match x with
  | .sl l off len cap =>
    match m[l]? with
    | some (some blk) =>
      match y with
      | .nils => out (.int .i64 0)
      | .str _ => none
      | y =>
        match viewS m y, esS m y with
        | some (b, n, g), some es' =>
          bif blk.es == es && es' == es then
            some ⟨b && decide (off + len ≤ blk.n), .int .i64 (minN n len), some (l, ⟨blk.es, blk.n, fun i j => pickA (Nat.ble off i && Nat.blt i (off + minN n len)) (g (i - off) j) (blk.get i j)⟩)⟩
          else none
        | _, _ => none
    | _ => none
  | _ => none

def byteOfA : AV → UInt8
  | .int _ n => UInt8.ofNat n.toNat
  | _ => 0

def evD (o : AOp) (e : Env) (m : Mem) : Option Out :=
  match o with
  | .mv x => out (x.ev e)
  | .nck x => match x.ev e with | .ptr l i j => out (.ptr l i j) | .vptr n g j => out (.vptr n g j) | .ifc t v => out (.ifc t v) | _ => none
  | .pick c a b => match c.ev e with | .bool b' => out (bif b' then a.ev e else b.ev e) | _ => none
  | .alloc es n zs => newV m (fun l => .ptr l 0 0) ⟨es, n, fun _ j => zs.getD j .un⟩
  | .box es n x => bif hasCells (x.ev e) (es * n) then newV m (fun l => .ptr l 0 0) ⟨es, n, fun i j => (cellsOf (x.ev e)).getD (i * es + j) .un⟩ else none
  | .build zs parts => (fillV zs (parts.map fun p => (p.1, p.2.1, p.2.2.ev e))).map fun cs => ⟨true, .agg cs, none⟩
  | .bsl es len zs parts => match fillV (reps zs len) (parts.map fun p => (p.1, p.2.1, p.2.2.ev e)) with
    | some cs => bif cs.all isCell then newV m (fun l => .sl l 0 len len) ⟨es, len, fun i j => cs.getD (i * es + j) .un⟩ else none
    | none => none
  | .load sz ag a => loadV sz ag m (a.ev e)
  | .store sz a v => storeV sz m (v.ev e) (a.ev e)
  | .bin op x y => binV op (x.ev e) (y.ev e)
  | .eqb neg x y => match x.ev e, y.ev e with | .bool a, .bool b => out (.bool (bif neg then !(a == b) else a == b)) | _, _ => none
  | .eqa ks neg x y => match x.ev e, y.ev e with
    | .agg us, .agg vs => bif matchK us ks && matchK vs ks then (eqCells us vs).map fun b => ⟨true, .bool (bif neg then !b else b), none⟩ else none
    | _, _ => none
  | .eqnS neg x => match x.ev e with | .nils => out (.bool (!neg)) | .sl _ _ _ cap | .vsl _ _ cap _ => outIf (decide (0 < cap)) (.bool neg) | _ => none
  | .eqnP neg x => match x.ev e with | .nilp => out (.bool (!neg)) | .ptr .. | .vptr .. => out (.bool neg) | _ => none
  | .eqnI neg x => match x.ev e with | .nili => out (.bool (!neg)) | .ifc .. => out (.bool neg) | _ => none
  | .un op x => unV op (x.ev e)
  | .conv k x => match x.ev e with | .int _ n => out (.int k (k.wrap n)) | _ => none
  | .arrp n es x => arrpV n es (x.ev e)
  | .sslice x lo hi => ssliceV (x.ev e) (lo.map (·.ev e)) (hi.map (·.ev e))
  | .slice es x lo hi mx => sliceV es m (x.ev e) (lo.map (·.ev e)) (hi.map (·.ev e)) (mx.map (·.ev e))
  | .slarr n es x lo hi mx => slarrV n es m (x.ev e) (lo.map (·.ev e)) (hi.map (·.ev e)) (mx.map (·.ev e))
  | .fldA off x => fldAV off (x.ev e)
  | .fld off sz ag x => match x.ev e with | .agg cs => partV sz ag cs off | _ => none
  | .idxA es x i => idxAV es m (x.ev e) (i.ev e)
  | .idxP n es x i => idxPV n es m (x.ev e) (i.ev e)
  | .idx n es ag x i => idxV n es ag (x.ev e) (i.ev e)
  | .idxs x i => idxsV (x.ev e) (i.ev e)
  | .ext x i => extV i (x.ev e)
  | .len x => lenV (x.ev e)
  | .lens x => match x.ev e with | .str s => out (.int .i64 s.size) | _ => none
  | .lena n => out (.int .i64 n)
  | .mksl es bytes zs len cap => match len.ev e, cap.ev e with
    | .int _ a, .int _ c => some ⟨decide (0 ≤ a) && (decide (a ≤ c) && decide (c * bytes ≤ 281474976710656 ∧ c ≤ 281474976710656)), .sl m.length 0 a.toNat c.toNat, some (m.length, ⟨es, c.toNat, fun _ j => zs.getD j .un⟩)⟩
    | _, _ => none
  | .copy es x y => copyV es m (x.ev e) (y.ev e)
  | .mkif t x => out (.ifc t (x.ev e))
  | .tas x t ok z => match x.ev e with
    | .ifc t' v => bif t' == t then out (bif ok then .tup [v, .bool true] else v) else bif ok then out (.tup [z, .bool false]) else none
    | .nili => bif ok then out (.tup [z, .bool false]) else none
    | _ => none
  | .mkfn f caps => out (.fn f (caps.map (·.ev e)))
  | .call .. | .app .. | .sbytes .. | .bstr .. | .frz .. => none

def Mem.upd (m : Mem) : Option (Nat × Blk) → Mem
  | none => m
  | some (l, b) => bif Nat.blt l m.length then m.set l (some b) else m ++ [some b]

end Go.Wit
