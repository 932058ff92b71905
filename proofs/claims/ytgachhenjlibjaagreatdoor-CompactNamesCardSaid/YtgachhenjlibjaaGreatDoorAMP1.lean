/-
  An abstract machine that runs a translated program: its words. No condition.
-/
import GoSem.Dispatch
namespace Go.AM

/-- places: paths in a tree -/
inductive Ps where
  | e : Ps
  | o (p : Ps) : Ps
  | i (p : Ps) : Ps

inductive Trie (α : Type) where
  | nil : Trie α
  | node (v : Option α) (l r : Trie α) : Trie α


noncomputable section

def bi {α : Type} (c : Bool) (x y : α) : α := Bool.rec (motive := fun _ => α) y x c

def getP {α : Type} (t : Trie α) : Ps → Option α :=
  Trie.rec (motive := fun _ => Ps → Option α) (fun _ => none)
    (fun v _ _ gl gr p => Ps.rec (motive := fun _ => Option α) v (fun p _ => gl p) (fun p _ => gr p) p) t

def setK {α β : Type} (x : Option α) (p : Ps) : Trie α → (Trie α → β) → β :=
  Ps.rec (motive := fun _ => Trie α → (Trie α → β) → β)
    (fun t k => Trie.rec (motive := fun _ => β) (k (.node x .nil .nil)) (fun _ l r _ _ => k (.node x l r)) t)
    (fun _ ih t k => Trie.rec (motive := fun _ => β) (ih .nil fun l => k (.node none l .nil)) (fun v l r _ _ => ih l fun l => k (.node v l r)) t)
    (fun _ ih t k => Trie.rec (motive := fun _ => β) (ih .nil fun r => k (.node none .nil r)) (fun v l r _ _ => ih r fun r => k (.node v l r)) t) p

def succK {β : Type} (p : Ps) : (Ps → β) → β :=
  Ps.rec (motive := fun _ => (Ps → β) → β) (fun k => k (.o .e)) (fun p _ k => k (.i p)) (fun _ ih k => ih fun q => k (.o q)) p

def psOf (f : Nat) : Nat → Ps :=
  Nat.rec (motive := fun _ => Nat → Ps) (fun _ => .e)
    (fun _ ih n => Nat.rec (motive := fun _ => Ps) .e (fun m _ => bi (Nat.beq (Nat.mod m 2) 0) (.o (ih (Nat.div m 2))) (.i (ih (Nat.div m 2)))) n) f

def forceNat {β : Type} (n : Nat) (k : Nat → β) : β := Nat.rec (motive := fun _ => β) (k 0) (fun m _ => k (Nat.succ m)) n

def forceInt {β : Type} (n : Int) (k : Int → β) : β :=
  Int.rec (motive := fun _ => β) (fun a => forceNat a fun a => k (.ofNat a)) (fun a => forceNat a fun a => k (.negSucc a)) n

def nth {α : Type} (l : List α) : Nat → Option α :=
  List.rec (motive := fun _ => Nat → Option α) (fun _ => none) (fun a _ ih n => Nat.rec (motive := fun _ => Option α) (some a) (fun m _ => ih m) n) l

/-- what is done with something, if it is there -/
def opt {α β : Type} (x : Option α) (k : α → β) (e : β) : β := Option.rec (motive := fun _ => β) e k x


def psN (n : Nat) : Ps := psOf (Nat.succ n) n

/-- abstract values -/
inductive AV where
  | bo (b : Bool) : AV
  | it (k : IntKind) (n : Int) : AV
  | st (n len : Nat) : AV
  | pz : AV
  | pt (b : Ps) (o : Nat) : AV
  | sz : AV
  | sl (b : Ps) (o len cap e : Nat) (op : Bool) : AV
  | mz : AV
  | mp (b : Ps) : AV
  | fz : AV
  | fn (f : Fn) (first caps : List AV) : AV
  | iz : AV
  | ic (t : Nat) (v : AV) : AV
  | ag (l : List AV) : AV
  | rp (p : AV) (n : Nat) : AV
  | tu (l : List AV) : AV

/-- abstract blocks: cells, bytes, a map, a place in a map -/
inductive AB where
  | ce (d : Trie AV) (base size : Nat) (pat : List AV) (own : Bool) (anc : List Ps) : AB
  | by (n size : Nat) (own : Bool) (anc : List Ps) : AB
  | ma (es : List (AV × AV × Nat)) (clock : Nat) : AB
  | mi (map : Option Ps) (since : Nat) (seen : List Nat) (stepped : Nat) : AB

structure ADef where
  fn : Fn
  caps : List AV
  args : List AV

abbrev Heap := Trie AB
abbrev Tmps := Trie AV

inductive X where
  | n : X
  | e (id : Nat) : X
  | g (l : Nat) : X
  | r : X

inductive Res where
  | bad (why : String) : Res
  | ok (x : X) (t : Tmps) (d : List ADef) (h : Heap) (m : Ps) : Res
  | ret (v : AV) (h : Heap) (m : Ps) : Res

inductive OR where
  | bad (why : String) : OR
  | val (v : AV) (h : Heap) (m : Ps) : OR
  | call (f : Nat) (args : List AV) : OR
  | dfr (d : ADef) : OR

/-- what is known of a type -/
structure TI where
  u : TypeDesc
  size : Nat
  bytes : Nat
  agg : Bool
  /-- its zero value is known -/
  zok : Bool
  zero : List AV
  pat : List AV

/-! bytes -/
def byteAt (n i : Nat) : Nat := Nat.mod (Nat.div n (Nat.pow 256 i)) 256
def ext (n l h : Nat) : Nat := Nat.mod (Nat.div n (Nat.pow 256 l)) (Nat.pow 256 (Nat.sub h l))
def cat (n l n' : Nat) : Nat := Nat.add n (Nat.mul n' (Nat.pow 256 l))
def splice (n o l n' : Nat) : Nat := cat (ext n 0 o) o (cat n' l (Nat.div n (Nat.pow 256 (Nat.add o l))))
def encBytes : List UInt8 → Nat
  | [] => 0
  | b :: r => Nat.add b.toNat (Nat.mul 256 (encBytes r))

def ofCell : Value → Option AV
  | .bool b => some (.bo b)
  | .int k n => some (.it k n)
  | .string s => forceNat (encBytes s.data.toList) fun n => forceNat s.data.toList.length fun l => some (.st n l)
  | .pointer none => some .pz
  | .slice none 0 0 => some .sz
  | .map none => some .mz
  | .nilFunc => some .fz
  | .nilIface => some .iz
  | _ => none

def ofCells : List Value → Option (List AV)
  | [] => some []
  | v :: r => match ofCell v, ofCells r with
    | some a, some l => some (a :: l)
    | _, _ => none

def ofVal : Value → Option AV
  | .agg cs => match ofCells cs.toList with
    | some l => some (.ag l)
    | none => none
  | .tuple cs => match ofCells cs.toList with
    | some l => some (.tu l)
    | none => none
  | v => ofCell v

/-! comparisons -/
def intLt : Int → Int → Bool
  | .ofNat a, .ofNat b => Nat.blt a b
  | .ofNat _, .negSucc _ => false
  | .negSucc _, .ofNat _ => true
  | .negSucc a, .negSucc b => Nat.blt b a

def intEq : Int → Int → Bool
  | .ofNat a, .ofNat b => Nat.beq a b
  | .negSucc a, .negSucc b => Nat.beq a b
  | _, _ => false

def kindNo : IntKind → Nat
  | .i8 => 0
  | .i16 => 1
  | .i32 => 2
  | .i64 => 3
  | .u8 => 4
  | .u16 => 5
  | .u32 => 6
  | .u64 => 7

def kindEq (a b : IntKind) : Bool := Nat.beq (kindNo a) (kindNo b)

def boolEq (a b : Bool) : Bool := bi a b (bi b false true)

def strLt (a la b lb : Nat) : Nat → Bool
  | 0 => false
  | f + 1 => match lb with
    | 0 => false
    | lb + 1 => match la with
      | 0 => true
      | la + 1 => bi (Nat.blt (Nat.mod a 256) (Nat.mod b 256)) true
        (bi (Nat.beq (Nat.mod a 256) (Nat.mod b 256)) (strLt (Nat.div a 256) la (Nat.div b 256) lb f) false)

def strEq (a la b lb : Nat) : Bool := bi (Nat.beq la lb) (Nat.beq a b) false

def psEq : Ps → Ps → Bool
  | .e, .e => true
  | .o p, .o q => psEq p q
  | .i p, .i q => psEq p q
  | _, _ => false

/-- plain values: are they the same? -/
def same0 : AV → AV → Bool
  | .bo a, .bo b => boolEq a b
  | .it k a, .it k' b => bi (kindEq k k') (intEq a b) false
  | .st a la, .st b lb => strEq a la b lb
  | .pz, .pz => true
  | .sz, .sz => true
  | .mz, .mz => true
  | .fz, .fz => true
  | .iz, .iz => true
  | .pt a b, .pt c d => bi (psEq a c) (Nat.beq b d) false
  | .sl b o l c e op, .sl b' o' l' c' e' op' => bi (psEq b b') (bi (Nat.beq o o') (bi (Nat.beq l l') (bi (Nat.beq c c') (bi (Nat.beq e e') (boolEq op op') false) false) false) false) false
  | .mp a, .mp b => psEq a b
  | .fn (.func f) [] [], .fn (.func g) [] [] => Nat.beq f g
  | _, _ => false

def sames : List AV → List AV → Bool
  | [], [] => true
  | a :: l, b :: r => bi (same0 a b) (sames l r) false
  | _, _ => false

def sameAV (a b : AV) : Bool := match a, b with
  | .ag l, .ag r => sames l r
  | .tu l, .tu r => sames l r
  | .fn (.func f) [] l, .fn (.func g) [] r => bi (Nat.beq f g) (sames l r) false
  | a, b => same0 a b

/-! cells -/
def patAt (p : List AV) (i : Nat) : Option AV := match p with
  | [] => none
  | [a] => some a
  | p => nth p (Nat.mod i p.length)

/-! tables -/
def allEq (p : List AV) (i : Nat) : List AV → Bool
  | [] => true
  | a :: r => bi (match patAt p i with
    | some b => same0 a b
    | none => false) (allEq p (Nat.succ i) r) false

def isAggD : TypeDesc → Bool
  | .struct _ => true
  | .array _ _ => true
  | _ => false

def zeroCellsOf (i : TypeInfo) (agg : Bool) : Option (List AV) := match i.zero with
  | some (.agg cs) => bi agg (match ofCells cs.toList with
    | some l => bi (Nat.beq l.length i.size) (some l) none
    | none => none) none
  | some v => bi agg none (match ofCell v with
    | some a => bi (Nat.beq 1 i.size) (some [a]) none
    | none => none)
  | none => none

def listOr : Option (List AV) → List AV
  | some l => l
  | none => []

def someB : Option (List AV) → Bool
  | some _ => true
  | none => false

/-- what repeats in a zero value -/
def patOf (raw : Trie TypeInfo) (zero : List AV) : TypeDesc → List AV
  | .array _ e => match getP raw (psN e) with
    | some j => let p := listOr (zeroCellsOf j (isAggD j.desc)); bi (allEq p 0 zero) p zero
    | none => zero
  | _ => zero

def tiOf (raw : Trie TypeInfo) (i : TypeInfo) (u : TypeDesc) : TI :=
  { u := u, size := i.size, bytes := i.bytes, agg := isAggD u, zok := someB (zeroCellsOf i (isAggD u)),
    zero := listOr (zeroCellsOf i (isAggD u)), pat := patOf raw (listOr (zeroCellsOf i (isAggD u))) u }

def tyOf (raw : Trie TypeInfo) (t : Nat) : Option TI := match getP raw (psN t) with
  | none => none
  | some i => match i.desc with
    | .named _ u => match getP raw (psN u) with
      | some j => some (tiOf raw i j.desc)
      | none => none
    | d => some (tiOf raw i d)

/-- the types; eqs: struct types whose values are compared field by field -/
structure Tab where
  raw : Trie TypeInfo
  eqs : List Nat

def Tab.ty (T : Tab) (t : Nat) : Option TI := tyOf T.raw t

def memNat (n : Nat) : List Nat → Bool
  | [] => false
  | a :: r => bi (Nat.beq a n) true (memNat n r)

def trieOf {α : Type} (d : Trie α) (i : Nat) : List α → Trie α
  | [] => d
  | v :: r => setK (some v) (psN i) d fun d => trieOf d (Nat.succ i) r


/-! values of a frame: ds are the temporaries that this region has written so far, the newest first, vs their values -/
structure Rd where
  run : List AV → Tmps → Option AV

def findIx (i : Nat) : List Nat → Option Nat
  | [] => none
  | j :: r => bi (Nat.beq j i) (some 0) (match findIx i r with
    | some k => some (Nat.succ k)
    | none => none)

def optEq (d : Option Nat) (i : Nat) : Bool := match d with
  | some j => Nat.beq j i
  | none => false

def posOfT (i : Nat) : List (Option Nat) → Option Nat
  | [] => none
  | d :: r => bi (optEq d i) (some 0) (match posOfT i r with
    | some j => some (Nat.succ j)
    | none => none)

def cOpd (lv : List Nat) (ds : List (Option Nat)) : Operand → Rd
  | .tmp i => match posOfT i ds with
    | some j => ⟨fun vs _ => nth vs j⟩
    | none => match findIx i lv with
      | some k => let p := psN k; ⟨fun _ t => getP t p⟩
      | none => ⟨fun _ _ => none⟩
  | .const v => match ofVal v with
    | some a => ⟨fun _ _ => some a⟩
    | none => ⟨fun _ _ => none⟩
  | .global _ => ⟨fun _ _ => none⟩
  | .func f => ⟨fun _ _ => some (.fn (.func f) [] [])⟩

structure Rds where
  run : List AV → Tmps → Option (List AV)

def cOpds (rd : Operand → Rd) : List Operand → Rds
  | [] => ⟨fun _ _ => some []⟩
  | x :: r => let f := rd x; let g := cOpds rd r; ⟨fun vs t => opt (f.run vs t) (fun a => opt (g.run vs t) (fun l => some (a :: l)) none) none⟩

structure RdP where
  run : List AV → Tmps → Option (List (Nat × AV))

def cParts (rd : Operand → Rd) : List (Nat × Operand) → RdP
  | [] => ⟨fun _ _ => some []⟩
  | (i, x) :: r => let f := rd x; let g := cParts rd r; ⟨fun vs t => opt (f.run vs t) (fun a => opt (g.run vs t) (fun l => some ((i, a) :: l)) none) none⟩

structure RdO where
  run : List AV → Tmps → Option (Option AV)

def cOpt (rd : Operand → Rd) : Option Operand → RdO
  | none => ⟨fun _ _ => some none⟩
  | some x => let f := rd x; ⟨fun vs t => opt (f.run vs t) (fun a => some (some a)) none⟩

/-! blocks -/
def AB.get (b : AB) (i : Nat) : Option AV := match b with
  | .ce d base size pat _ _ => bi (Nat.blt i size) (match getP d (psN (Nat.add base i)) with
    | some v => some v
    | none => patAt pat (Nat.add base i)) none
  | .by n size _ _ => bi (Nat.blt i size) (forceNat (byteAt n i) fun v => some (.it .u8 (.ofNat v))) none
  | _ => none

def readFrom (b : AB) (o : Nat) : Nat → Option (List AV)
  | 0 => some []
  | n + 1 => match b.get o with
    | some v => match readFrom b (Nat.succ o) n with
      | some l => some (v :: l)
      | none => none
    | none => none

def readCells (h : Heap) (b : Ps) (o n : Nat) : Option (List AV) := match getP h b with
  | some blk => readFrom blk o n
  | none => none

def bytesOf : List AV → Option Nat
  | [] => some 0
  | .it .u8 (.ofNat v) :: r => match bytesOf r with
    | some n => bi (Nat.blt v 256) (some (Nat.add v (Nat.mul 256 n))) none
    | none => none
  | _ => none

def readBytes (h : Heap) (b : Ps) (o n : Nat) : Option Nat := match getP h b with
  | some (.by x size _ _) => bi (Nat.ble (Nat.add o n) size) (some (ext x o (Nat.add o n))) none
  | some blk => match readFrom blk o n with
    | some l => bytesOf l
    | none => none
  | none => none

def kills (h : Heap) (l : List Ps) (k : Heap → OR) : OR := match l with
  | [] => k h
  | b :: r => setK none b h fun h => kills h r k

def setAll {β : Type} (d : Trie AV) (i : Nat) (l : List AV) (k : Trie AV → β) : β := match l with
  | [] => k d
  | v :: r => setK (some v) (psN i) d fun d => setAll d (Nat.succ i) r k

def storeCells (h : Heap) (b : Ps) (o : Nat) (vs : List AV) (k : Heap → OR) : OR := match getP h b with
  | some (.ce d base size pat own anc) =>
    bi own (bi (Nat.ble (Nat.add o vs.length) size)
      (kills h anc fun h => setAll d (Nat.add base o) vs fun d => setK (some (.ce d base size pat true [])) b h k) (.bad "store: out of the block")) (.bad "store: not own")
  | some (.by x size own anc) => bi own (bi (Nat.ble (Nat.add o vs.length) size)
      (match bytesOf vs with
        | some y => kills h anc fun h => forceNat (splice x o vs.length y) fun z => setK (some (.by z size true [])) b h k
        | none => .bad "store: no bytes") (.bad "store: out of the block")) (.bad "store: not own")
  | _ => .bad "store: no block"

def copies (p : AV) : Nat → List AV
  | 0 => []
  | n + 1 => p :: copies p n

def cellsOf : AV → List AV
  | .rp p n => copies p n
  | .ag l => l
  | v => [v]

def isTu : AV → Bool
  | .tu _ => true
  | _ => false

/-- a new block -/
def newBlock (h : Heap) (m : Ps) (b : AB) (k : Heap → Ps → OR) : OR :=
  setK (some b) m h fun h => succK m fun m => k h m

def newCells (h : Heap) (m : Ps) (vs : List AV) (k : Heap → Ps → OR) : OR :=
  setAll .nil 0 vs fun d => forceNat vs.length fun n => newBlock h m (.ce d 0 n [] true []) k

/-! integers -/
def wrapF (k : IntKind) (n : Int) : Int := match k, n with
  | .i64, .ofNat a => bi (Nat.blt a 9223372036854775808) n (k.wrap n)
  | .i64, .negSucc a => bi (Nat.blt a 9223372036854775808) n (k.wrap n)
  | .u8, .ofNat a => .ofNat (Nat.mod a 256)
  | .u16, .ofNat a => .ofNat (Nat.mod a 65536)
  | .u32, .ofNat a => .ofNat (Nat.mod a 4294967296)
  | .u64, .ofNat a => .ofNat (Nat.mod a 18446744073709551616)
  | _, _ => k.wrap n

def mkInt (k : IntKind) (n : Int) (h : Heap) (m : Ps) : OR := forceInt n fun n => .val (.it k n) h m
def mkBool (b : Bool) (h : Heap) (m : Ps) : OR := bi b (.val (.bo true) h m) (.val (.bo false) h m)
def notB (b : Bool) : Bool := bi b false true

/-- both numbers not below 0 -/
def nats (a b : Int) (k : Nat → Nat → OR) : OR := match a, b with
  | .ofNat a, .ofNat b => k a b
  | _, _ => .bad "numbers below 0"

structure BinC where
  ri : IntKind → Int → Int → Heap → Ps → OR
  rs : Nat → Nat → Nat → Nat → Heap → Ps → OR
  re : Option Bool
  shift : Bool

def noStr : Nat → Nat → Nat → Nat → Heap → Ps → OR := fun _ _ _ _ _ _ => .bad "strings"

def cBin : BinOp → BinC
  | .add => ⟨fun k a b h m => mkInt k (wrapF k (Int.add a b)) h m,
      fun a la b lb h m => forceNat (cat a la b) fun c => forceNat (Nat.add la lb) fun l => bi (Nat.blt l 1099511627776) (.val (.st c l) h m) (.bad "string: too long"), none, false⟩
  | .sub => ⟨fun k a b h m => mkInt k (wrapF k (Int.sub a b)) h m, noStr, none, false⟩
  | .mul => ⟨fun k a b h m => mkInt k (wrapF k (Int.mul a b)) h m, noStr, none, false⟩
  | .eql => ⟨fun _ a b h m => mkBool (intEq a b) h m, fun a la b lb h m => mkBool (strEq a la b lb) h m, some true, false⟩
  | .neq => ⟨fun _ a b h m => mkBool (notB (intEq a b)) h m, fun a la b lb h m => mkBool (notB (strEq a la b lb)) h m, some false, false⟩
  | .lss => ⟨fun _ a b h m => mkBool (intLt a b) h m, fun a la b lb h m => mkBool (strLt a la b lb (Nat.succ la)) h m, none, false⟩
  | .leq => ⟨fun _ a b h m => mkBool (notB (intLt b a)) h m, fun a la b lb h m => mkBool (notB (strLt b lb a la (Nat.succ lb))) h m, none, false⟩
  | .gtr => ⟨fun _ a b h m => mkBool (intLt b a) h m, fun a la b lb h m => mkBool (strLt b lb a la (Nat.succ lb)) h m, none, false⟩
  | .geq => ⟨fun _ a b h m => mkBool (notB (intLt a b)) h m, fun a la b lb h m => mkBool (notB (strLt a la b lb (Nat.succ la))) h m, none, false⟩
  | .quo => ⟨fun k a b h m => nats a b fun a b => bi (Nat.beq b 0) (.bad "division by 0") (mkInt k (wrapF k (.ofNat (Nat.div a b))) h m), noStr, none, false⟩
  | .rem => ⟨fun k a b h m => nats a b fun a b => bi (Nat.beq b 0) (.bad "division by 0") (mkInt k (.ofNat (Nat.mod a b)) h m), noStr, none, false⟩
  | .and => ⟨fun k a b h m => nats a b fun a b => mkInt k (wrapF k (.ofNat (Nat.land a b))) h m, noStr, none, false⟩
  | .or => ⟨fun k a b h m => nats a b fun a b => mkInt k (wrapF k (.ofNat (Nat.lor a b))) h m, noStr, none, false⟩
  | .xor => ⟨fun k a b h m => nats a b fun a b => mkInt k (wrapF k (.ofNat (Nat.xor a b))) h m, noStr, none, false⟩
  | .andNot => ⟨fun k a b h m => nats a b fun a b => mkInt k (wrapF k (.ofNat (Nat.xor a (Nat.land a b)))) h m, noStr, none, false⟩
  | .shl => ⟨fun k a b h m => nats a b fun a b => bi (Nat.ble b k.bits) (mkInt k (wrapF k (.ofNat (Nat.mul a (Nat.pow 2 b)))) h m) (.bad "shift"), noStr, none, true⟩
  | .shr => ⟨fun k a b h m => nats a b fun a b => bi (Nat.ble b k.bits) (mkInt k (.ofNat (Nat.div a (Nat.pow 2 b))) h m) (.bad "shift"), noStr, none, true⟩

/-- equality of cells of plain types -/
def eqCell (u : TypeDesc) (a b : AV) : Option Bool := match u with
  | .int _ => match a, b with
    | .it k x, .it k' y => bi (kindEq k k') (some (intEq x y)) none
    | _, _ => none
  | .string => match a, b with
    | .st x lx, .st y ly => some (strEq x lx y ly)
    | _, _ => none
  | .bool => match a, b with
    | .bo x, .bo y => some (boolEq x y)
    | _, _ => none
  | _ => none

def eqFields (T : Tab) (l r : List AV) : List Field → Option Bool
  | [] => some true
  | f :: fs => match T.ty f.type with
    | none => none
    | some ti => match nth l f.offset, nth r f.offset with
      | some a, some b => match eqCell ti.u a b with
        | none => none
        | some e => bi e (eqFields T l r fs) (some false)
      | _, _ => none

def eqOp (T : Tab) (t : Nat) (lit : Bool) (a b : AV) : Option Bool := match T.ty t with
  | none => none
  | some ti => match ti.u with
    | .bool => match a, b with
      | .bo x, .bo y => some (boolEq x y)
      | _, _ => none
    | .pointer _ => match a, b with
      | .pz, .pz => some true
      | .pz, .pt _ _ => some false
      | .pt _ _, .pz => some false
      | _, _ => none
    | .slice _ => match a, b with
      | .sz, .sz => some true
      | .sz, .sl .. => some false
      | .sl .., .sz => some false
      | _, _ => none
    | .map _ _ => match a, b with
      | .mz, .mz => some true
      | .mz, .mp _ => some false
      | .mp _, .mz => some false
      | _, _ => none
    | .func _ _ _ => match a, b with
      | .fz, .fz => some true
      | .fz, .fn .. => some false
      | .fn .., .fz => some false
      | _, _ => none
    | .interface _ => match a, b with
      | .iz, .iz => bi lit (some true) none
      | .iz, .ic .. => some false
      | .ic .., .iz => some false
      | _, _ => none
    | .struct fs => match a, b with
      | .ag l, .ag r => bi (memNat t T.eqs) (eqFields T l r fs.toList) none
      | _, _ => none
    | _ => none

def eqRes (c : BinC) (r : Option Bool) (h : Heap) (m : Ps) : OR := match c.re, r with
  | some true, some r => mkBool r h m
  | some false, some r => mkBool (notB r) h m
  | _, _ => .bad "equality"

def binOpx (T : Tab) (t : Nat) (c : BinC) (lit : Bool) (a b : AV) (h : Heap) (m : Ps) : OR := match a with
  | .it k x => match b with
    | .it k' y => bi (bi c.shift true (kindEq k k')) (c.ri k x y h m) (.bad "kinds")
    | _ => .bad "binOp"
  | .st x lx => match b with
    | .st y ly => c.rs x lx y ly h m
    | _ => .bad "binOp"
  | a => eqRes c (eqOp T t lit a b) h m

/-! structs -/
def spliceL (cs : List AV) (off : Nat) (vs : List AV) : List AV := cs.take off ++ vs ++ cs.drop (off + vs.length)

def asIdx : AV → Option Nat
  | .it _ (.ofNat n) => some n
  | _ => none

def isU8 (T : Tab) (t : Nat) : Bool := match T.ty t with
  | some { u := .int .u8, size := s, .. } => Nat.beq s 1
  | _ => false

def fieldOf (T : Tab) (t f : Nat) : Option (Nat × TI) := match T.ty t with
  | some { u := .struct fs, .. } => match nth fs.toList f with
    | some fd => match T.ty fd.type with
      | some ti => some (fd.offset, ti)
      | none => none
    | none => none
  | _ => none

def elemOfSlice (T : Tab) (t : Nat) : Option (Nat × TI) := match T.ty t with
  | some { u := .slice e, .. } => match T.ty e with
    | some i => some (e, i)
    | none => none
  | _ => none

def partOf (cs : List AV) (off size : Nat) (agg : Bool) : Option AV :=
  bi agg (some (.ag ((cs.drop off).take size))) (nth cs off)

def buildParts (place : Nat → Option (Nat × Nat)) (cs : List AV) : List (Nat × AV) → Option (List AV)
  | [] => some cs
  | (i, v) :: r => match place i with
    | some (off, size) => bi (bi (isTu v) false (Nat.beq (cellsOf v).length size)) (bi (Nat.ble (Nat.add off size) cs.length) (buildParts place (spliceL cs off (cellsOf v)) r) none) none
    | none => none

def forceL {β : Type} (l : List AV) (k : List AV → β) : β := match l with
  | [] => k []
  | a :: l => forceL l fun l => k (a :: l)

def repeatL (z : List AV) : Nat → List AV
  | 0 => []
  | n + 1 => z ++ repeatL z n

/-! maps -/
def findEntry (u : TypeDesc) (k : AV) : List (AV × AV × Nat) → Option (Option (AV × Nat))
  | [] => some none
  | (a, v, b) :: r => match eqCell u k a with
    | some x => bi x (some (some (v, b))) (findEntry u k r)
    | none => none

def putEntry (u : TypeDesc) (k v : AV) (born : Nat) : List (AV × AV × Nat) → Option (Bool × List (AV × AV × Nat))
  | [] => some (true, [(k, v, born)])
  | (a, x, b) :: r => match eqCell u k a with
    | some e => bi e (some (false, (k, v, b) :: r)) (match putEntry u k v born r with
      | some (nw, r) => some (nw, (a, x, b) :: r)
      | none => none)
    | none => none

def dropEntry (u : TypeDesc) (k : AV) : List (AV × AV × Nat) → Option (List (AV × AV × Nat))
  | [] => some []
  | (a, x, b) :: r => match eqCell u k a with
    | some e => bi e (some r) (match dropEntry u k r with
      | some r => some ((a, x, b) :: r)
      | none => none)
    | none => none

/-- may a value be a key of such a type? -/
def keyOk (u : TypeDesc) (k : AV) : Bool := match u with
  | .int _ => match k with
    | .it .. => true
    | _ => false
  | .string => match k with
    | .st .. => true
    | _ => false
  | .bool => match k with
    | .bo _ => true
    | _ => false
  | _ => false

/-- a map type's key type -/
def keyTy (T : Tab) (t : Nat) : Option TypeDesc := match T.ty t with
  | some { u := .map k _, .. } => match T.ty k with
    | some ti => some ti.u
    | none => none
  | _ => none

/-! append -/
def appendU8 (h : Heap) (m : Ps) (s : AV) (x n : Nat) : OR := match s with
  | .sz => bi (Nat.beq n 0) (.val .sz h m) (newBlock h m (.by x n true []) fun h m' => .val (.sl m 0 n n 1 true) h m')
  | .sl b o len cap e op =>
    bi (Nat.beq n 0) (.val s h m) (bi (Nat.beq e 1) (forceNat (Nat.add len n) fun l => bi (Nat.ble l cap)
      (match getP h b with
        | some (.by y size own anc) => bi own (bi (Nat.ble (Nat.add o l) size)
            (kills h anc fun h => forceNat (splice y (Nat.add o len) n x) fun z => setK (some (.by z size true [])) b h fun h => .val (.sl b o l cap e op) h m) (.bad "append: out of block")) (.bad "append: not own")
        | _ => .bad "append: no bytes")
      (bi (Nat.beq len 0)
        (bi op (match getP h b with
          | some (.by _ _ own anc) => bi own (kills h (b :: anc) fun h => newBlock h m (.by x n true []) fun h m' => .val (.sl m 0 n n 1 true) h m') (.bad "append: not own (fork)")
          | _ => .bad "append: no bytes")
          (newBlock h m (.by x n true []) fun h m' => .val (.sl m 0 n n 1 true) h m'))
        (match readBytes h b o len with
        | none => .bad "append: unread"
        | some y => forceNat (cat y len x) fun z =>
          bi op
            (match getP h b with
              | some (.by y' size own anc) => bi own (bi (Nat.beq (Nat.add o len) size)
                  (setK (some (.by y' size false [])) b h fun h => newBlock h m (.by z l true (b :: anc)) fun h m' => .val (.sl m 0 l l 1 true) h m')
                  (kills h (b :: anc) fun h => newBlock h m (.by z l true []) fun h m' => .val (.sl m 0 l l 1 true) h m')) (.bad "append: not own (fork)")
              | _ => .bad "append: no bytes")
            (newBlock h m (.by z l true []) fun h m' => .val (.sl m 0 l l 1 true) h m')))) (.bad "append: size"))
  | _ => .bad "append"

def appendC (h : Heap) (m : Ps) (e : Nat) (s : AV) (vs : List AV) (n : Nat) : OR := match s with
  | .sz => bi (Nat.beq n 0) (.val .sz h m) (newCells h m vs fun h m' => .val (.sl m 0 n n e true) h m')
  | .sl b o len cap e' op =>
    bi (Nat.beq n 0) (.val s h m) (bi (Nat.beq e e') (forceNat (Nat.add len n) fun l => bi (Nat.ble l cap)
      (storeCells h b (Nat.add o (Nat.mul len e)) vs fun h => .val (.sl b o l cap e op) h m)
      (match getP h b with
        | some (.ce d base size pat own anc) =>
          forceNat (Nat.mul l e) fun sz => forceNat (Nat.add base o) fun base' => setAll d (Nat.add base' (Nat.mul len e)) vs fun d' =>
          bi (Nat.ble (Nat.add o (Nat.mul len e)) size)
            (bi op
              (bi own (bi (Nat.beq (Nat.add o (Nat.mul len e)) size)
                (setK (some (.ce d base size pat false [])) b h fun h => newBlock h m (.ce d' base' sz pat true (b :: anc)) fun h m' => .val (.sl m 0 l l e true) h m')
                (kills h (b :: anc) fun h => newBlock h m (.ce d' base' sz pat true []) fun h m' => .val (.sl m 0 l l e true) h m')) (.bad "append: not own (fork)"))
              (newBlock h m (.ce d' base' sz pat true []) fun h m' => .val (.sl m 0 l l e true) h m')) (.bad "append: out of block")
        | _ => .bad "append: no cells")) (.bad "append: size"))
  | _ => .bad "append"

def lenSl : AV → Option Nat
  | .sz => some 0
  | .sl _ _ len _ _ _ => some len
  | .st _ len => some len
  | _ => none

def readSl (h : Heap) (e : Nat) : AV → Option (List AV)
  | .sz => some []
  | .sl b o len _ e' _ => bi (Nat.beq e e') (bi (Nat.beq len 0) (some []) (readCells h b o (Nat.mul len e))) none
  | _ => none

def readSlB (h : Heap) : AV → Option (Nat × Nat)
  | .sz => some (0, 0)
  | .st n len => some (n, len)
  | .sl b o len _ e _ => bi (Nat.beq e 1) (bi (Nat.beq len 0) (some (0, 0)) (match readBytes h b o len with
    | some n => some (n, len)
    | none => none)) none
  | _ => none

/-- is a zero value that of a byte? -/
def isZ8 : List AV → Bool
  | [.it .u8 (.ofNat n)] => Nat.beq n 0
  | _ => false

/-- is append's second argument a length (of zeros)? -/
def zerosOf (T : Tab) : List Nat → Option Bool
  | xt :: _ => match T.ty xt with
    | none => none
    | some ti => match ti.u with
      | .int _ => some true
      | _ => some false
  | [] => some false

/-- is a slice that would be this long below the model's bounds? -/
def roomy (ti : TI) (a b : Nat) : Bool := bi (Nat.blt (Nat.add a b) 16777216) (bi (Nat.blt ti.bytes 4096) (Nat.blt 0 ti.bytes) false) false

def appendOp (T : Tab) (argTypes : List Nat) (args : List AV) (h : Heap) (m : Ps) : OR := match argTypes with
  | [] => .bad "append: args"
  | st :: rest => match args with
    | s :: x :: _ => match elemOfSlice T st with
      | none => .bad "append: type"
      | some (et, ti) => match zerosOf T rest with
        | none => .bad "append: type"
        | some z => match lenSl s with
          | none => .bad "append: length"
          | some ls => match bi z (asIdx x) (lenSl x) with
            | none => .bad "append: length"
            | some n => bi (bi ti.zok (roomy ti ls n) false) (bi (isU8 T et)
                (bi z (bi (isZ8 ti.zero) (appendU8 h m s 0 n) (.bad "append: zero")) (match readSlB h x with
                  | some (y, _) => forceNat y fun y => appendU8 h m s y n
                  | none => .bad "append: bytes unread"))
                (bi z (forceL (repeatL ti.zero n) fun vs => appendC h m ti.size s vs n) (match readSl h ti.size x with
                  | some vs => appendC h m ti.size s vs n
                  | none => .bad "append: cells unread"))) (.bad "append: large")
    | _ => .bad "append: args"

def copyOp (T : Tab) (argTypes : List Nat) (args : List AV) (h : Heap) (m : Ps) : OR := match argTypes with
  | [] => .bad "copy: args"
  | st :: _ => match args with
    | d :: s :: _ => match elemOfSlice T st with
      | none => .bad "copy: type"
      | some (et, ti) => match lenSl s with
        | none => .bad "copy: len"
        | some ls => match d with
          | .sz => .val (.it .i64 (.ofNat 0)) h m
          | .sl b o ld _ e _ => forceNat (bi (Nat.ble ls ld) ls ld) fun n => bi (Nat.beq n 0) (.val (.it .i64 (.ofNat 0)) h m) (bi (Nat.beq e ti.size)
            (bi (isU8 T et)
              (match readSlB h s with
                | some (y, _) => forceNat (ext y 0 n) fun y => match getP h b with
                  | some (.by z size own anc) => bi own (bi (Nat.ble (Nat.add o n) size) (kills h anc fun h => forceNat (splice z o n y) fun z => setK (some (.by z size true [])) b h fun h => .val (.it .i64 (.ofNat n)) h m) (.bad "copy: out")) (.bad "copy: not own")
                  | _ => .bad "copy: no bytes"
                | none => .bad "copy: unread")
              (match readSl h ti.size s with
                | some vs => forceL (vs.take (Nat.mul n e)) fun vs => storeCells h b o vs fun h => .val (.it .i64 (.ofNat n)) h m
                | none => .bad "copy: unread")) (.bad "copy: size"))
          | _ => .bad "copy: dst"
    | _ => .bad "copy: args"

def maxL (mx : Bool) (a : AV) : List AV → Option AV
  | [] => some a
  | b :: r => match a, b with
    | .it k x, .it _ y => maxL mx (bi (bi mx (intLt x y) (intLt y x)) (.it k y) (.it k x)) r
    | _, _ => none

def lenOp (T : Tab) (argTypes : List Nat) (args : List AV) (h : Heap) (m : Ps) : OR := match argTypes, args with
  | t :: _, a :: _ => match T.ty t with
    | none => .bad "len: type"
    | some ti => match ti.u with
      | .string => match a with
        | .st _ n => .val (.it .i64 (.ofNat n)) h m
        | _ => .bad "len"
      | .slice _ => match a with
        | .sz => .val (.it .i64 (.ofNat 0)) h m
        | .sl _ _ n _ _ _ => .val (.it .i64 (.ofNat n)) h m
        | _ => .bad "len"
      | .map _ _ => match a with
        | .mz => .val (.it .i64 (.ofNat 0)) h m
        | .mp r => match getP h r with
          | some (.ma es _) => mkInt .i64 (.ofNat es.length) h m
          | _ => .bad "len: map"
        | _ => .bad "len"
      | .array n _ => .val (.it .i64 (.ofNat n)) h m
      | .pointer p => match T.ty p with
        | some { u := .array n _, .. } => .val (.it .i64 (.ofNat n)) h m
        | _ => .bad "len"
      | _ => .bad "len"
  | _, _ => .bad "len: args"

def capOp (T : Tab) (argTypes : List Nat) (args : List AV) (h : Heap) (m : Ps) : OR := match argTypes, args with
  | t :: _, a :: _ => match T.ty t with
    | some { u := .slice _, .. } => match a with
      | .sz => .val (.it .i64 (.ofNat 0)) h m
      | .sl _ _ _ c _ op => bi op (.bad "cap: open") (.val (.it .i64 (.ofNat c)) h m)
      | _ => .bad "cap"
    | _ => .bad "cap: type"
  | _, _ => .bad "cap: args"

def clearOp (T : Tab) (argTypes : List Nat) (args : List AV) (h : Heap) (m : Ps) : OR := match argTypes with
  | [] => .bad "clear"
  | t :: _ => match args with
    | a :: _ => match T.ty t with
      | none => .bad "clear: type"
      | some tt => match a with
        | .sz => .val (.tu []) h m
        | .mz => .val (.tu []) h m
        | .mp r => match getP h r with
          | some (.ma _ c) => setK (some (.ma [] c)) r h fun h => .val (.tu []) h m
          | _ => .bad "clear: map"
        | .sl b o len _ e _ => bi (Nat.beq len 0) (.val (.tu []) h m) (match tt.u with
          | .slice el => match T.ty el with
            | some ti => bi (bi ti.zok (Nat.beq e ti.size) false) (forceL (repeatL ti.zero len) fun vs => storeCells h b o vs fun h => .val (.tu []) h m) (.bad "clear")
            | none => .bad "clear: type"
          | _ => .bad "clear: type")
        | _ => .bad "clear"
    | _ => .bad "clear"

def deleteOp (T : Tab) (argTypes : List Nat) (args : List AV) (h : Heap) (m : Ps) : OR := match argTypes, args with
  | t :: _, [x, k] => match keyTy T t with
    | none => .bad "delete"
    | some u => bi (keyOk u k) (match x with
      | .mz => .val (.tu []) h m
      | .mp r => match getP h r with
        | some (.ma es c) => match dropEntry u k es with
          | some es => setK (some (.ma es c)) r h fun h => .val (.tu []) h m
          | none => .bad "delete"
        | _ => .bad "delete"
      | _ => .bad "delete") (.bad "delete")
  | _, _ => .bad "delete"

def mnmx (mx : Bool) (args : List AV) (h : Heap) (m : Ps) : OR := match args with
  | a :: r => match maxL mx a r with
    | some (.it k n) => mkInt k n h m
    | _ => .bad "max"
  | [] => .bad "max"

structure BlC where
  run : Tab → List Nat → List AV → Heap → Ps → OR

def cBuiltin : Builtin → BlC
  | .append => ⟨appendOp⟩
  | .copy => ⟨copyOp⟩
  | .len => ⟨lenOp⟩
  | .cap => ⟨capOp⟩
  | .clear => ⟨clearOp⟩
  | .delete => ⟨deleteOp⟩
  | .max => ⟨fun _ _ => mnmx true⟩
  | .min => ⟨fun _ _ => mnmx false⟩
  | _ => ⟨fun _ _ _ _ _ => .bad "builtin"⟩

def bound (v : Option AV) (d hi : Nat) : Option Nat := match v with
  | none => some d
  | some v => match asIdx v with
    | some n => bi (Nat.ble n hi) (some n) none
    | none => none

/-- the bounds of a slice expression -/
def bounds (len cap : Nat) (lo hi mx : Option AV) (k : Nat → Nat → Nat → OR) : OR := match bound mx cap cap with
  | none => .bad "slice: max"
  | some c => match hi with
    | none => match mx with
      | some _ => .bad "slice: max without high"
      | none => match bound lo 0 len with
        | some l => k l len c
        | none => .bad "slice: low"
    | some hi => match bound (some hi) 0 c with
      | none => .bad "slice: high"
      | some hh => match bound lo 0 hh with
        | some l => k l hh c
        | none => .bad "slice: low"

def isNo {α : Type} : Option α → Bool
  | none => true
  | some _ => false

def sliceOp (T : Tab) (xt : Nat) (x : AV) (lo hi mx : Option AV) (h : Heap) (m : Ps) : OR := match T.ty xt with
  | none => .bad "slice: type"
  | some ti => match ti.u with
    | .string => match x with
      | .st n len => bi (isNo mx) (bounds len len lo hi mx fun l hh _ => forceNat (ext n l hh) fun z => forceNat (Nat.sub hh l) fun k => .val (.st z k) h m) (.bad "slice: string")
      | _ => .bad "slice: string"
    | .slice el => match T.ty el with
      | none => .bad "slice: type"
      | some te => match x with
        | .sz => bounds 0 0 lo hi mx fun _ _ _ => .val .sz h m
        | .sl b o len cap e op => bi (Nat.beq e te.size) (bounds len cap lo hi mx fun l hh c => forceNat (Nat.add o (Nat.mul l e)) fun o' => forceNat (Nat.sub hh l) fun k => forceNat (Nat.sub c l) fun c' =>
          .val (.sl b o' k c' e (bi (isNo mx) op false)) h m) (.bad "slice: size")
        | _ => .bad "slice"
    | .array n el => match T.ty el with
      | none => .bad "slice: type"
      | some te => match x with
        | .pt b o => bounds n n lo hi mx fun l hh c => forceNat (Nat.add o (Nat.mul l te.size)) fun o' => forceNat (Nat.sub hh l) fun k => forceNat (Nat.sub c l) fun c' => .val (.sl b o' k c' te.size false) h m
        | _ => .bad "slice"
    | _ => .bad "slice"

def loadOp (T : Tab) (t : Nat) (a : AV) (h : Heap) (m : Ps) : OR := match a with
  | .pt b o => match T.ty t with
    | some ti => bi ti.agg
      (match readCells h b o ti.size with
        | some l => .val (.ag l) h m
        | none => .bad "load: cells")
      (match getP h b with
        | some blk => match blk.get o with
          | some v => .val v h m
          | none => .bad "load: cell"
        | none => .bad "load: block")
    | none => .bad "load: type"
  | _ => .bad "load: no address"

def storeOp (T : Tab) (t : Nat) (a x : AV) (h : Heap) (m : Ps) : OR := match a with
  | .pt b o => match T.ty t with
    | some ti => bi (isTu x) (.bad "store: tuple") (bi (Nat.beq (cellsOf x).length ti.size) (storeCells h b o (cellsOf x) fun h => .val (.tu []) h m) (.bad "store: size"))
    | none => .bad "store: type"
  | _ => .bad "store: no address"

def allocOp (T : Tab) (t : Nat) (h : Heap) (m : Ps) : OR := match T.ty t with
  | some ti => bi ti.zok (newBlock h m (.ce .nil 0 ti.size ti.pat true []) fun h m' => .val (.pt m 0) h m') (.bad "alloc: no zero")
  | none => .bad "alloc"

def boxOp (v : AV) (h : Heap) (m : Ps) : OR := match v with
  | .rp p n => newBlock h m (.ce .nil 0 n [p] true []) fun h m' => .val (.pt m 0) h m'
  | v => bi (isTu v) (.bad "box") (newCells h m (cellsOf v) fun h m' => .val (.pt m 0) h m')

def placeIn (T : Tab) (fs : List Field) (i : Nat) : Option (Nat × Nat) := match nth fs i with
  | some fd => match T.ty fd.type with
    | some ti => some (fd.offset, ti.size)
    | none => none
  | none => none

def buildOp (T : Tab) (t : Nat) (parts : List (Nat × AV)) (h : Heap) (m : Ps) : OR := match T.ty t with
  | some tb => bi tb.zok (match tb.u with
    | .struct fs => match buildParts (placeIn T fs.toList) tb.zero parts with
      | some l => forceL l fun l => .val (.ag l) h m
      | none => .bad "build"
    | .array _ el => match T.ty el with
      | some ti => match parts, tb.pat, tb.zero with
        | [], [_], p :: _ => .val (.rp p tb.size) h m
        | _, _, _ => match buildParts (fun i => some (Nat.mul i ti.size, ti.size)) tb.zero parts with
          | some l => forceL l fun l => .val (.ag l) h m
          | none => .bad "build"
      | none => .bad "build"
    | _ => .bad "build") (.bad "build: no zero")
  | none => .bad "build"

def buildSliceOp (T : Tab) (t len : Nat) (parts : List (Nat × AV)) (h : Heap) (m : Ps) : OR := match elemOfSlice T t with
  | some (et, ti) => bi (bi ti.zok (Nat.ble (Nat.mul len ti.size) 16777216) false) (match buildParts (fun i => some (Nat.mul i ti.size, ti.size)) (repeatL ti.zero len) parts with
    | some l => bi (isU8 T et)
      (match bytesOf l with
        | some n => forceNat n fun n => newBlock h m (.by n len true []) fun h m' => .val (.sl m 0 len len 1 false) h m'
        | none => .bad "buildSlice")
      (forceL l fun l => newCells h m l fun h m' => .val (.sl m 0 len len ti.size false) h m')
    | none => .bad "buildSlice") (.bad "buildSlice: large")
  | none => .bad "buildSlice"

def makeSliceOp (T : Tab) (t : Nat) (len cap : AV) (h : Heap) (m : Ps) : OR := match elemOfSlice T t with
  | some (et, ti) => match asIdx len, asIdx cap with
    | some l, some c => bi (Nat.ble l c) (bi (bi ti.zok (roomy ti c 0) false)
      (bi (isU8 T et)
        (bi (isZ8 ti.zero) (newBlock h m (.by 0 c true []) fun h m' => .val (.sl m 0 l c 1 false) h m') (.bad "makeSlice: zero"))
        (forceNat (Nat.mul c ti.size) fun sz => newBlock h m (.ce .nil 0 sz ti.zero true []) fun h m' => .val (.sl m 0 l c ti.size false) h m')) (.bad "makeSlice: large")) (.bad "makeSlice")
    | _, _ => .bad "makeSlice"
  | none => .bad "makeSlice"

def convertOp (T : Tab) (src dst : Nat) (x : AV) (h : Heap) (m : Ps) : OR := match T.ty src with
  | none => .bad "convert: type"
  | some ts => match T.ty dst with
    | none => .bad "convert: type"
    | some td => match x with
      | .it _ n => match td.u with
        | .int k => mkInt k (wrapF k n) h m
        | _ => .bad "convert: int"
      | .st n len => match td.u with
        | .string => .val x h m
        | .slice e => bi (isU8 T e) (newBlock h m (.by n len true []) fun h m' => .val (.sl m 0 len len 1 true) h m') (.bad "convert: string")
        | _ => .bad "convert: string"
      | .sz => match td.u, ts.u with
        | .string, .slice e => bi (isU8 T e) (.val (.st 0 0) h m) (.bad "convert: slice")
        | _, _ => .bad "convert: slice"
      | .sl b o len _ e _ => match td.u, ts.u with
        | .string, .slice el => bi (isU8 T el) (bi (Nat.beq e 1) (bi (Nat.beq len 0) (.val (.st 0 0) h m) (match readBytes h b o len with
          | some n => forceNat n fun n => .val (.st n len) h m
          | none => .bad "convert: unread")) (.bad "convert: size")) (.bad "convert: slice")
        | _, _ => .bad "convert: slice"
      | _ => .bad "convert"

def indexAddrOp (T : Tab) (t : Nat) (x i : AV) (h : Heap) (m : Ps) : OR := match asIdx i with
  | none => .bad "index: negative"
  | some i => match x with
    | .sl b o len _ e _ => match elemOfSlice T t with
      | some (_, ti) => bi (Nat.beq ti.size e) (bi (Nat.blt i len) (forceNat (Nat.add o (Nat.mul i e)) fun o => .val (.pt b o) h m) (.bad "index: out of range")) (.bad "index: size")
      | none => .bad "index: type"
    | .pt b o => match T.ty t with
      | some { u := .array n el, .. } => match T.ty el with
        | some ti => bi (Nat.blt i n) (forceNat (Nat.add o (Nat.mul i ti.size)) fun o => .val (.pt b o) h m) (.bad "index: out of range")
        | none => .bad "index: type"
      | _ => .bad "index: type"
    | _ => .bad "index: no slice"

def indexOp (T : Tab) (t : Nat) (x i : AV) (h : Heap) (m : Ps) : OR := match asIdx i with
  | none => .bad "index: negative"
  | some i => match x with
    | .st n len => match T.ty t with
      | some { u := .string, .. } => bi (Nat.blt i len) (forceNat (byteAt n i) fun v => .val (.it .u8 (.ofNat v)) h m) (.bad "index: out of range")
      | _ => .bad "index: type"
    | .ag cs => match T.ty t with
      | some { u := .array n el, .. } => match T.ty el with
        | some ti => bi (Nat.blt i n) (match partOf cs (Nat.mul i ti.size) ti.size ti.agg with
          | some v => .val v h m
          | none => .bad "index: part") (.bad "index: out of range")
        | none => .bad "index: type"
      | _ => .bad "index: type"
    | _ => .bad "index"

def fieldAddrOp (T : Tab) (t : Nat) (x : AV) (f : Nat) (h : Heap) (m : Ps) : OR := match x with
  | .pt b o => match fieldOf T t f with
    | some (off, ti) => bi (Nat.blt 0 ti.size) (forceNat (Nat.add o off) fun o => .val (.pt b o) h m) (.bad "fieldAddr: no size")
    | none => .bad "fieldAddr"
  | _ => .bad "fieldAddr"

def fieldOp (T : Tab) (t : Nat) (x : AV) (f : Nat) (h : Heap) (m : Ps) : OR := match x with
  | .ag cs => match fieldOf T t f with
    | some (off, ti) => match partOf cs off ti.size ti.agg with
      | some (.ag l) => forceL l fun l => .val (.ag l) h m
      | some v => .val v h m
      | none => .bad "field"
    | none => .bad "field"
  | _ => .bad "field"

def zeroOf (ti : TI) : AV := bi ti.agg (.ag ti.zero) (match ti.zero with
  | v :: _ => v
  | [] => .tu [])

def entriesOf (h : Heap) : AV → Option (List (AV × AV × Nat))
  | .mz => some []
  | .mp r => match getP h r with
    | some (.ma es _) => some es
    | _ => none
  | _ => none

def lookupOp (T : Tab) (t : Nat) (x k : AV) (commaOk : Bool) (h : Heap) (m : Ps) : OR := match T.ty t with
  | some { u := .map kt el, .. } => match T.ty el, T.ty kt with
    | some ti, some tk => bi (keyOk tk.u k) (match entriesOf h x with
      | none => .bad "lookup"
      | some es => match findEntry tk.u k es with
        | none => .bad "lookup"
        | some (some (v, _)) => bi commaOk (.val (.tu [v, .bo true]) h m) (.val v h m)
        | some none => bi ti.zok (bi commaOk (.val (.tu [zeroOf ti, .bo false]) h m) (.val (zeroOf ti) h m)) (.bad "lookup: no zero")) (.bad "lookup: key")
    | _, _ => .bad "lookup"
  | _ => .bad "lookup"

def mapUpdateOp (T : Tab) (t : Nat) (x k v : AV) (h : Heap) (m : Ps) : OR := match keyTy T t with
  | none => .bad "mapUpdate"
  | some u => bi (keyOk u k) (match x with
    | .mp r => match getP h r with
      | some (.ma es c) => match putEntry u k v c es with
        | some (nw, es) => bi nw (forceNat (Nat.succ c) fun c => setK (some (.ma es c)) r h fun h => .val (.tu []) h m) (setK (some (.ma es c)) r h fun h => .val (.tu []) h m)
        | none => .bad "mapUpdate"
      | _ => .bad "mapUpdate"
    | _ => .bad "mapUpdate") (.bad "mapUpdate: key")

def nextOp (it : AV) (isString : Bool) (h : Heap) (m : Ps) : OR := match it with
  | .pt r 0 => match getP h r, isString with
    | some (.mi none _ _ _), false => .val (.tu [.bo false]) h m
    | some (.mi (some mp) since seen last), false => match getP h mp with
      | some (.ma es c) =>
        match seen.isEmpty || es.isEmpty || es.any fun e => Nat.blt e.2.2 last, es.filter fun e => !seen.contains e.2.2 with
        | true, [] => .val (.tu [.bo false]) h m
        | true, [(k, v, b)] => bi (Nat.blt b since) (setK (some (.mi (some mp) since (seen ++ [b]) c)) r h fun h => .val (.tu [.bo true, k, v]) h m) (.bad "next: order")
        | _, _ => .bad "next: order"
      | _ => .bad "next"
    | _, _ => .bad "next"
  | _ => .bad "next"

def entryOp (it : AV) (h : Heap) (m : Ps) : OR := match it with
  | .pt r 0 => match getP h r with
    | some (.mi (some mp) _ seen stepped) => match getP h mp, seen.getLast? with
      | some (.ma es c), some b => bi (Nat.beq c stepped) (match es.find? (fun e => Nat.beq e.2.2 b) with
        | some (k, v, _) => .val (.tu [k, v]) h m
        | none => .bad "entry") (.bad "entry")
      | _, _ => .bad "entry"
    | _ => .bad "entry"
  | _ => .bad "entry"

def rangeOp (x : AV) (h : Heap) (m : Ps) : OR := match x with
  | .mz => newBlock h m (.mi none 0 [] 0) fun h m' => .val (.pt m 0) h m'
  | .mp r => match getP h r with
    | some (.ma _ c) => newBlock h m (.mi (some r) c [] c) fun h m' => .val (.pt m 0) h m'
    | _ => .bad "range"
  | _ => .bad "range"

/-- a call of a function value -/
def callVal (f : AV) (args : List AV) : OR := match f with
  | .fn (.func g) first caps => forceL (first ++ args ++ caps) fun l => .call g l
  | .fn (.methodOf _ n) _ _ => .bad ("call: methodOf " ++ n)
  | .fn (.method n) _ _ => .bad ("call: method " ++ n)
  | .fn (.via ..) _ _ => .bad "call: via"
  | .fn (.yield _) _ _ => .bad "call: yield"
  | _ => .bad "call: no function"

def nilCheckOp (x : AV) (h : Heap) (m : Ps) : OR := match x with
  | .pt b o => .val (.pt b o) h m
  | .fn (.func f) a b => .val (.fn (.func f) a b) h m
  | .ic ty v => .val (.ic ty v) h m
  | _ => .bad "nilCheck"

def unOpx (op : UnOp) (x : AV) (h : Heap) (m : Ps) : OR := match op, x with
  | .not, .bo b => mkBool (notB b) h m
  | .neg, .it k n => mkInt k (wrapF k (Int.sub 0 n)) h m
  | _, _ => .bad "unOp"

def typeAssertOp (x : AV) (asserted : Nat) (agg : Bool) (ok : Bool) (h : Heap) (m : Ps) : OR := match x with
  | .ic ty v => bi (Nat.beq ty asserted) (bi agg (.bad "typeAssert") (bi ok (.val (.tu [v, .bo true]) h m) (.val v h m))) (.bad "typeAssert")
  | _ => .bad "typeAssert"

def isIface (T : Tab) (t : Nat) : Bool := match T.ty t with
  | none => true
  | some ti => match ti.u with
    | .interface _ => true
    | _ => false

def isLit : Operand → Bool
  | .const _ => true
  | _ => false

structure OpC where
  run : Tab → List AV → Tmps → Heap → Ps → OR

def noOp (w : String) : OpC := ⟨fun _ _ _ _ _ => .bad w⟩

def cCall (rd : Operand → Rd) (c : Call) : OpC := match c.callee with
  | .builtin b => let f0 := cOpds rd c.args.toList; let cb := cBuiltin b; ⟨fun T vs t h m => opt (f0.run vs t) (fun args => cb.run T c.argTypes.toList args h m) (.bad "call: args")⟩
  | .value (.func f) => let f0 := cOpds rd c.args.toList; ⟨fun _ vs t _ _ => opt (f0.run vs t) (fun args => .call f args) (.bad "call: args")⟩
  | .value x => let f0 := cOpds rd c.args.toList; let f1 := rd x; ⟨fun _ vs t _ _ => opt (f0.run vs t) (fun args => opt (f1.run vs t) (fun f => callVal f args) (.bad "call")) (.bad "call: args")⟩
  | .invoke _ n => noOp ("invoke " ++ n)

def cDefer (rd : Operand → Rd) (c : Call) : OpC := match c.callee with
  | .value x => let f0 := cOpds rd c.args.toList; let f1 := rd x; ⟨fun _ vs t _ _ => opt (f0.run vs t) (fun args => opt (f1.run vs t) (fun f => match f with
    | .fn (.func f) [] caps => .dfr ⟨.func f, caps, args⟩
    | _ => .bad "defer") (.bad "defer")) (.bad "defer")⟩
  | _ => noOp "defer"

def cOp (rd : Operand → Rd) (o : Op) : OpC := match o with
  | .move x => let f0 := rd x; ⟨fun _ vs t h m => opt (f0.run vs t) (fun v => .val v h m) (.bad "move")⟩
  | .assign x => let f0 := rd x; ⟨fun _ vs t h m => opt (f0.run vs t) (fun v => .val v h m) (.bad "assign")⟩
  | .pick c a b => let f0 := rd c; let f1 := rd a; let f2 := rd b; ⟨fun _ vs t h m => match f0.run vs t with
    | some (.bo c) => bi c (opt (f1.run vs t) (fun v => .val v h m) (.bad "pick")) (opt (f2.run vs t) (fun v => .val v h m) (.bad "pick"))
    | _ => .bad "pick"⟩
  | .alloc e => ⟨fun T _ _ h m => allocOp T e h m⟩
  | .box _ x => let f0 := rd x; ⟨fun _ vs t h m => opt (f0.run vs t) (fun v => boxOp v h m) (.bad "box")⟩
  | .build ty ps => let f0 := cParts rd ps.toList; ⟨fun T vs t h m => opt (f0.run vs t) (fun ps => buildOp T ty ps h m) (.bad "build")⟩
  | .buildSlice ty len ps => let f0 := cParts rd ps.toList; ⟨fun T vs t h m => opt (f0.run vs t) (fun ps => buildSliceOp T ty len ps h m) (.bad "buildSlice")⟩
  | .load ty a => let f0 := rd a; ⟨fun T vs t h m => opt (f0.run vs t) (fun a => loadOp T ty a h m) (.bad "load")⟩
  | .store ty a x => let f0 := rd a; let f1 := rd x; ⟨fun T vs t h m => opt (f0.run vs t) (fun a => opt (f1.run vs t) (fun x => storeOp T ty a x h m) (.bad "store")) (.bad "store")⟩
  | .nilCheck x => let f0 := rd x; ⟨fun _ vs t h m => opt (f0.run vs t) (fun v => nilCheckOp v h m) (.bad "nilCheck")⟩
  | .binOp op ty x y _ => let f0 := rd x; let f1 := rd y; let cb := cBin op; let lit := bi (isLit x) true (isLit y); ⟨fun T vs t h m => opt (f0.run vs t) (fun a => opt (f1.run vs t) (fun b => binOpx T ty cb lit a b h m) (.bad "binOp")) (.bad "binOp")⟩
  | .unOp op _ x => let f0 := rd x; ⟨fun _ vs t h m => opt (f0.run vs t) (fun v => unOpx op v h m) (.bad "unOp")⟩
  | .convert src dst x => let f0 := rd x; ⟨fun T vs t h m => opt (f0.run vs t) (fun v => convertOp T src dst v h m) (.bad "convert")⟩
  | .makeInterface xt x => let f0 := rd x; ⟨fun T vs t h m => opt (f0.run vs t) (fun v => bi (isIface T xt) (.bad "makeInterface") (.val (.ic xt v) h m)) (.bad "makeInterface")⟩
  | .makeFunc fn first caps => let f0 := cOpds rd first.toList; let f1 := cOpds rd caps.toList; ⟨fun _ vs t h m => opt (f0.run vs t) (fun a => opt (f1.run vs t) (fun b => .val (.fn fn a b) h m) (.bad "makeFunc")) (.bad "makeFunc")⟩
  | .makeMap _ none => ⟨fun _ _ _ h m => newBlock h m (.ma [] 0) fun h m' => .val (.mp m) h m'⟩
  | .makeSlice ty l c => let f0 := rd l; let f1 := rd c; ⟨fun T vs t h m => opt (f0.run vs t) (fun l => opt (f1.run vs t) (fun c => makeSliceOp T ty l c h m) (.bad "makeSlice")) (.bad "makeSlice")⟩
  | .slice xt x lo hi mx => let f0 := rd x; let f1 := cOpt rd lo; let f2 := cOpt rd hi; let f3 := cOpt rd mx; ⟨fun T vs t h m => opt (f0.run vs t) (fun x => opt (f1.run vs t) (fun lo => opt (f2.run vs t) (fun hi => opt (f3.run vs t) (fun mx => sliceOp T xt x lo hi mx h m) (.bad "slice")) (.bad "slice")) (.bad "slice")) (.bad "slice")⟩
  | .fieldAddr ty x f => let f0 := rd x; ⟨fun T vs t h m => opt (f0.run vs t) (fun v => fieldAddrOp T ty v f h m) (.bad "fieldAddr")⟩
  | .field ty x f => let f0 := rd x; ⟨fun T vs t h m => opt (f0.run vs t) (fun v => fieldOp T ty v f h m) (.bad "field")⟩
  | .indexAddr ty x i => let f0 := rd x; let f1 := rd i; ⟨fun T vs t h m => opt (f0.run vs t) (fun x => opt (f1.run vs t) (fun i => indexAddrOp T ty x i h m) (.bad "indexAddr")) (.bad "indexAddr")⟩
  | .index ty x i => let f0 := rd x; let f1 := rd i; ⟨fun T vs t h m => opt (f0.run vs t) (fun x => opt (f1.run vs t) (fun i => indexOp T ty x i h m) (.bad "index")) (.bad "index")⟩
  | .lookup ty x k ok => let f0 := rd x; let f1 := rd k; ⟨fun T vs t h m => opt (f0.run vs t) (fun x => opt (f1.run vs t) (fun k => lookupOp T ty x k ok h m) (.bad "lookup")) (.bad "lookup")⟩
  | .mapUpdate ty x k v => let f0 := rd x; let f1 := rd k; let f2 := rd v; ⟨fun T vs t h m => opt (f0.run vs t) (fun x => opt (f1.run vs t) (fun k => opt (f2.run vs t) (fun v => mapUpdateOp T ty x k v h m) (.bad "mapUpdate")) (.bad "mapUpdate")) (.bad "mapUpdate")⟩
  | .insert ty x k v => let f0 := rd x; let f1 := rd k; let f2 := rd v; ⟨fun T vs t h m => opt (f0.run vs t) (fun x => opt (f1.run vs t) (fun k => opt (f2.run vs t) (fun v => mapUpdateOp T ty x k v h m) (.bad "insert")) (.bad "insert")) (.bad "insert")⟩
  | .typeAssert x _ asserted ok => let f0 := rd x; ⟨fun T vs t h m => opt (f0.run vs t) (fun x => typeAssertOp x asserted (isIface T asserted) ok h m) (.bad "typeAssert")⟩
  | .extract x i => let f0 := rd x; ⟨fun _ vs t h m => match f0.run vs t with
    | some (.tu l) => opt (nth l i) (fun v => .val v h m) (.bad "extract")
    | _ => .bad "extract"⟩
  | .call c => cCall rd c
  | .defer c => cDefer rd c
  | _ => noOp "op"

/-! the order of a region that draws -/
def loud : Op → Bool
  | .store .. => true
  | .mapUpdate .. => true
  | .insert .. => true
  | .mapEntry .. => true
  | .entryStore .. => true
  | .next .. => true
  | .range .. => true
  | .defer _ => true
  | .panic _ => true
  | .go _ => true
  | .send .. => true
  | .recv .. => true
  | .select .. => true
  | .ready _ => true
  | .waits _ => true
  | .call c => match c.callee with
    | .builtin .len => false
    | .builtin .cap => false
    | .builtin .min => false
    | .builtin .max => false
    | _ => true
  | _ => false

def bit (n i : Nat) : Bool := Nat.beq (Nat.mod (Nat.div n (Nat.pow 2 i)) 2) 1

/-- what comes before an operation, as bits; acc: those of the ones ahead, reversed -/
def maskOf (acc : List Nat) (n : Nat) : List Edge → Nat
  | [] => 0
  | e :: r => bi (Region.binds .any e) (bi (Nat.blt e.on n) (Nat.lor (Nat.lor (Nat.pow 2 e.on) (match nth acc (Nat.sub (Nat.sub n 1) e.on) with
    | some x => x
    | none => 0)) (maskOf acc n r)) (maskOf acc n r)) (maskOf acc n r)

def masks (acc : List Nat) (n : Nat) : List Oper → List Nat
  | [] => acc
  | o :: r => forceNat (maskOf acc n o.after.toList) fun x => masks (x :: acc) (Nat.succ n) r

/-- numbers from i on that are in a mask and not done -/
def bitsOf (mask done i : Nat) : Nat → List Nat
  | 0 => []
  | n + 1 => bi (bit mask i) (bi (bit done i) (bitsOf mask done (Nat.succ i) n) (i :: bitsOf mask done (Nat.succ i) n)) (bitsOf mask done (Nat.succ i) n)

def louds (i : Nat) : List Oper → List Nat
  | [] => []
  | o :: r => bi (loud o.op) (i :: louds (Nat.succ i) r) (louds (Nat.succ i) r)

def orBits (d : Nat) : List Nat → Nat
  | [] => d
  | i :: r => forceNat (Nat.lor d (Nat.pow 2 i)) fun d => orBits d r

/-- demand driven: each loud one as soon as it can be, what it needs just before; then the rest -/
def orderOf (ms : List Nat) (n done : Nat) : List Nat → List Nat
  | [] => bitsOf (Nat.sub (Nat.pow 2 n) 1) done 0 n
  | j :: r =>
    let need := bitsOf (Nat.lor (match nth ms j with
      | some x => x
      | none => 0) (Nat.pow 2 j)) done 0 n
    need ++ orderOf ms n (orBits done need) r

/-- what is to be looked at behind an operation: nothing; it may write: what there was ahead of it is kept; it only reads: what was ahead of the writing ones that it needn't follow is looked at -/
inductive Kd where
  | plain : Kd
  | snap : Kd
  | check (mask : Nat) : Kd

structure Stp where
  i : Nat
  o : Oper
  k : Kd

/-- may it read memory? -/
def mayRead : Op → Bool
  | .load .. => true
  | .convert .. => true
  | .lookup .. => true
  | .call _ => true
  | _ => false

def orZero : Option Nat → Nat
  | some n => n
  | none => 0

def kindOf (mask : Nat) (o : Op) : Kd := bi (loud o) .snap (bi (mayRead o) (forceNat mask fun m => .check m) .plain)

def stepsOf (ops : List Oper) (ms : List Nat) : List Nat → List Stp
  | [] => []
  | i :: r => match nth ops i with
    | none => []
    | some o => ⟨i, o, kindOf (orZero (nth ms i)) o.op⟩ :: stepsOf ops ms r

def straight (i : Nat) : List Oper → List Stp
  | [] => []
  | o :: r => ⟨i, o, .plain⟩ :: straight (Nat.succ i) r

/-! is an order one of a region's, such that any other order comes to the same? -/
def onsOf : List Edge → List Nat
  | [] => []
  | e :: r => bi (Region.binds .any e) (e.on :: onsOf r) (onsOf r)

def maskBy (ms : List Nat) : List Nat → Nat
  | [] => 0
  | j :: r => Nat.lor (Nat.lor (Nat.pow 2 j) (orZero (nth ms j))) (maskBy ms r)

def subB (seen : List Nat) : List Nat → Bool
  | [] => true
  | j :: r => bi (memNat j seen) (subB seen r) false

def bitsIn (mask : Nat) : List Nat → Bool
  | [] => true
  | j :: r => bi (bit mask j) (bitsIn mask r) false

def masksOk (ms : List Nat) (i : Nat) : List Oper → Bool
  | [] => true
  | o :: r => bi (Nat.beq (orZero (nth ms i)) (maskBy ms (onsOf o.after.toList))) (masksOk ms (Nat.succ i) r) false

def orderOk (ops : List Oper) (ms : List Nat) (seen : List Nat) : List Nat → Bool
  | [] => true
  | i :: r => match nth ops i with
    | none => false
    | some o => bi (memNat i seen) false (bi (subB seen (onsOf o.after.toList)) (bi (bi (loud o.op) (bitsIn (orZero (nth ms i)) seen) true) (orderOk ops ms (i :: seen) r) false) false)

def coversB (order : List Nat) (i : Nat) : List Oper → Bool
  | [] => true
  | _ :: r => bi (memNat i order) (coversB order (Nat.succ i) r) false

def dstsOk : List (Option Nat) → Bool
  | [] => true
  | none :: r => dstsOk r
  | some d :: r => match posOfT d r with
    | none => dstsOk r
    | some _ => false

def dstsOf : List Oper → List (Option Nat)
  | [] => []
  | o :: r => o.dst :: dstsOf r

/-- what an operation reads is written before it, or behind it -/
def argsOk (ms : List Nat) (ds : List (Option Nat)) (ons : List Nat) (i : Nat) : List Operand → Bool
  | [] => true
  | .tmp t :: r => match posOfT t ds with
    | none => argsOk ms ds ons i r
    | some x => bi (bi (memNat x ons) true (bi (Nat.beq x i) true (bit (orZero (nth ms x)) i))) (argsOk ms ds ons i r) false
  | _ :: r => argsOk ms ds ons i r

def guardOk (ops : List Oper) (ons : List Nat) : Option (Nat × Bool) → Bool
  | none => true
  | some (j, _) => bi (memNat j ons) (match nth ops j with
    | some o => match o.dst with
      | some _ => true
      | none => false
    | none => false) false

def usesOk (ops : List Oper) (ms : List Nat) (ds : List (Option Nat)) (i : Nat) : List Oper → Bool
  | [] => true
  | o :: r => bi (argsOk ms ds (onsOf o.after.toList) i o.op.operands.toList) (bi (guardOk ops (onsOf o.after.toList) o.guard) (usesOk ops ms ds (Nat.succ i) r) false) false

def planOk (ops : List Oper) (ms order : List Nat) : Bool :=
  bi (masksOk ms 0 ops) (bi (orderOk ops ms [] order) (bi (coversB order 0 ops) (bi (dstsOk (dstsOf ops)) (usesOk ops ms (dstsOf ops) 0 ops) false) false) false) false

/-- an operation that only reads: did it read the same ahead of those that write (where what it reads was there)? -/
def again (c : OpC) (T : Tab) (vs : List AV) (t : Tmps) (v : AV) (h : Heap) (m : Ps) : Bool := match c.run T vs t h m with
  | .val w _ _ => sameAV v w
  | _ => false

def psVal : Ps → Nat
  | .e => 0
  | .o p => Nat.succ (Nat.mul 2 (psVal p))
  | .i p => Nat.succ (Nat.succ (Nat.mul 2 (psVal p)))

/-- what there was ahead of an operation that may write -/
structure Sn where
  i : Nat
  h : Heap
  m : Ps

/-- the block that an operation reads -/
structure RdB where
  run : List AV → Tmps → Option (Option Ps)

def cReads (rd : Operand → Rd) : Op → RdB
  | .load _ a => let f := rd a; ⟨fun vs t => match f.run vs t with
    | some (.pt b _) => some (some b)
    | _ => none⟩
  | .convert _ _ a => let f := rd a; ⟨fun vs t => match f.run vs t with
    | some (.sl b _ len _ _ _) => bi (Nat.beq len 0) (some none) (some (some b))
    | some _ => some none
    | none => none⟩
  | .lookup _ a _ _ => let f := rd a; ⟨fun vs t => match f.run vs t with
    | some (.mp b) => some (some b)
    | some _ => some none
    | none => none⟩
  | .call c => match c.args.toList with
    | a :: _ => let f := rd a; ⟨fun vs t => match f.run vs t with
      | some (.mp b) => some (some b)
      | some _ => some none
      | none => none⟩
    | [] => ⟨fun _ _ => none⟩
  | _ => ⟨fun _ _ => some none⟩

def lookBack (c : OpC) (T : Tab) (vs : List AV) (t : Tmps) (v : AV) (m : Ps) (b : Ps) (mask : Nat) : List Sn → Bool
  | [] => true
  | s :: r => bi (bit mask s.i) true (bi (bi (Nat.blt (psVal b) (psVal s.m)) (again c T vs t v s.h m) true) (lookBack c T vs t v m b mask r) false)

def stable (c : OpC) (rb : RdB) (T : Tab) (vs : List AV) (t : Tmps) (v : AV) (m : Ps) (mask : Nat) (sn : List Sn) : Bool := match rb.run vs t with
  | some (some b) => lookBack c T vs t v m b mask sn
  | some none => true
  | none => false

/-! the machine -/
abbrev Ih := Nat → List AV → Heap → Ps → Res

structure FlC where
  run : List AV → Tmps → (Tmps → Res) → Res

def cFl (lv : List Nat) : List (Option Nat) → FlC
  | [] => ⟨fun _ t k => k t⟩
  | d :: r => let c := cFl lv r; match (match d with
      | none => none
      | some i => findIx i lv) with
    | none => ⟨fun vs t k => match vs with
      | _ :: vs => c.run vs t k
      | [] => .bad "flush"⟩
    | some j => let p := psN j; ⟨fun vs t k => match vs with
      | v :: vs => c.run vs t fun t => setK (some v) p t k
      | [] => .bad "flush"⟩

/-- is an operation wanted? -/
structure GdC where
  run : List AV → Tmps → Option Bool

def cGuard (rd : Operand → Rd) (ops : List Oper) (j : Nat) (want : Bool) : GdC := match nth ops j with
  | some oj => match oj.dst with
    | some d => let f := rd (.tmp d); ⟨fun vs t => match f.run vs t with
      | some (.bo b) => some (boolEq b want)
      | some _ => some false
      | none => none⟩
    | none => ⟨fun _ _ => none⟩
  | none => ⟨fun _ _ => none⟩

structure RegC where
  run : Tab → Nat → Ih → List Sn → List AV → Tmps → List ADef → Heap → Ps → Res

structure CC where
  run : Tab → Nat → Ih → List AV → Tmps → List ADef → Heap → Ps → Res

/-- an operation, and what goes on behind it -/
def cAct (s : Stp) (op : OpC) (rb : RdB) (nx : RegC) : RegC := match s.k with
  | .plain => ⟨fun T n ih sn vs t d h m => match op.run T vs t h m with
    | .val v h m => nx.run T n ih sn (v :: vs) t d h m
    | .call f args => match ih f args h m with
      | .ret v h m => nx.run T n ih sn (v :: vs) t d h m
      | .ok _ _ _ _ _ => .bad "call"
      | .bad w => .bad w
    | .dfr x => nx.run T n ih sn (.tu [] :: vs) t (x :: d) h m
    | .bad w => .bad (w ++ " at " ++ s.o.pos)⟩
  | .snap => ⟨fun T n ih sn vs t d h m => match op.run T vs t h m with
    | .val v h' m' => bi (Nat.ble (psVal m) (psVal m')) (nx.run T n ih (⟨s.i, h, m⟩ :: sn) (v :: vs) t d h' m') (.bad "names")
    | .call f args => match ih f args h m with
      | .ret v h' m' => bi (Nat.ble (psVal m) (psVal m')) (nx.run T n ih (⟨s.i, h, m⟩ :: sn) (v :: vs) t d h' m') (.bad "names")
      | .ok _ _ _ _ _ => .bad "call"
      | .bad w => .bad w
    | .dfr x => nx.run T n ih (⟨s.i, h, m⟩ :: sn) (.tu [] :: vs) t (x :: d) h m
    | .bad w => .bad (w ++ " at " ++ s.o.pos)⟩
  | .check mask => ⟨fun T n ih sn vs t d h m => match op.run T vs t h m with
    | .val v h' m' => bi (stable op rb T vs t v m mask sn) (nx.run T n ih sn (v :: vs) t d h' m') (.bad ("order at " ++ s.o.pos))
    | .bad w => .bad (w ++ " at " ++ s.o.pos)
    | _ => .bad ("order at " ++ s.o.pos)⟩

/-- where an operation is not wanted -/
def snapNo (s : Stp) (h : Heap) (m : Ps) (sn : List Sn) : List Sn := match s.k with
  | .snap => ⟨s.i, h, m⟩ :: sn
  | _ => sn

/-- a region, and what goes on behind it -/
def okDst (nt : Nat) : Option Nat → Bool
  | none => true
  | some d => Nat.blt d nt

def cReg (lv : List Nat) (nt : Nat) (ops : List Oper) (k : List (Option Nat) → CC) : List Stp → List (Option Nat) → RegC
  | [], ds => let c := k ds; ⟨fun T n ih _ vs t d h m => c.run T n ih vs t d h m⟩
  | s :: r, ds =>
    let nx := cReg lv nt ops k r (s.o.dst :: ds)
    let rd := cOpd lv ds
    let ac := cAct s (cOp rd s.o.op) (cReads rd s.o.op) nx
    bi (okDst nt s.o.dst) (match s.o.guard with
    | none => ac
    | some (j, want) => let g := cGuard rd ops j want
      ⟨fun T n ih sn vs t d h m => match g.run vs t with
        | some true => ac.run T n ih sn vs t d h m
        | some false => nx.run T n ih (snapNo s h m sn) (.tu [] :: vs) t d h m
        | none => .bad ("guard at " ++ s.o.pos)⟩) ⟨fun _ _ _ _ _ _ _ _ _ => .bad "no such temporary"⟩

def andThen (r : Res) (k : Tmps → List ADef → Heap → Ps → Res) : Res := match r with
  | .ok .n t d h m => k t d h m
  | .ok x t d h m => .ok x t d h m
  | .ret v h m => .ret v h m
  | .bad w => .bad w

/-- a region whose order is drawn -/
def cDrawn (lv : List Nat) (nt : Nat) (ops : List Oper) (k : List (Option Nat) → CC) (ds : List (Option Nat)) : RegC :=
  let ms := (masks [] 0 ops).reverse
  let order := orderOf ms ops.length 0 (louds 0 ops)
  bi (planOk ops ms order) (cReg lv nt ops k (stepsOf ops ms order) ds) ⟨fun _ _ _ _ _ _ _ _ _ => .bad "order of a region"⟩

/-- rounds, at most so many -/
def iter (f : CC) (T : Tab) (ih : Ih) (n : Nat) (k : Nat) : Tmps → List ADef → Heap → Ps → Res :=
  Nat.rec (motive := fun _ => Tmps → List ADef → Heap → Ps → Res) (fun _ _ _ _ => .bad "fuel") (fun _ go t d h m => andThen (f.run T n ih [] t d h m) go) k

/-- what goes on: nothing (all is put down), or code -/
inductive Kt where
  | fin : Kt
  | more (f : List (Option Nat) → CC) : Kt

/-- an end: all that this region wrote is put down -/
def cEnd (lv : List Nat) (x : X) (ds : List (Option Nat)) : CC := let c := cFl lv ds; ⟨fun _ _ _ vs t d h m => c.run vs t fun t => .ok x t d h m⟩

def Kt.go (lv : List Nat) : Kt → List (Option Nat) → CC
  | .fin, ds => cEnd lv .n ds
  | .more f, ds => f ds

/-- code whose end is known: behind it, what goes on -/
def joined (f : CC) (k : Kt) : CC := match k with
  | .fin => f
  | .more g => let g := g []; ⟨fun T n ih vs t d h m => andThen (f.run T n ih vs t d h m) fun t d h m => g.run T n ih [] t d h m⟩

def cCode (lv : List Nat) (nt : Nat) : Code → List (Option Nat) → Kt → CC
  | .skip, ds, k => k.go lv ds
  | .label _, ds, k => k.go lv ds
  | .region _ ops dr, ds, k => let c := bi dr (cDrawn lv nt ops.toList (k.go lv) ds) (cReg lv nt ops.toList (k.go lv) (straight 0 ops.toList) ds); ⟨fun T n ih vs t d h m => c.run T n ih [] vs t d h m⟩
  | .seq a b, ds, k => cCode lv nt a ds (.more fun ds => cCode lv nt b ds k)
  | .cond x a b, ds, k => let c := cOpd lv ds x; let f := cCode lv nt a ds .fin; let g := cCode lv nt b ds .fin
    joined ⟨fun T n ih vs t d h m => match c.run vs t with
      | some (.bo c) => bi c (f.run T n ih vs t d h m) (g.run T n ih vs t d h m)
      | _ => .bad "cond"⟩ k
  | .block id b, ds, k => let f := cCode lv nt b ds .fin
    joined ⟨fun T n ih vs t d h m => match f.run T n ih vs t d h m with
      | .ok (.e i) t d h m => bi (Nat.beq i id) (.ok .n t d h m) (.ok (.e i) t d h m)
      | .ok x t d h m => .ok x t d h m
      | .ret v h m => .ret v h m
      | .bad w => .bad w⟩ k
  | .loop b, ds, k => let c := cFl lv ds; let f := cCode lv nt b [] .fin
    joined ⟨fun T n ih vs t d h m => c.run vs t fun t => iter f T ih n n t d h m⟩ k
  | .exit id, ds, _ => cEnd lv (.e id) ds
  | .goto l, ds, _ => cEnd lv (.g l) ds
  | .ret, ds, _ => cEnd lv .r ds
  | .rangeFunc .., _, _ => ⟨fun _ _ _ _ _ _ _ _ => .bad "rangeFunc"⟩
  | .scope _, _, _ => ⟨fun _ _ _ _ _ _ _ _ => .bad "scope"⟩
  | .refuse w, _, _ => ⟨fun _ _ _ _ _ _ _ _ => .bad w⟩

/-! which temporaries are read outside of the regions that write them -/
def addTmp (wr acc : Nat) : Operand → Nat
  | .tmp i => bi (bit wr i) acc (Nat.lor acc (Nat.pow 2 i))
  | _ => acc

def addTmps (wr acc : Nat) : List Operand → Nat
  | [] => acc
  | x :: r => forceNat (addTmp wr acc x) fun acc => addTmps wr acc r

/-- wr: what is written since all was put down -/
def liveOps (wr acc : Nat) (k : Nat → Nat → Nat) : List Oper → Nat
  | [] => k wr acc
  | o :: r => forceNat (addTmps wr acc o.op.operands.toList) fun acc => match o.dst with
    | some d => forceNat (Nat.lor wr (Nat.pow 2 d)) fun wr => liveOps wr acc k r
    | none => liveOps wr acc k r

def liveCode : Code → Nat → Nat → (Nat → Nat → Nat) → Nat
  | .region _ ops _, wr, acc, k => liveOps wr acc k ops.toList
  | .seq a b, wr, acc, k => liveCode a wr acc fun wr acc => liveCode b wr acc k
  | .cond c a b, wr, acc, k => forceNat (addTmp wr acc c) fun acc => forceNat (liveCode a wr acc fun _ acc => acc) fun acc => forceNat (liveCode b wr acc fun _ acc => acc) fun acc => k 0 acc
  | .block _ b, wr, acc, k => forceNat (liveCode b wr acc fun _ acc => acc) fun acc => k 0 acc
  | .loop b, _, acc, k => forceNat (liveCode b 0 acc fun _ acc => acc) fun acc => k 0 acc
  | .skip, wr, acc, k => k wr acc
  | .label _, wr, acc, k => k wr acc
  | .scope b, _, acc, k => forceNat (liveCode b 0 acc fun _ acc => acc) fun acc => k 0 acc
  | .rangeFunc _ _ a b, _, acc, k => forceNat (liveCode a 0 acc fun _ acc => acc) fun acc => forceNat (liveCode b 0 acc fun _ acc => acc) fun acc => k 0 acc
  | _, _, acc, _ => acc

def liveRes (acc : Nat) : List ResultVar → Nat
  | [] => acc
  | .tmp i :: r => forceNat (Nat.lor acc (Nat.pow 2 i)) fun acc => liveRes acc r
  | .cell i _ :: r => forceNat (Nat.lor acc (Nat.pow 2 i)) fun acc => liveRes acc r

def liveOf (f : Func) (c : Code) : List Nat := forceNat (liveRes 0 f.results.toList) fun acc => forceNat (liveCode c 0 acc fun _ acc => acc) fun mask => bitsOf mask 0 0 f.ntmps

/-! functions -/
def slot (lv : List Nat) (t : Tmps) (i : Nat) : Option AV := match findIx i lv with
  | some j => getP t (psN j)
  | none => none

def resultsA (T : Tab) (lv : List Nat) (t : Tmps) (h : Heap) (m : Ps) : List ResultVar → Option (List AV)
  | [] => some []
  | .tmp i :: r => match slot lv t i, resultsA T lv t h m r with
    | some v, some l => some (v :: l)
    | _, _ => none
  | .cell a ty :: r => match slot lv t a with
    | some (.pt b o) => match loadOp T ty (.pt b o) h m, resultsA T lv t h m r with
      | .val v _ _, some l => some (v :: l)
      | _, _ => none
    | _ => none

def finishA (T : Tab) (lv : List Nat) (f : Func) (t : Tmps) (h : Heap) (m : Ps) : Res := match resultsA T lv t h m f.results.toList with
  | some [v] => .ret v h m
  | some l => .ret (.tu l) h m
  | none => .bad ("results of " ++ f.name)

def runDefers (ih : Ih) (h : Heap) (m : Ps) (l : List ADef) (k : Heap → Ps → Res) : Res := match l with
  | [] => k h m
  | x :: r => match x.fn with
    | .func g => match ih g (x.args ++ x.caps) h m with
      | .ret _ h m => runDefers ih h m r k
      | .ok _ _ _ _ _ => .bad "deferred"
      | .bad w => .bad w
    | _ => .bad "defer"

def countB (c : Nat) : Nat → Nat → Nat
  | 0, _ => 0
  | l + 1, n => bi (Nat.beq (Nat.mod n 256) c) (Nat.succ (countB c l (Nat.div n 256))) (countB c l (Nat.div n 256))

def indexB (c : Nat) : Nat → Nat → Nat → Option Nat
  | 0, _, _ => none
  | l + 1, i, n => bi (Nat.beq (Nat.mod n 256) c) (some i) (indexB c l (Nat.succ i) (Nat.div n 256))

/-- functions of the library whose text is not there, or is known by hand -/
def countA (args : List AV) (h : Heap) (m : Ps) : Res := match args with
  | [.st n l, .it .u8 (.ofNat c)] => forceNat (countB c l n) fun v => bi (Nat.blt c 256) (.ret (.it .i64 (.ofNat v)) h m) (.bad "count")
  | _ => .bad "count"

def indexByteA (args : List AV) (h : Heap) (m : Ps) : Res := match args with
  | [.st n l, .it .u8 (.ofNat c)] => bi (Nat.blt c 256) (match indexB c l 0 n with
    | some i => forceNat i fun v => .ret (.it .i64 (.ofNat v)) h m
    | none => .ret (.it .i64 (.negSucc 0)) h m) (.bad "indexByte")
  | _ => .bad "indexByte"

def noEscapeA (args : List AV) (h : Heap) (m : Ps) : Res := match args with
  | [v] => .ret v h m
  | _ => .bad "noEscape"

def cmpA (args : List AV) (h : Heap) (m : Ps) : Res := match args with
  | [.st n l, .st n' l'] => bi (strEq n l n' l') (.ret (.it .i64 0) h m) (bi (strLt n l n' l' (Nat.succ l)) (.ret (.it .i64 (.negSucc 0)) h m) (.ret (.it .i64 1) h m))
  | _ => .bad "cmp"

/-- a function: called, and called behind another one's end (then it may defer nothing) -/
structure FnC where
  run : Tab → Nat → Ih → Ih → List AV → Heap → Ps → Res
  runD : Tab → Nat → Ih → List AV → Heap → Ps → Res

/-- the parameters that are read -/
structure PaC where
  run : List AV → Tmps → (Tmps → Res) → Res

/-- n: how many parameters are left -/
def cPa (lv : List Nat) (i : Nat) : Nat → PaC
  | 0 => ⟨fun _ t k => k t⟩
  | n + 1 => let c := cPa lv (Nat.succ i) n; match findIx i lv with
    | none => ⟨fun vs t k => match vs with
      | _ :: vs => c.run vs t k
      | [] => k t⟩
    | some j => let p := psN j; ⟨fun vs t k => match vs with
      | v :: vs => setK (some v) p t fun t => c.run vs t k
      | [] => k t⟩

def afterBody (T : Tab) (ihD : Ih) (lv : List Nat) (fn : Func) (r : Res) : Res := match r with
  | .ok .n t d h m => runDefers ihD h m d fun h m => finishA T lv fn t h m
  | .ok .r t d h m => runDefers ihD h m d fun h m => finishA T lv fn t h m
  | .ok _ _ _ _ _ => .bad "exit"
  | .ret _ _ _ => .bad "ret"
  | .bad w => .bad (w ++ " < " ++ fn.name)

def noDefers (h : Heap) (m : Ps) (l : List ADef) (k : Heap → Ps → Res) : Res := match l with
  | [] => k h m
  | _ :: _ => .bad "deferred"

def afterBodyD (T : Tab) (lv : List Nat) (fn : Func) (r : Res) : Res := match r with
  | .ok .n t d h m => noDefers h m d fun h m => finishA T lv fn t h m
  | .ok .r t d h m => noDefers h m d fun h m => finishA T lv fn t h m
  | .ok _ _ _ _ _ => .bad "exit"
  | .ret _ _ _ => .bad "ret"
  | .bad w => .bad (w ++ " < " ++ fn.name)

def cFnL (fn : Func) (c : Code) (lv : List Nat) : FnC :=
  let pa := cPa lv 0 (Nat.add fn.params.size fn.nfree)
  let co := cCode lv fn.ntmps c [] .fin
  ⟨fun T n ih ihD args h m => pa.run args .nil fun t => afterBody T ihD lv fn (co.run T n ih [] t [] h m),
   fun T n ih args h m => pa.run args .nil fun t => afterBodyD T lv fn (co.run T n ih [] t [] h m)⟩

def cFn (fn : Func) : FnC := match fn.body with
  | none => ⟨fun _ _ _ _ _ _ _ => .bad ("no body: " ++ fn.name), fun _ _ _ _ _ _ => .bad "deferred: no body"⟩
  | some c => cFnL fn c (liveOf fn c)

structure Env where
  fns : Trie FnC
  tys : Tab

def fnsOf (d : Trie FnC) (i : Nat) : List Func → Trie FnC
  | [] => d
  | f :: r => setK (some (cFn f)) (psN i) d fun d => fnsOf d (Nat.succ i) r

/-- a function known by hand -/
def natC (g : Ih → List AV → Heap → Ps → Res) : FnC := ⟨fun _ _ ih _ args h m => g ih args h m, fun _ _ _ _ _ _ => .bad "deferred: by hand"⟩

/-- a deferred function that does nothing where nothing panics -/
def idleA (args : List AV) (h : Heap) (m : Ps) : Res := match args with
  | [] => .ret (.tu []) h m
  | _ => .bad "deferred: args"

def natD (g : List AV → Heap → Ps → Res) : FnC := ⟨fun _ _ _ _ _ _ _ => .bad "deferred alone", fun _ _ _ args h m => g args h m⟩

def withNats (d : Trie FnC) : List (Nat × FnC) → Trie FnC
  | [] => d
  | (i, c) :: r => setK (some c) (psN i) d fun d => withNats d r

def envOf (P : Program) (eqs : List Nat) (nats : List (Nat × FnC)) : Env :=
  { fns := withNats (fnsOf .nil 0 P.funcs.toList) nats, tys := { raw := trieOf .nil 0 P.types.toList, eqs := eqs } }

def stepD (E : Env) (n : Nat) (ih : Ih) (f : Nat) (args : List AV) (h : Heap) (m : Ps) : Res := match getP E.fns (psN f) with
  | none => .bad "no function"
  | some c => c.runD E.tys n ih args h m

def step (E : Env) (n : Nat) (ih : Ih) (f : Nat) (args : List AV) (h : Heap) (m : Ps) : Res := match getP E.fns (psN f) with
  | none => .bad "no function"
  | some c => c.run E.tys n ih (stepD E n ih) args h m

def run (E : Env) (n : Nat) : Ih :=
  Nat.rec (motive := fun _ => Ih) (fun _ _ _ _ => .bad "fuel") (fun n ih f args h m => step E n ih f args h m) n

end
end Go.AM
namespace Go.AM

/-! the small words, unfolded -/
section
variable {α β : Type}

@[simp] theorem bi_true (x y : α) : bi true x y = x := rfl
@[simp] theorem bi_false (x y : α) : bi false x y = y := rfl
theorem bi_eq (c : Bool) (x y : α) : bi c x y = if c = true then x else y := by cases c <;> rfl
@[simp] theorem opt_some (a : α) (k : α → β) (e : β) : opt (some a) k e = k a := rfl
@[simp] theorem opt_none (k : α → β) (e : β) : opt none k e = e := rfl
@[simp] theorem forceNat_eq (n : Nat) (k : Nat → β) : forceNat n k = k n := by cases n <;> rfl
@[simp] theorem forceInt_eq (n : Int) (k : Int → β) : forceInt n k = k n := by
  cases n with
  | ofNat a => show forceNat a (fun a => k (.ofNat a)) = _; rw [forceNat_eq]
  | negSucc a => show forceNat a (fun a => k (.negSucc a)) = _; rw [forceNat_eq]
@[simp] theorem forceL_eq (l : List AV) (k : List AV → β) : forceL l k = k l := by
  induction l generalizing k with
  | nil => rfl
  | cons a l ih => simp only [forceL, ih]
@[simp] theorem nth_nil (n : Nat) : nth ([] : List α) n = none := rfl
theorem nth_eq (l : List α) (n : Nat) : nth l n = l[n]? := by
  induction l generalizing n with
  | nil => rfl
  | cons a l ih => cases n with
    | zero => rfl
    | succ n => show nth l n = _; rw [ih]; simp
end

/-! places -/
def Ps.val : Ps → Nat
  | .e => 0
  | .o p => 2 * p.val + 1
  | .i p => 2 * p.val + 2

theorem Ps.val_inj : ∀ {p q : Ps}, p.val = q.val → p = q
  | .e, .e, _ => rfl
  | .e, .o q, h => by simp [Ps.val] at h
  | .e, .i q, h => by simp [Ps.val] at h
  | .o p, .e, h => by simp [Ps.val] at h
  | .i p, .e, h => by simp [Ps.val] at h
  | .o p, .o q, h => by rw [Ps.val_inj (p := p) (q := q) (by simp [Ps.val] at h; omega)]
  | .i p, .i q, h => by rw [Ps.val_inj (p := p) (q := q) (by simp [Ps.val] at h; omega)]
  | .o p, .i q, h => by simp [Ps.val] at h; omega
  | .i p, .o q, h => by simp [Ps.val] at h; omega

instance : DecidableEq Ps := fun p q => if h : p.val = q.val then isTrue (Ps.val_inj h) else isFalse fun e => h (by rw [e])

def Ps.succ : Ps → Ps
  | .e => .o .e
  | .o p => .i p
  | .i p => .o p.succ

theorem Ps.val_succ : ∀ p : Ps, p.succ.val = p.val + 1
  | .e => rfl
  | .o p => by simp [Ps.succ, Ps.val]
  | .i p => by simp only [Ps.succ, Ps.val, Ps.val_succ p]; omega

@[simp] theorem succK_eq {β : Type} (p : Ps) (k : Ps → β) : succK p k = k p.succ := by
  induction p generalizing k with
  | e => rfl
  | o p _ => rfl
  | i p ih => show succK p (fun q => k (.o q)) = _; rw [ih]; rfl

theorem psOf_val : ∀ (f n : Nat), n < f → (psOf f n).val = n := by
  intro f
  induction f with
  | zero => intro n h; omega
  | succ f ih =>
    intro n h
    cases n with
    | zero => rfl
    | succ m =>
      show (bi (Nat.beq (Nat.mod m 2) 0) (Ps.o (psOf f (Nat.div m 2))) (Ps.i (psOf f (Nat.div m 2)))).val = m + 1
      have hd : Nat.div m 2 = m / 2 := rfl
      have hm : Nat.mod m 2 = m % 2 := rfl
      rw [hd, hm]
      have hi := ih (m / 2) (by omega)
      cases hb : Nat.beq (m % 2) 0 with
      | true =>
        have := Nat.eq_of_beq_eq_true hb
        simp only [bi_true, Ps.val, hi]; omega
      | false =>
        have : m % 2 ≠ 0 := fun e => by rw [e] at hb; simp at hb
        simp only [bi_false, Ps.val, hi]; omega

theorem psN_val (n : Nat) : (psN n).val = n := psOf_val _ _ (Nat.lt_succ_self n)
theorem psN_inj {i j : Nat} (h : psN i = psN j) : i = j := by rw [← psN_val i, h, psN_val]

theorem psEq_eq : ∀ p q : Ps, psEq p q = true → p = q
  | .e, .e, _ => rfl
  | .o p, .o q, h => by rw [psEq_eq p q (by simpa [psEq] using h)]
  | .i p, .i q, h => by rw [psEq_eq p q (by simpa [psEq] using h)]
  | .e, .o _, h => by simp [psEq] at h
  | .e, .i _, h => by simp [psEq] at h
  | .o _, .e, h => by simp [psEq] at h
  | .i _, .e, h => by simp [psEq] at h
  | .o _, .i _, h => by simp [psEq] at h
  | .i _, .o _, h => by simp [psEq] at h

/-! trees -/
section
variable {α : Type}

@[simp] theorem getP_nil (p : Ps) : getP (Trie.nil : Trie α) p = none := rfl
@[simp] theorem getP_e (v : Option α) (l r : Trie α) : getP (.node v l r) .e = v := rfl
@[simp] theorem getP_o (v : Option α) (l r : Trie α) (p : Ps) : getP (.node v l r) (.o p) = getP l p := rfl
@[simp] theorem getP_i (v : Option α) (l r : Trie α) (p : Ps) : getP (.node v l r) (.i p) = getP r p := rfl

def setT (x : Option α) : Ps → Trie α → Trie α
  | .e, .nil => .node x .nil .nil
  | .e, .node _ l r => .node x l r
  | .o p, .nil => .node none (setT x p .nil) .nil
  | .o p, .node v l r => .node v (setT x p l) r
  | .i p, .nil => .node none .nil (setT x p .nil)
  | .i p, .node v l r => .node v l (setT x p r)

@[simp] theorem setK_eq {β : Type} (x : Option α) (p : Ps) (t : Trie α) (k : Trie α → β) : setK x p t k = k (setT x p t) := by
  induction p generalizing t k with
  | e => cases t <;> rfl
  | o p ih => cases t with
    | nil => show setK x p .nil _ = _; rw [ih]; rfl
    | node v l r => show setK x p l _ = _; rw [ih]; rfl
  | i p ih => cases t with
    | nil => show setK x p .nil _ = _; rw [ih]; rfl
    | node v l r => show setK x p r _ = _; rw [ih]; rfl

@[simp] theorem get_setT_same (x : Option α) (p : Ps) (t : Trie α) : getP (setT x p t) p = x := by
  induction p generalizing t with
  | e => cases t <;> rfl
  | o p ih => cases t <;> simp [setT, ih]
  | i p ih => cases t <;> simp [setT, ih]

theorem get_setT_ne (x : Option α) {p q : Ps} (h : q ≠ p) (t : Trie α) : getP (setT x p t) q = getP t q := by
  induction p generalizing t q with
  | e => cases q with
    | e => exact absurd rfl h
    | o q => cases t <;> simp [setT]
    | i q => cases t <;> simp [setT]
  | o p ih => cases q with
    | e => cases t <;> simp [setT]
    | o q => cases t <;> simp [setT, ih (q := q) (fun e => h (by rw [e]))]
    | i q => cases t <;> simp [setT]
  | i p ih => cases q with
    | e => cases t <;> simp [setT]
    | i q => cases t <;> simp [setT, ih (q := q) (fun e => h (by rw [e]))]
    | o q => cases t <;> simp [setT]

theorem get_setT (x : Option α) (p q : Ps) (t : Trie α) : getP (setT x p t) q = if q = p then x else getP t q := by
  split
  · rename_i h; subst h; simp
  · rename_i h; exact get_setT_ne x h t
end

/-! taking blocks away -/
def killT (h : Heap) : List Ps → Heap
  | [] => h
  | b :: r => killT (setT none b h) r

@[simp] theorem kills_eq (h : Heap) (l : List Ps) (k : Heap → OR) : kills h l k = k (killT h l) := by
  induction l generalizing h with
  | nil => rfl
  | cons b r ih => simp only [kills, setK_eq, ih, killT]

theorem get_killT (l : List Ps) (h : Heap) (q : Ps) : getP (killT h l) q = if q ∈ l then none else getP h q := by
  induction l generalizing h with
  | nil => simp [killT]
  | cons b r ih =>
    simp only [killT, ih, get_setT, List.mem_cons]
    by_cases h1 : q ∈ r
    · simp [h1]
    · by_cases h2 : q = b <;> simp [h1, h2]

noncomputable def setAllT (d : Trie AV) (i : Nat) : List AV → Trie AV
  | [] => d
  | v :: r => setAllT (setT (some v) (psN i) d) (Nat.succ i) r

@[simp] theorem setAll_eq {β : Type} (l : List AV) (d : Trie AV) (i : Nat) (k : Trie AV → β) : setAll d i l k = k (setAllT d i l) := by
  induction l generalizing d i with
  | nil => rfl
  | cons v r ih => simp only [setAll, setK_eq, ih, setAllT]

theorem get_setAllT (l : List AV) (d : Trie AV) (i j : Nat) : getP (setAllT d i l) (psN j) = if i ≤ j ∧ j < i + l.length then l[j - i]? else getP d (psN j) := by
  induction l generalizing d i with
  | nil => simp [setAllT]; omega
  | cons v r ih =>
    simp only [setAllT, ih, get_setT, List.length_cons]
    by_cases h : j = i
    · subst h
      have h1 : ¬(Nat.succ j ≤ j ∧ j < Nat.succ j + r.length) := by omega
      have h2 : j ≤ j ∧ j < j + (r.length + 1) := by omega
      simp [h1]
    · have hne : psN j ≠ psN i := fun e => h (psN_inj e)
      by_cases h1 : Nat.succ i ≤ j ∧ j < Nat.succ i + r.length
      · have h2 : i ≤ j ∧ j < i + (r.length + 1) := by omega
        simp only [h1, h2, and_self, if_true]
        have : j - i = (j - Nat.succ i) + 1 := by omega
        rw [this]; simp
      · have h2 : ¬(i ≤ j ∧ j < i + (r.length + 1)) := by omega
        simp only [h1, h2, if_false, hne]

end Go.AM
