/- An executor for the model's code that computes a plain formula, and heaps as partial maps: definitions only. Conditions: none (no statement of the seat is claimed here). -/
import Derived.WalkKit
import Derived.OrdersHeld
import Derived.MapKept
import Derived.DeepKeys
import Derived.RangeFuncIn
import Derived.RangeFuncRecord
import Derived.RangeFuncSeq
import Derived.RangeFuncLeaves
import Derived.OrdersIn
import Derived.TacticsIn
import Derived.RangeFuncCalls
namespace Go.Gx

/-! ### heaps -/
abbrev Hp := Nat → Option Obj
def Hp.upd (h : Hp) (b : Nat) (o : Obj) : Hp := fun b' => if b' = b then some o else h b'
def Hp.cell (h : Hp) (b o : Nat) : Option Value :=
  match h b with
  | some (.cells c _ _) => c[o]?
  | _ => none
def Hp.del (h : Hp) (b : Nat) : Hp := fun c => if c = b then none else h c
def Holds (h : Hp) (w : World) : Prop := ∀ b o, h b = some o → w.heap[b]? = some o
def Sub (h g : Hp) : Prop := ∀ b o, h b = some o → g b = some o
/-- What stood outside 'h' stands, and 'h'' does not claim it. -/
structure Kept (h : Hp) (w : World) (h' : Hp) (w' : World) : Prop where
  os : w'.os = w.os
  tape : w'.tape = w.tape
  output : w'.output = w.output
  size : w.heap.size ≤ w'.heap.size
  block : ∀ b o, w.heap[b]? = some o → h b = none → w'.heap[b]? = some o ∧ h' b = none
def CallsH (P : Program) (f : FuncId) (args : Array Value) (h : Hp) (Q : Value → Hp → Prop) : Prop :=
  ∀ w, Holds h w → Calls P f args w fun e w' => ∃ v h', e = .returned v ∧ Q v h' ∧ Holds h' w' ∧ Kept h w h' w'

/-- What a call of the function that a range hands to an iterator does. -/
def YieldH (P : Program) (l : Nat) (args : List Value) (h : Hp) (Q : Value → Hp → Prop) : Prop :=
  ∀ w, Holds h w → YieldAt Fence.wide 0 P l args.toArray w fun e w' => ∃ v h', e = .returned v ∧ Q v h' ∧ Holds h' w' ∧ Kept h w h' w'

/-! ### words for what is reckoned (the printing tool holds them fast) -/
abbrev iwrap (k : IntKind) (a : Int) : Int := k.wrap a
abbrev iadd (a b : Int) : Int := a + b
abbrev isub (a b : Int) : Int := a - b
abbrev imul (a b : Int) : Int := a * b
abbrev itdiv (a b : Int) : Int := a.tdiv b
abbrev itmod (a b : Int) : Int := a.tmod b
abbrev iand (k : IntKind) (a b : Int) : Int := (BitVec.ofInt k.bits a &&& BitVec.ofInt k.bits b).toNat
abbrev ior (k : IntKind) (a b : Int) : Int := (BitVec.ofInt k.bits a ||| BitVec.ofInt k.bits b).toNat
abbrev ixor (k : IntKind) (a b : Int) : Int := (BitVec.ofInt k.bits a ^^^ BitVec.ofInt k.bits b).toNat
abbrev iandn (k : IntKind) (a b : Int) : Int := (BitVec.ofInt k.bits a &&& ~~~BitVec.ofInt k.bits b).toNat
abbrev ishl (k : IntKind) (a b : Int) : Int := a * 2 ^ min b.toNat k.bits
abbrev ishr (k : IntKind) (a b : Int) : Int := a.fdiv (2 ^ min b.toNat k.bits)
/-- A test, which the kernel doesn't look into. -/
noncomputable def hb : Bool → Bool := Classical.choose (⟨id, rfl⟩ : ∃ f : Bool → Bool, f = id)
theorem hb_eq (b : Bool) : hb b = b := by
  have h : hb = id := Classical.choose_spec (⟨id, rfl⟩ : ∃ f : Bool → Bool, f = id)
  rw [h]; rfl
noncomputable section
abbrev ieq (a b : Int) : Bool := hb (a == b)
abbrev ine (a b : Int) : Bool := hb (a != b)
abbrev ilt (a b : Int) : Bool := hb (decide (a < b))
abbrev ile (a b : Int) : Bool := hb (decide (a ≤ b))
abbrev igt (a b : Int) : Bool := hb (decide (a > b))
abbrev ige (a b : Int) : Bool := hb (decide (a ≥ b))
abbrev itoNat (a : Int) : Nat := a.toNat
abbrev bsize (s : ByteArray) : Nat := s.size
abbrev bcat (s t : ByteArray) : ByteArray := s ++ t
abbrev bext (s : ByteArray) (l h : Nat) : ByteArray := s.extract l h
abbrev beqS (s t : ByteArray) : Bool := hb (s.toList == t.toList)
abbrev bltS (s t : ByteArray) : Bool := hb (Op.bytesLess s.toList t.toList)
abbrev nadd (a b : Nat) : Nat := a + b
abbrev nmul (a b : Nat) : Nat := a * b
abbrev nsub (a b : Nat) : Nat := a - b
abbrev bnot (a : Bool) : Bool := !a
abbrev band (a b : Bool) : Bool := a && b
abbrev bor (a b : Bool) : Bool := a || b
abbrev beqB (a b : Bool) : Bool := a == b
abbrev leI (a b : Int) : Prop := a ≤ b
abbrev ltI (a b : Int) : Prop := a < b
abbrev leN (a b : Nat) : Prop := a ≤ b
abbrev ltN (a b : Nat) : Prop := a < b
abbrev slA (m l size : Nat) (a : Option Addr) : Option Addr := if m = l then a else a.map (·.add (l * size))
abbrev isNoneA (a : Option Addr) : Bool := a.isNone
abbrev isNoneN (a : Option Nat) : Bool := a.isNone

/-! ### types -/
inductive Kd where
  | int (k : IntKind) | bool | str | slice | ptr | map | any
def ikc : IntKind → Nat
  | .i8 => 0 | .i16 => 1 | .i32 => 2 | .i64 => 3 | .u8 => 4 | .u16 => 5 | .u32 => 6 | .u64 => 7
def ikEq (a b : IntKind) : Bool := Nat.beq (ikc a) (ikc b)
def Kd.ex : Kd → (Value → Prop) → Prop
  | .int k, F => ∃ n : Int, F (.int k n)
  | .bool, F => ∃ b : Bool, F (.bool b)
  | .str, F => ∃ s : ByteArray, F (.string s)
  | .slice, F => ∃ (a : Option Addr) (l c : Nat), F (.slice a l c)
  | .ptr, F => ∃ a : Option Addr, F (.pointer a)
  | .map, F => ∃ r : Option Nat, F (.map r)
  | .any, F => ∃ v : Value, F v
def tdesc (P : Program) (t : TypeId) : TypeDesc := (P.underlying t).getD .invalid
def tinfo (P : Program) (t : TypeId) : TypeInfo := (P.info? t).getD default
def kd1 : TypeDesc → Kd
  | .int k => .int k
  | .bool => .bool
  | .string => .str
  | .slice _ => .slice
  | .pointer _ => .ptr
  | .map _ _ => .map
  | _ => .any
def kdsIn (P : Program) : Nat → TypeId → List Kd
  | 0, _ => []
  | d + 1, t =>
    match tdesc P t with
    | .struct fs => fs.toList.flatMap fun f => kdsIn P d f.type
    | .array n e => (List.replicate n (kdsIn P d e)).flatten
    | u => [kd1 u]
def kds (P : Program) (t : TypeId) : List Kd := kdsIn P 8 t
def aggT (P : Program) (t : TypeId) : Bool :=
  match tdesc P t with
  | .struct _ => true
  | .array _ _ => true
  | _ => false
def szT (P : Program) (t : TypeId) : Nat := (tinfo P t).size
def byT (P : Program) (t : TypeId) : Nat := (tinfo P t).bytes
def okT (P : Program) (t : TypeId) : Bool := (P.info? t).isSome
def okU (P : Program) (t : TypeId) : Bool := (P.underlying t).isSome
/-- The cells of a type's zero value. -/
def zeroT (P : Program) (t : TypeId) : Option Value := (tinfo P t).zero
/-- An array of more than 16 numbers. -/
def bigT (P : Program) (t : TypeId) : Option (Nat × IntKind) :=
  match tdesc P t with
  | .array n e => bif Nat.blt 16 n then (match tdesc P e with
    | .int k => some (n, k)
    | _ => none) else none
  | _ => none
/-- A type of more than 16 cells that is no array of numbers: its values are held as one list of cells. -/
def blobT (P : Program) (t : TypeId) : Bool := aggT P t && (bigT P t).isNone && Nat.blt 16 (szT P t)
/-- Values that are held against one another by their literals. -/
def litT (P : Program) (t : TypeId) : Bool := match tdesc P t with
  | .array _ _ => true
  | _ => blobT P t
def bigV (k : IntKind) (ns : List Int) : List Value := ns.map fun n => .int k n
/-- The shape of a value of a type. -/
inductive Vt where
  | one (k : Kd) | agg (ks : List Kd) | tup (l : List Vt) | big (n : Nat) (k : IntKind) | blob (n : Nat)
def vtIn (P : Program) : Nat → TypeId → Vt
  | 0, _ => .one .any
  | d + 1, t =>
    match tdesc P t with
    | .tuple ts => .tup (ts.toList.map fun t => vtIn P d t)
    | .struct _ => bif blobT P t then .blob (szT P t) else .agg (kds P t)
    | .array _ _ => (match bigT P t with
      | some (n, k) => .big n k
      | none => bif blobT P t then .blob (szT P t) else .agg (kds P t))
    | u => .one (kd1 u)
def kdsEx : List Kd → (List Value → Prop) → Prop
  | [], F => F []
  | k :: ks, F => k.ex fun v => kdsEx ks fun vs => F (v :: vs)
mutual
def Vt.ex : Vt → (Value → Prop) → Prop
  | .one k, F => k.ex F
  | .agg ks, F => kdsEx ks fun vs => F (.agg vs.toArray)
  | .big n k, F => ∃ ns : List Int, ns.length = n ∧ F (.agg (bigV k ns).toArray)
  | .blob n, F => ∃ vs : List Value, vs.length = n ∧ F (.agg vs.toArray)
  | .tup l, F => Vt.exL l fun vs => F (.tuple vs.toArray)
def Vt.exL : List Vt → (List Value → Prop) → Prop
  | [], F => F []
  | t :: ts, F => t.ex fun v => Vt.exL ts fun vs => F (v :: vs)
end

def Kd.univ : Kd → (Value → Prop) → Prop
  | .int k, F => ∀ n : Int, F (.int k n)
  | .bool, F => ∀ b : Bool, F (.bool b)
  | .str, F => ∀ s : ByteArray, F (.string s)
  | .slice, F => ∀ (a : Option Addr) (l c : Nat), F (.slice a l c)
  | .ptr, F => ∀ a : Option Addr, F (.pointer a)
  | .map, F => ∀ r : Option Nat, F (.map r)
  | .any, F => ∀ v : Value, F v
def kdsUniv : List Kd → (List Value → Prop) → Prop
  | [], F => F []
  | k :: ks, F => k.univ fun v => kdsUniv ks fun vs => F (v :: vs)
/-- For all values of a shape. -/
def Vt.univ : Vt → (Value → Prop) → Prop
  | .one k, F => k.univ F
  | .agg ks, F => kdsUniv ks fun vs => F (.agg vs.toArray)
  | .big n k, F => ∀ ns : List Int, ns.length = n → F (.agg (bigV k ns).toArray)
  | .blob n, F => ∀ vs : List Value, vs.length = n → F (.agg vs.toArray)
  | .tup _, F => ∀ v : Value, F v
def Vt.univL : List Vt → (List Value → Prop) → Prop
  | [], F => F []
  | t :: ts, F => t.univ fun v => Vt.univL ts fun vs => F (v :: vs)

/-! ### states -/
inductive SV where
  | val (v : Value)
  | ptr (b o : Nat)
  | loc (l o : Nat)
  | dead
def SV.toV : SV → Option Value
  | .val v => some v
  | .ptr b o => some (.pointer (some ⟨b, o, none⟩))
  | _ => none
structure St where
  e : Nat → SV
  L : Nat → Option (List Value × TypeId)
  n : Nat
  ver : Nat → Nat
  /-- the blocks for the deferred calls of ranges over functions -/
  marks : List Nat := []
def St.set (st : St) (t : Nat) (s : SV) : St := { st with e := fun u => bif Nat.beq u t then s else st.e u }
def St.setL (st : St) (l : Nat) (cs : List Value) (t : TypeId) : St :=
  { st with L := fun m => bif Nat.beq m l then some (cs, t) else st.L m, ver := fun m => bif Nat.beq m l then st.ver m + 1 else st.ver m }
def St.newL (st : St) (cs : List Value) (t : TypeId) : St :=
  { st with L := fun m => bif Nat.beq m st.n then some (cs, t) else st.L m, n := st.n + 1 }
def St.ev (st : St) : Operand → SV
  | .tmp t => st.e t
  | .const v => .val v
  | .global g => .ptr g 0
  | .func f => .val (.func (.func f) #[] #[])
/-- An operand as a value. -/
def St.evV (st : St) (x : Operand) (F : Value → Prop) : Prop :=
  match (st.ev x).toV with
  | some v => F v
  | none => False
def St.evVs (st : St) : List Operand → (List Value → Prop) → Prop
  | [], F => F []
  | x :: xs, F => st.evV x fun v => st.evVs xs fun vs => F (v :: vs)

/-! ### what is carried over a loop's head or a join -/
def Kd.Fn (R : Type) : Kd → Type
  | .int _ => Int → R
  | .bool => Bool → R
  | .str => ByteArray → R
  | .slice => Option Addr → Nat → Nat → R
  | .ptr => Option Addr → R
  | .map => Option Nat → R
  | .any => Value → R
def Kd.all {R : Type} : (k : Kd) → k.Fn R → (Value → R → Prop) → Prop
  | .int k, f, G => ∀ n : Int, G (.int k n) (f n)
  | .bool, f, G => ∀ b : Bool, G (.bool b) (f b)
  | .str, f, G => ∀ s : ByteArray, G (.string s) (f s)
  | .slice, f, G => ∀ (a : Option Addr) (l c : Nat), G (.slice a l c) (f a l c)
  | .ptr, f, G => ∀ a : Option Addr, G (.pointer a) (f a)
  | .map, f, G => ∀ r : Option Nat, G (.map r) (f r)
  | .any, f, G => ∀ v : Value, G v (f v)
def Kd.cap {R : Type} : (k : Kd) → k.Fn R → Value → (R → Prop) → Prop
  | .int k, f, v, G => match v with
    | .int k' n => bif ikEq k k' then G (f n) else False
    | _ => False
  | .bool, f, v, G => match v with
    | .bool b => G (f b)
    | _ => False
  | .str, f, v, G => match v with
    | .string s => G (f s)
    | _ => False
  | .slice, f, v, G => match v with
    | .slice a l c => G (f a l c)
    | _ => False
  | .ptr, f, v, G => match v with
    | .pointer a => G (f a)
    | _ => False
  | .map, f, v, G => match v with
    | .map r => G (f r)
    | _ => False
  | .any, f, v, G => G (f v)
def KFn (R : Type) : List Kd → Type
  | [] => R
  | k :: ks => k.Fn (KFn R ks)
def kAll {R : Type} : (ks : List Kd) → KFn R ks → (List Value → R → Prop) → Prop
  | [], f, G => G [] f
  | k :: ks, f, G => k.all f fun v r => kAll ks r fun vs s => G (v :: vs) s
def kCap {R : Type} : (ks : List Kd) → KFn R ks → List Value → (R → Prop) → Prop
  | [], f, vs, G => match vs with
    | [] => G f
    | _ :: _ => False
  | k :: ks, f, vs, G => match vs with
    | [] => False
    | v :: vs => k.cap f v fun r => kCap ks r vs G
/-- What is carried: a slot; a local block, cell by cell; a local block whole. -/
inductive Cv where
  | slot (t : Nat) (k : Kd)
  | blk (l : Nat) (ks : List Kd)
  | arr (l : Nat)
def Fn (R : Type) : List Cv → Type
  | [] => R
  | .slot _ k :: ks => k.Fn (Fn R ks)
  | .blk _ l :: ks => KFn (Fn R ks) l
  | .arr _ :: ks => List Value → Fn R ks
def St.cells (st : St) (l : Nat) : List Value := ((st.L l).map (·.1)).getD []
def St.cellT (st : St) (l : Nat) : TypeId := ((st.L l).map (·.2)).getD 0
/-- For all carried values: the state with them, and the formula at them. -/
def allC {R : Type} : (ks : List Cv) → St → Fn R ks → (St → R → Prop) → Prop
  | [], st, f, G => G st f
  | .slot t k :: ks, st, f, G => k.all f fun v r => allC ks (st.set t (.val v)) r G
  | .blk l kk :: ks, st, f, G => kAll kk f fun vs r => allC ks (st.setL l vs (st.cellT l)) r G
  | .arr l :: ks, st, f, G => ∀ cs : List Value, allC ks (st.setL l cs (st.cellT l)) (f cs) G
/-- The formula at what a state holds. -/
def capC {R : Type} : (ks : List Cv) → St → Fn R ks → (R → Prop) → Prop
  | [], _, f, G => G f
  | .slot t k :: ks, st, f, G =>
    match (st.e t).toV with
    | some v => k.cap f v fun r => capC ks st r G
    | none => False
  | .blk l kk :: ks, st, f, G =>
    match st.L l with
    | some (cs, _) => kCap kk f cs fun r => capC ks st r G
    | none => False
  | .arr l :: ks, st, f, G =>
    match st.L l with
    | some (cs, _) => capC ks st (f cs) G
    | none => False
def Cv.isBlk (l : Nat) : Cv → Bool
  | .blk m _ => Nat.beq m l
  | .arr m => Nat.beq m l
  | .slot _ _ => false
def carries (ks : List Cv) (l : Nat) : Bool := ks.any (Cv.isBlk l)
/-- Every local block that has been written is carried. -/
def verOk (ks : List Cv) (st st' : St) : Nat → Bool
  | 0 => Nat.beq st'.marks.length st.marks.length
  | l + 1 => (bif carries ks l then Nat.beq (st'.cellT l) (st.cellT l) else Nat.beq (st'.ver l) (st.ver l)) && verOk ks st st' l
def lblOk (ks : List Cv) (n : Nat) : Bool := ks.all fun
  | .blk l _ => Nat.blt l n
  | .arr l => Nat.blt l n
  | .slot _ _ => true
def _root_.Go.Code.asg : Code → Nat → Bool
  | .region _ ops _, t => ops.toList.any fun o => match o.dst with | some d => Nat.beq d t | none => false
  | .seq a b, t => a.asg t || b.asg t
  | .cond _ a b, t => a.asg t || b.asg t
  | .block _ c, t => c.asg t
  | .loop c, t => c.asg t
  | _, _ => false
def St.head (st : St) (c : Code) : St := { st with e := fun t => bif c.asg t then .dead else st.e t }

/-- A hint names a local block by a slot that points to it. -/
def St.res (st : St) : Cv → Cv
  | .slot t k => .slot t k
  | .blk t ks => .blk (match st.e t with | .loc l _ => l | _ => st.n) ks
  | .arr t => .arr (match st.e t with | .loc l _ => l | _ => st.n)

/-! ### hints (they bear no trust) -/
/-- An order of a region's operations: taken first, or whichever comes up. -/
inductive Tr where
  | done | e | q (i : Nat) (t : Tr) | f (i : Nat) (t u : Tr)
structure Hints where
  N : Nat
  loc : Nat → Bool
  join : Nat → Option (List Cv)
  loop : Nat → Option (List Cv)
  /-- what an interface holds whose method is called -/
  ifc : Nat
  order : Nat → Option (Option Nat × Bool × List Nat × Tr)
  /-- the iterator that is ranged over -/
  iter : Nat := 0
def fr : Code → Option Nat
  | .region id _ _ => some id
  | .seq a b => match fr a with | some i => some i | none => fr b
  | .cond _ a b => match fr a with | some i => some i | none => fr b
  | .block _ c => fr c
  | .loop c => fr c
  | _ => none

/-! ### the heap's part of an operation -/
def CellsAt (h : Hp) (b o : Nat) (xs : List Value) : Prop := ∀ i (hi : i < xs.length), h.cell b (o + i) = some xs[i]
def derefW (a : Option Addr) (F : Nat → Nat → Prop) : Prop := ∃ b o, a = some ⟨b, o, none⟩ ∧ F b o
def loadKs (h : Hp) (b : Nat) : Nat → List Kd → (List Value → Prop) → Prop
  | _, [], F => F []
  | o, k :: ks, F => k.ex fun v => h.cell b o = some v ∧ loadKs h b (o + 1) ks fun vs => F (v :: vs)
def loadH (P : Program) (t : TypeId) (h : Hp) (b o : Nat) (F : Value → Prop) : Prop :=
  match bigT P t with
  | some (n, k) => bif Nat.beq n (szT P t) then ∃ ns : List Int, ns.length = n ∧ CellsAt h b o (bigV k ns) ∧ F (.agg (bigV k ns).toArray) else False
  | none =>
  bif blobT P t then (∃ vs : List Value, vs.length = szT P t ∧ CellsAt h b o vs ∧ F (.agg vs.toArray)) else
  bif aggT P t then (bif Nat.beq (kds P t).length (szT P t) then loadKs h b o (kds P t) fun vs => F (.agg vs.toArray) else False) else
    bif okU P t then (kd1 (tdesc P t)).ex fun v => h.cell b o = some v ∧ F v else False
def ifcT (P : Program) (t : TypeId) : Bool :=
  match tdesc P t with
  | .interface _ => true
  | _ => false
def loadL (P : Program) (t : TypeId) (cs : List Value) (o : Nat) (F : Value → Prop) : Prop :=
  bif aggT P t then (bif Nat.ble (o + szT P t) cs.length then F (.agg ((cs.drop o).take (szT P t)).toArray) else False)
  else bif okU P t then (match cs[o]? with
    | some v => F v
    | none => False) else False
def plainW : List Value → Prop → Prop
  | [], F => F
  | v :: vs, F => match v with
    | .agg _ => False
    | .tuple _ => False
    | _ => plainW vs F
def plainP (vs : List Value) : Prop := ∀ v ∈ vs, (∀ c, v ≠ .agg c) ∧ (∀ c, v ≠ .tuple c)
def setCells (cs : Array Value) (o : Nat) : List Value → Array Value
  | [] => cs
  | v :: vs => setCells (cs.setIfInBounds o v) (o + 1) vs
def setL (cs : List Value) (o : Nat) : List Value → List Value
  | [] => cs
  | v :: vs => setL (cs.set o v) (o + 1) vs
def Hp.put (h : Hp) (b o : Nat) (vs : List Value) : Hp :=
  match h b with
  | some (.cells cs t f) => h.upd b (.cells (setCells cs o vs) t f)
  | _ => h
/-- Cells may be written there. -/
def StoreOk (h : Hp) (b o n : Nat) : Prop :=
  ∃ cs t lo hi, h b = some (.cells cs t (lo, hi)) ∧ o + n ≤ cs.size ∧ (hi ≤ o ∨ o + n ≤ lo)
def storeH (h : Hp) (b o : Nat) (vs : List Value) (F : Hp → Prop) : Prop := StoreOk h b o vs.length ∧ F (h.put b o vs)
/-- The cells of a slice's first 'n' cells. -/
def SliceAt (h : Hp) (a : Option Addr) (n : Nat) (xs : List Value) : Prop :=
  xs.length = n ∧ (n = 0 ∨ ∃ b o, a = some ⟨b, o, none⟩ ∧ CellsAt h b o xs)
def byteAt (s : ByteArray) (n : Nat) : Int := (((s.data.toList[n]?).getD 0).toNat : Nat)
def lget (cs : List Value) (i : Nat) : Option Value := cs[i]?
/-- A text, by its bytes. -/
def bytesL (l : List Nat) : ByteArray := ⟨(l.map fun n => UInt8.ofNat n).toArray⟩
def bytesV (s : ByteArray) : List Value := s.data.toList.map fun b => .int .u8 (b.toNat : Nat)
/-- A row of noughts. -/
def repV (n : Nat) (z : List Value) : List Value := (List.replicate n z).flatten
def newH (h : Hp) (o : Obj) (F : Nat → Hp → Prop) : Prop := ∀ b, h b = none → F b (h.upd b o)

def cellsOfV : Value → List Value
  | .agg cs => cs.toList
  | v => [v]

/-! ### arithmetic -/
def binInt (op : BinOp) (k : IntKind) (a b : Int) (F : Value → Prop) : Prop :=
  match op with
  | .add => F (.int k (iwrap k (iadd a b)))
  | .sub => F (.int k (iwrap k (isub a b)))
  | .mul => F (.int k (iwrap k (imul a b)))
  | .quo => b ≠ 0 ∧ F (.int k (iwrap k (itdiv a b)))
  | .rem => b ≠ 0 ∧ F (.int k (itmod a b))
  | .and => F (.int k (iwrap k (iand k a b)))
  | .or => F (.int k (iwrap k (ior k a b)))
  | .xor => F (.int k (iwrap k (ixor k a b)))
  | .andNot => F (.int k (iwrap k (iandn k a b)))
  | .eql => F (.bool (ieq a b))
  | .neq => F (.bool (ine a b))
  | .lss => F (.bool (ilt a b))
  | .leq => F (.bool (ile a b))
  | .gtr => F (.bool (igt a b))
  | .geq => F (.bool (ige a b))
  | _ => False
def binStr (op : BinOp) (x y : ByteArray) (F : Value → Prop) : Prop :=
  match op with
  | .add => leN (nadd (bsize x) (bsize y)) 9223372036854775807 ∧ F (.string (bcat x y))
  | .eql => F (.bool (beqS x y))
  | .neq => F (.bool (bnot (beqS x y)))
  | .lss => F (.bool (bltS x y))
  | .leq => F (.bool (bor (bltS x y) (beqS x y)))
  | .gtr => F (.bool (bnot (bor (bltS x y) (beqS x y))))
  | .geq => F (.bool (bnot (bltS x y)))
  | _ => False
def partL (P : Program) (t : TypeId) (cs : List Value) (o : Nat) (F : Value → Prop) : Prop := loadL P t cs o F
def eqFsW (P : Program) (eq : TypeId → Value → Value → (Bool → Prop) → Prop) (xs ys : List Value) : List Field → (Bool → Prop) → Prop
  | [], F => F true
  | f :: fs, F => bif f.name == "_" then False else partL P f.type xs f.offset fun a => partL P f.type ys f.offset fun b => eq f.type a b fun r => eqFsW P eq xs ys fs fun s => F (band r s)
/-- Two values of a type of numbers, bools, strings and structs of these. -/
def eqTy (P : Program) : Nat → TypeId → Value → Value → (Bool → Prop) → Prop
  | 0, _, _, _, _ => False
  | d + 1, t, x, y, F => match tdesc P t, x, y with
    | .int _, .int k a, .int k' b => bif ikEq k k' then F (ieq a b) else False
    | .bool, .bool a, .bool b => F (beqB a b)
    | .string, .string a, .string b => F (beqS a b)
    | .struct fs, .agg xs, .agg ys => bif P.stoodInHeld t then False else eqFsW P (eqTy P d) xs.toList ys.toList fs.toList F
    | _, _, _ => False
/-- What a value's cells are, as literals. -/
def LitsAre (P : Program) (t : TypeId) (cs : List Value) (ls : List Lit) : Prop := cs.length = P.cellsOf t ∧ ∃ D, P.keyLits D t cs = some ls
def leqL (ls ms : List Lit) : Bool := hb (@decide (ls = ms) (Classical.propDecidable _))
def eqW (P : Program) (t : TypeId) (c : Bool) (x y : Value) (F : Bool → Prop) : Prop :=
  match x, y with
  | .bool a, .bool b => eqTy P 1 t (.bool a) (.bool b) F
  | .agg xs, .agg ys => bif P.eqGuardType P.depth t then False else bif litT P t then (bif P.keyTypeAt 8 t then ∃ ls ms, LitsAre P t xs.toList ls ∧ LitsAre P t ys.toList ms ∧ F (leqL ls ms) else False) else eqTy P 5 t (.agg xs) (.agg ys) F
  | .pointer a, .pointer none => (match tdesc P t with
    | .pointer _ => F (isNoneA a)
    | _ => False)
  | .slice a _ _, .slice none _ _ => (match tdesc P t with
    | .slice _ => F (isNoneA a)
    | _ => False)
  | .map a, .map none => (match tdesc P t with
    | .map _ _ => F (isNoneN a)
    | _ => False)
  | .iface _ _, .nilIface => (match tdesc P t with
    | .interface _ => F false
    | _ => False)
  | .nilIface, .nilIface => (match tdesc P t with
    | .interface _ => bif c then F true else False
    | _ => False)
  | _, _ => False
def binW (P : Program) (op : BinOp) (t : TypeId) (c : Bool) (x y : Value) (F : Value → Prop) : Prop :=
  match x, y with
  | .int k a, .int k' b => match op with
    | .shl => leI 0 b ∧ F (.int k (iwrap k (ishl k a b)))
    | .shr => leI 0 b ∧ F (.int k (ishr k a b))
    | op => bif ikEq k k' then binInt op k a b F else False
  | .string a, .string b => binStr op a b F
  | x, y => match op with
    | .eql => eqW P t c x y fun r => F (.bool r)
    | .neq => eqW P t c x y fun r => F (.bool (bnot r))
    | _ => False
def unW (op : UnOp) (x : Value) (F : Value → Prop) : Prop :=
  match op, x with
  | .neg, .int k n => F (.int k (iwrap k (isub 0 n)))
  | .xor, .int k n => F (.int k (iwrap k (ixor k (if k.signed then -1 else k.max) n)))
  | .not, .bool b => F (.bool (bnot b))
  | _, _ => False


/-! ### maps, by keys of numbers, bools, texts, and structs of these -/
def keyT1 (P : Program) (t : TypeId) : Bool :=
  match tdesc P t with
  | .int _ => true
  | .string => true
  | .bool => true
  | _ => false
def keyFs (P : Program) : List Field → Nat → Bool
  | [], _ => true
  | f :: fs, o => !(f.name == "_") && keyT1 P f.type && Nat.beq f.offset o && keyFs P fs (o + 1)
def keyT (P : Program) (t : TypeId) : Bool :=
  match tdesc P t with
  | .struct fs => !P.stoodInHeld t && keyFs P fs.toList 0
  | _ => keyT1 P t
def keyOk1 (P : Program) (t : TypeId) (v : Value) : Bool :=
  match tdesc P t, v with
  | .int k, .int k' _ => ikEq k k'
  | .string, .string _ => true
  | .bool, .bool _ => true
  | _, _ => false
def keyOks (P : Program) : List Field → List Value → Bool
  | [], [] => true
  | f :: fs, v :: vs => keyOk1 P f.type v && keyOks P fs vs
  | _, _ => false
def keyOk (P : Program) (t : TypeId) (v : Value) : Bool :=
  match tdesc P t with
  | .struct fs => (match v with
    | .agg cs => keyOks P fs.toList cs.toList
    | _ => false)
  | _ => keyOk1 P t v
/-- A map's entries, as a list. -/
def MapObj (P : Program) (kt : TypeId) (o : Obj) (m : List (Value × Value)) : Prop :=
  ∃ es clock, o = .map es clock ∧ es.toList.map (fun e => (e.key, e.val)) = m ∧ MapKept.Stamped es clock ∧ ∀ e ∈ es.toList, keyOk P kt e.key = true

def mget (m : List (Value × Value)) (k : Value) : Option Value := (m.find? fun e => @decide (e.1 = k) (Classical.propDecidable _)).map (·.2)
def mset (m : List (Value × Value)) (k v : Value) : List (Value × Value) :=
  match mget m k with
  | some _ => m.map fun e => @ite _ (e.1 = k) (Classical.propDecidable _) (k, v) e
  | none => m ++ [(k, v)]
def mdel (m : List (Value × Value)) (k : Value) : List (Value × Value) := m.filter fun e => @decide (e.1 ≠ k) (Classical.propDecidable _)
def mlen (m : List (Value × Value)) : Nat := m.length
/-- What a map tells of a key: the value 'v', or the zero value 'z'. -/
def LookOk (m : List (Value × Value)) (k z v : Value) (c : Bool) : Prop := (c = true ∧ mget m k = some v) ∨ (c = false ∧ mget m k = none ∧ v = z)

/-! ### one operation -/
inductive Pl where
  | loc (l o : Nat)
  | ptr (b o : Nat)
def SV.at (s : SV) (F : Pl → Prop) : Prop :=
  match s with
  | .loc l o => F (.loc l o)
  | .ptr b o => F (.ptr b o)
  | .val (.pointer a) => derefW a fun b o => F (.ptr b o)
  | _ => False
def Pl.sv (n : Nat) : Pl → SV
  | .loc l o => .loc l (o + n)
  | .ptr b o => .ptr b (nadd o n)
/-- An index: a constant one is looked at, another one is owed. -/
def idxW (x : Operand) (v : Value) (len : Nat) (F : Nat → Prop) : Prop :=
  match v with
  | .int _ n => match x with
    | .const _ => bif decide (0 ≤ n) && Nat.blt n.toNat len then F n.toNat else False
    | _ => leI 0 n ∧ ltI n len ∧ F (itoNat n)
  | _ => False
/-- How far behind an index lies. -/
def idxMul (x : Operand) (n s : Nat) : Nat :=
  match x with
  | .const _ => n * s
  | _ => nmul n s
/-- The zero value of an array of many numbers. -/
def isZeros (k : IntKind) : List Value → Bool
  | [] => true
  | .int k' (.ofNat 0) :: l => ikEq k k' && isZeros k l
  | _ :: _ => false
def zeroBig (P : Program) (t : TypeId) (n : Nat) (k : IntKind) : Bool :=
  match zeroT P t with
  | some v => Nat.beq (cellsOfV v).length (szT P t) && Nat.beq (cellsOfV v).length n && isZeros k (cellsOfV v)
  | none => false
/-- The cells of a big type's zero value. -/
def zeroL (P : Program) (t : TypeId) : List Value := ((zeroT P t).map cellsOfV).getD []
def zeroLOk (P : Program) (t : TypeId) : Bool := match zeroT P t with
  | some v => Nat.beq (cellsOfV v).length (szT P t)
  | none => false
def zeroRow (P : Program) (t : TypeId) (n : Nat) : List Value := (List.replicate n (zeroL P t)).flatten
/-- Parts put into a value of many cells. -/
def partsB (P : Program) (st : St) (n : Nat) (place : Nat → Option (Nat × Nat)) (cells : List Value) : List (Nat × Operand) → (List Value → Prop) → Prop
  | [], F => F cells
  | (i, x) :: ps, F => match place i with
    | some (off, size) => st.evV x fun v => bif Nat.ble (off + size) n then (cellsOfV v).length = size ∧ partsB P st n place (setL cells off (cellsOfV v)) ps F else False
    | none => False
def cellsKs (cs : List Value) : Nat → List Kd → (List Value → Prop) → Prop
  | _, [], F => F []
  | o, k :: ks, F => k.ex fun v => lget cs o = some v ∧ cellsKs cs (o + 1) ks fun vs => F (v :: vs)
/-- A part of a value of many cells. -/
def fieldB (P : Program) (t : TypeId) (n : Nat) (cs : List Value) (o : Nat) (F : Value → Prop) : Prop :=
  bif !Nat.ble (o + szT P t) n then False else cs.length = n ∧
    match bigT P t with
    | some (m, k) => bif Nat.beq m (szT P t) then ∃ ns : List Int, ns.length = m ∧ (cs.drop o).take m = bigV k ns ∧ F (.agg (bigV k ns).toArray) else False
    | none => bif blobT P t then F (.agg ((cs.drop o).take (szT P t)).toArray) else
      bif aggT P t then (bif Nat.beq (kds P t).length (szT P t) then cellsKs cs o (kds P t) fun vs => F (.agg vs.toArray) else False) else
      bif okU P t then (kd1 (tdesc P t)).ex fun v => lget cs o = some v ∧ F v else False
def boundW (st : St) (x : Option Operand) (d top : Nat) (F : Nat → Prop) : Prop :=
  match x with
  | none => F d
  | some x => st.evV x fun v => match v with
    | .int _ n => leI 0 n ∧ leI n top ∧ F (itoNat n)
    | _ => False
def partsW (P : Program) (st : St) (place : Nat → Option (Nat × Nat)) (cells : List Value) : List (Nat × Operand) → (List Value → Prop) → Prop
  | [], F => F cells
  | (i, x) :: ps, F => match place i with
    | some (off, size) => st.evV x fun v => bif Nat.beq (cellsOfV v).length size && Nat.ble (off + size) cells.length then partsW P st place (setL cells off (cellsOfV v)) ps F else False
    | none => False
def zeroCs (P : Program) (t : TypeId) (F : List Value → Prop) : Prop :=
  match zeroT P t with
  | some v => bif Nat.beq (cellsOfV v).length (szT P t) then F (cellsOfV v) else False
  | none => False
/-- A grown row: what stood, what is appended, zeros. -/
def grown (old xs z : List Value) (n : Nat) : Array Value := (old ++ xs ++ (List.replicate n z).flatten).toArray
def appendI (P : Program) (e : TypeId) (a : Option Addr) (len cap : Nat) (h : Hp) (xs : List Value) (n : Nat) (F : Value → Hp → Prop) : Prop :=
  bif !(okT P e && Nat.blt 0 (byT P e)) then False else (leN (nadd len n) cap → (a = none ∧ xs = [] ∧ F (.slice none (nadd len n) cap) h) ∨ (∃ b o, a = some ⟨b, o, none⟩ ∧ plainW xs (storeH h b (nadd o (nmul len (szT P e))) xs fun h' => F (.slice (some ⟨b, o, none⟩) (nadd len n) cap) h'))) ∧
  (ltN cap (nadd len n) → leN (nmul (nadd (nmul 2 (nadd len n)) 768) (byT P e)) 281474976710656 ∧ ∃ old, SliceAt h a (nmul len (szT P e)) old ∧
    ∀ nc, leN (nadd len n) nc → zeroCs P e fun z => newH h (.cells (grown old xs z (nsub nc (nadd len n))) e (0, 0)) fun b h' => F (.slice (some ⟨b, 0, none⟩) (nadd len n) nc) h')
/-- What an append leaves, for all that it may leave. -/
def appendC (P : Program) (e : TypeId) (a : Option Addr) (len cap : Nat) (h : Hp) (xs : List Value) (n : Nat) (J : Option Addr → Nat → Hp → Prop) : Prop :=
  appendI P e a len cap h xs n fun v h' => ∃ a' c', v = .slice a' (nadd len n) c' ∧ J a' c' h'
def appendW (P : Program) (e : TypeId) (a : Option Addr) (len cap : Nat) (h : Hp) (xs : List Value) (n : Nat) (F : Value → Hp → Prop) : Prop :=
  ∃ J : Option Addr → Nat → Hp → Prop, (∀ a' c' h', J a' c' h' → F (.slice a' (nadd len n) c') h') ∧ appendC P e a len cap h xs n J
def callW (P : Program) (t : TypeId) (g : FuncId) (args : List Value) (h : Hp) (F : Value → Hp → Prop) : Prop :=
  CallsH P g args.toArray h fun v h' => (vtIn P 6 t).ex fun v' => v = v' ∧ F v' h'
/-- A function that the model stands in for: the sum of two words and a carry. -/
def isAdd64 (P : Program) (g : FuncId) : Bool :=
  match P.funcs[g]? with
  | some fn => fn.body.isNone && fn.name == "math/bits.Add64" && fn.origin == ""
  | none => false
def externW (P : Program) (g : FuncId) (args : List Value) (F : Value → Prop) : Prop :=
  bif isAdd64 P g then (match args with
    | [.int .u64 x, .int .u64 y, .int .u64 c] => leI 0 x ∧ leI 0 y ∧ leI 0 c ∧ leI c 1 ∧ F (.tuple #[.int .u64 (itmod (iadd (iadd x y) c) 18446744073709551616), .int .u64 (itdiv (iadd (iadd x y) c) 18446744073709551616)])
    | _ => False) else False
def funcOk (P : Program) (g : FuncId) : Bool :=
  match P.funcs[g]? with
  | some fn => fn.body.isSome && fn.name != "runtime.NumGoroutine"
  | none => false
/-- A method's function, where the row needs no step. -/
def methodW (P : Program) (t : TypeId) (name : String) (F : FuncId → Prop) : Prop :=
  match (tinfo P t).methods.find? (·.name == name) with
  | some m => match m.func with
    | some (f, true) => (match P.underlying t with | some (.pointer _) => bif m.path.isEmpty && (P.info? t).isSome && funcOk P f then F f else False | _ => False)
    | _ => False
  | none => False
def invokeW (P : Program) (u : TypeId) (t : TypeId) (name : String) (r : Value) (args : List Value) (h : Hp) (F : Value → Hp → Prop) : Prop :=
  ∃ p, r = .iface u (.pointer p) ∧ methodW P u name fun f => callW P t f (.pointer p :: args) h F
def isBytesT (P : Program) (e : TypeId) : Bool :=
  match tdesc P e with
  | .int .u8 => true
  | _ => false
def convW (P : Program) (src dst : TypeId) (x : Value) (h : Hp) (F : Value → Hp → Prop) : Prop :=
  match x with
  | .int _ n => (match tdesc P dst with
    | .int k => F (.int k (iwrap k n)) h
    | _ => False)
  | .string s => (match tdesc P dst with
    | .string => F (.string s) h
    | .slice e => bif isBytesT P e then ∀ cap, leN (bsize s) cap → newH h (.cells (grown (bytesV s) [] [Value.int .u8 0] (nsub cap (bsize s))) e (cap, nadd cap 1)) fun b h' => F (.slice (some ⟨b, 0, none⟩) (bsize s) cap) h' else False
    | _ => False)
  | .slice a n _ => (match tdesc P src, tdesc P dst with
    | .slice e, .string => bif isBytesT P e then ∃ s : ByteArray, SliceAt h a n (bytesV s) ∧ F (.string s) h else False
    | _, _ => False)
  | _ => False
def maxInt (k : IntKind) : Int → List Value → (Value → Prop) → Prop
  | x, [], F => F (.int k x)
  | x, .int _ y :: l, F => maxInt k (if y > x then y else x) l F
  | _, _, _ => False
def minInt (k : IntKind) : Int → List Value → (Value → Prop) → Prop
  | x, [], F => F (.int k x)
  | x, .int _ y :: l, F => minInt k (if y < x then y else x) l F
  | _, _, _ => False
/-- What a copy of a text writes, and how much. -/
def cpyV (s : ByteArray) (len : Nat) : List Value := (bytesV s).take len
def cpyN (s : ByteArray) (len : Nat) : Int := ((Nat.min s.size len : Nat) : Int)
def cpyM (n len : Nat) : Nat := Nat.min n len
def cpyI (n len : Nat) : Int := ((cpyM n len : Nat) : Int)
def copyC (h : Hp) (a : Option Addr) (vs : List Value) (F : Hp → Prop) : Prop := (vs = [] ∧ F h) ∨ ∃ b o, a = some ⟨b, o, none⟩ ∧ plainP vs ∧ storeH h b o vs F
def builtinW (P : Program) (b : Builtin) (argTypes : List TypeId) (args : List Value) (h : Hp) (F : Value → Hp → Prop) : Prop :=
  match b with
  | .len => (match argTypes, args with
    | t :: _, x :: _ => (match tdesc P t, x with
      | .string, .string s => F (.int .i64 (bsize s)) h
      | .array n _, _ => F (.int .i64 n) h
      | .slice _, .slice _ n _ => F (.int .i64 n) h
      | .map kt _, .map r => ∃ b o m, r = some b ∧ h b = some o ∧ MapObj P kt o m ∧ F (.int .i64 (mlen m)) h
      | _, _ => False)
    | _, _ => False)
  | .append => (match argTypes, args with
    | t :: u :: _, [.slice a len cap, x] => (match tdesc P t, tdesc P u, x with
      | .slice e, .slice _, .slice xa n _ => ∃ xs, SliceAt h xa (nmul n (szT P e)) xs ∧ appendW P e a len cap h xs n F
      | .slice e, .string, .string s => appendW P e a len cap h (bytesV s) (bsize s) F
      | _, _, _ => False)
    | _, _ => False)
  | .delete => (match argTypes, args with
    | t :: _, .map r :: k :: _ => (match tdesc P t with
      | .map kt _ => bif keyT P kt && keyOk P kt k then ∃ b o m, r = some b ∧ h b = some o ∧ MapObj P kt o m ∧ ∀ o', MapObj P kt o' (mdel m k) → F (.tuple #[]) (h.upd b o') else False
      | _ => False)
    | _, _ => False)
  | .copy => (match argTypes, args with
    | t :: _, [.slice a len _, x] => (match tdesc P t, x with
      | .slice e, .string s => bif okT P e && Nat.beq (szT P e) 1 then ∃ J : Hp → Prop, (∀ h', J h' → F (.int .i64 (cpyN s len)) h') ∧ copyC h a (cpyV s len) J else False
      | .slice e, .slice xa n _ => bif okT P e && Nat.beq (szT P e) 1 then ∃ xs : List Value, SliceAt h xa (cpyM n len) xs ∧ ∃ J : Hp → Prop, (∀ h', J h' → F (.int .i64 (cpyI n len)) h') ∧ copyC h a xs J else False
      | _, _ => False)
    | _, _ => False)
  | .max => (match args with
    | .int k x :: l => maxInt k x l fun v => F v h
    | _ => False)
  | .min => (match args with
    | .int k x :: l => minInt k x l fun v => F v h
    | _ => False)
  | _ => False
def opW (P : Program) (H : Hints) (o : Oper) (st : St) (h hl : Hp) (K : SV → St → Hp → Prop) : Prop :=
  match o.op with
  | .move x => K (st.ev x) st h
  | .assign x => K (st.ev x) st h
  | .pick c a b => st.evV c fun cv => match cv with
    | .bool c => (match st.ev a, st.ev b with
      | .val (.bool x), .val (.bool y) => K (.val (.bool (cond c x y))) st h
      | x, y => cond c (K x st h) (K y st h))
    | _ => False
  | .alloc e => match bigT P e with
    | some (n, k) => bif zeroBig P e n k then newH h (.cells (bigV k (List.replicate n 0)).toArray e (0, 0)) fun b h' => K (.ptr b 0) st h' else False
    | none => bif blobT P e then (bif zeroLOk P e then newH h (.cells (zeroL P e).toArray e (0, 0)) fun b h' => K (.ptr b 0) st h' else False) else zeroCs P e fun z => (match o.dst with
    | some d => bif H.loc d then K (.loc st.n 0) (st.newL z e) h else newH h (.cells z.toArray e (0, 0)) fun b h' => K (.ptr b 0) st h'
    | none => False)
  | .box e x => st.evV x fun v => (match o.dst with
    | some d => bif H.loc d then K (.loc st.n 0) (st.newL (cellsOfV v) e) h else newH h (.cells (cellsOfV v).toArray e (0, 0)) fun b h' => K (.ptr b 0) st h'
    | none => False)
  | .build t ps => bif blobT P t then (bif !zeroLOk P t then False else (match tdesc P t with
    | .struct fs => bif !(fs.toList.all fun f => okT P f.type) then False else partsB P st (szT P t) (fun i => (fs.toList[i]?).map fun f => (f.offset, szT P f.type)) (zeroL P t) ps.toList fun cs => K (.val (.agg cs.toArray)) st h
    | .array _ e => bif !okT P e then False else partsB P st (szT P t) (fun i => some (i * szT P e, szT P e)) (zeroL P t) ps.toList fun cs => K (.val (.agg cs.toArray)) st h
    | _ => False)) else zeroCs P t fun z => (match tdesc P t with
    | .struct fs => bif !(fs.toList.all fun f => okT P f.type) then False else partsW P st (fun i => (fs.toList[i]?).map fun f => (f.offset, szT P f.type)) z ps.toList fun cs => K (.val (.agg cs.toArray)) st h
    | .array _ e => bif !okT P e then False else partsW P st (fun i => some (i * szT P e, szT P e)) z ps.toList fun cs => K (.val (.agg cs.toArray)) st h
    | _ => False)
  | .buildSlice t len ps => (match tdesc P t with
    | .slice e => bif Nat.blt (len * szT P e) 16777216 && Nat.blt 0 (szT P e) then bif blobT P e then (bif !zeroLOk P e then False else partsB P st (len * szT P e) (fun i => some (i * szT P e, szT P e)) (zeroRow P e len) ps.toList fun cs =>
        newH h (.cells cs.toArray e (0, 0)) fun b h' => K (.val (.slice (some ⟨b, 0, none⟩) len len)) st h') else zeroCs P e fun z => partsW P st (fun i => some (i * szT P e, szT P e)) (List.replicate len z).flatten ps.toList fun cs =>
        newH h (.cells cs.toArray e (0, 0)) fun b h' => K (.val (.slice (some ⟨b, 0, none⟩) len len)) st h'
      else False
    | _ => False)
  | .makeSlice t l c => st.evV l fun lv => st.evV c fun cv => (match tdesc P t, lv, cv with
    | .slice e, .int _ l, .int _ c => bif okT P e && Nat.beq (szT P e) 1 then (match zeroT P e with
      | some z => bif !Nat.beq (cellsOfV z).length 1 then False else leI 0 l ∧ leI l c ∧ leI (imul (Int.ofNat (byT P e)) c) 281474976710656 ∧ leI c 9223372036854775807 ∧ newH h (.cells (repV c.toNat (cellsOfV z)).toArray e (0, 0)) fun b h' => K (.val (.slice (some ⟨b, 0, none⟩) l.toNat c.toNat)) st h'
      | none => False) else False
    | _, _, _ => False)
  | .load t a => (st.ev a).at fun pl => (match pl with
    | .loc l off => (match st.L l with
      | some (cs, _) => loadL P t cs off fun v => K (.val v) st h
      | none => False)
    | .ptr b off => bif ifcT P t && !Nat.beq H.ifc 0 then ∃ a, hl.cell b off = some (.iface H.ifc (.pointer a)) ∧ K (.val (.iface H.ifc (.pointer a))) st h else loadH P t hl b off fun v => K (.val v) st h)
  | .store t a x => st.evV x fun v => match (bif blobT P t then some (0, IntKind.u8) else bigT P t) with
    | some _ => bif okT P t then (cellsOfV v).length = szT P t ∧ plainP (cellsOfV v) ∧ (st.ev a).at (fun pl => (match pl with
      | .loc _ _ => False
      | .ptr b off => storeH h b off (cellsOfV v) fun h' => K (.val undef) st h')) else False
    | none => bif okT P t && Nat.beq (cellsOfV v).length (szT P t) then (st.ev a).at (fun pl => (match pl with
      | .loc l off => (match st.L l with
        | some (cs, e) => bif Nat.ble (off + (cellsOfV v).length) cs.length then plainW (cellsOfV v) (K (.val undef) (st.setL l (setL cs off (cellsOfV v)) e) h) else False
        | none => False)
      | .ptr b off => plainW (cellsOfV v) (storeH h b off (cellsOfV v) fun h' => K (.val undef) st h'))) else False
  | .nilCheck x => (match st.ev x with
    | .ptr b off => K (.ptr b off) st h
    | .loc l off => K (.loc l off) st h
    | .val (.pointer a) => derefW a fun b off => K (.ptr b off) st h
    | .val (.iface t v) => K (.val (.iface t v)) st h
    | .val (.func (.func f) fst cap) => K (.val (.func (.func f) fst cap)) st h
    | _ => False)
  | .binOp op t x y _ => st.evV x fun a => st.evV y fun b => binW P op t (Region.isConst x || Region.isConst y) a b fun v => K (.val v) st h
  | .unOp op _ x => st.evV x fun a => unW op a fun v => K (.val v) st h
  | .convert src dst x => bif okU P src then st.evV x fun a => convW P src dst a h fun v h' => K (.val v) st h' else False
  | .makeFunc fn first captured => (match fn with
    | .func f => st.evVs first.toList fun fs => st.evVs captured.toList fun cs => K (.val (.func (.func f) fs.toArray cs.toArray)) st h
    | _ => False)
  | .makeInterface t x => (match tdesc P t with
    | .interface _ => False
    | .invalid => False
    | _ => st.evV x fun v => K (.val (.iface t v)) st h)
  | .fieldAddr s x f => (match tdesc P s with
    | .struct fs => (match fs.toList[f]? with
      | some fd => bif Nat.beq (szT P fd.type) 0 then False else (st.ev x).at fun pl => K (pl.sv fd.offset) st h
      | none => False)
    | _ => False)
  | .field t x f => (match tdesc P t with
    | .struct fs => (match fs.toList[f]? with
      | some fd => st.evV x fun v => (match v with
        | .agg cs => bif blobT P t then fieldB P fd.type (szT P t) cs.toList fd.offset fun v => K (.val v) st h else loadL P fd.type cs.toList fd.offset fun v => K (.val v) st h
        | _ => False)
      | none => False)
    | _ => False)
  | .indexAddr t x i => st.evV i fun iv => (match tdesc P t with
    | .slice e => bif okT P e then st.evV x fun v => (match v with
      | .slice a len _ => idxW i iv len fun n => derefW a fun b off => K (.ptr b (nadd off (nmul n (szT P e)))) st h
      | _ => False) else False
    | .array len e => bif okT P e then idxW i iv len fun n => (st.ev x).at fun pl => K (pl.sv (idxMul i n (szT P e))) st h else False
    | _ => False)
  | .index t x i => st.evV i fun iv => st.evV x fun v => (match tdesc P t, v with
    | .string, .string s => idxW i iv (bsize s) fun n => K (.val (.int .u8 (byteAt s n))) st h
    | .array len e, .agg cs => bif aggT P e || !okU P e || !okT P e then False else idxW i iv len fun n => (kd1 (tdesc P e)).ex fun v => lget cs.toList (idxMul i n (szT P e)) = some v ∧ K (.val v) st h
    | _, _ => False)
  | .slice t x lo hi mx => st.evV x fun v => (match tdesc P t, v with
    | .string, .string s => (match mx with
      | none => boundW st hi (bsize s) (bsize s) fun hv => boundW st lo 0 hv fun l => K (.val (.string (bext s l hv))) st h
      | some _ => False)
    | .slice e, .slice a len cap => bif okT P e && (mx.isNone || hi.isSome) then boundW st mx cap cap fun m => boundW st hi len m fun hv => boundW st lo 0 hv fun l =>
        K (.val (.slice (slA m l (szT P e) a) (nsub hv l) (nsub m l))) st h else False
    | .array n e, .pointer p => bif okT P e && mx.isNone then derefW p fun b o => boundW st hi n n fun hv => boundW st lo 0 hv fun l =>
        K (.val (.slice (slA n l (szT P e) (some ⟨b, o, none⟩)) (nsub hv l) (nsub n l))) st h else False
    | _, _ => False)
  | .makeMap t r => (match tdesc P t with
    | .map kt _ => bif keyT P kt && r.isNone then ∀ b, h b = none → ∀ o, MapObj P kt o [] → K (.val (.map (some b))) st (h.upd b o) else False
    | _ => False)
  | .lookup t x k ok => (match tdesc P t with
    | .map kt et => bif keyT P kt then st.evV x fun xv => st.evV k fun kv => bif keyOk P kt kv then (match zeroT P et, xv with
      | some z, .map r => ∃ b o m, r = some b ∧ h b = some o ∧ MapObj P kt o m ∧ (vtIn P 6 et).ex fun v => ∃ c : Bool, LookOk m kv z v c ∧ K (.val (cond ok (.tuple #[v, .bool c]) v)) st h
      | _, _ => False) else False else False
    | _ => False)
  | .mapUpdate t x k y => (match tdesc P t with
    | .map kt _ => bif keyT P kt then st.evV x fun xv => st.evV k fun kv => st.evV y fun yv => bif keyOk P kt kv then (match xv with
      | .map r => ∃ b o m, r = some b ∧ h b = some o ∧ MapObj P kt o m ∧ ∀ o', MapObj P kt o' (mset m kv yv) → K (.val undef) st (h.upd b o')
      | _ => False) else False else False
    | _ => False)
  | .extract x i => st.evV x fun v => (match v with
    | .tuple vs => (match vs.toList[i]? with
      | some v => K (.val v) st h
      | none => False)
    | _ => False)
  | .call c => st.evVs c.args.toList fun args => (match c.callee with
    | .value f => st.evV f fun fv => (match fv with
      | .func (.func g) fst cap => bif funcOk P g then callW P o.type g (fst.toList ++ args ++ cap.toList) h fun v h' => K (.val v) st h' else externW P g (fst.toList ++ args ++ cap.toList) fun v => K (.val v) st h
      | _ => False)
    | .invoke r name => st.evV r fun rv => invokeW P H.ifc o.type name rv args h fun v h' => K (.val v) st h'
    | .builtin b => builtinW P b c.argTypes.toList args h fun v h' => K (.val v) st h')
  | _ => False
def St.put (N : Nat) (st : St) (dst : Option Tmp) (s : SV) : St :=
  match dst with
  | some d => st.set d (bif Nat.blt d N then s else .dead)
  | none => st
/-- An operation under its guard. -/
def opG (P : Program) (H : Hints) (ops : Array Oper) (o : Oper) (st : St) (h hl : Hp) (K : St → Hp → Prop) : Prop :=
  match o.guard with
  | none => opW P H o st h hl fun s st' h' => K (st'.put H.N o.dst s) h'
  | some (j, want) => match (ops[j]?).bind (·.dst) with
    | none => False
    | some d => match st.e d with
      | .val (.bool b) => cond b
          (bif want then opW P H o (st.set d (.val (.bool true))) h hl fun s st' h' => K (st'.put H.N o.dst s) h' else K ((st.set d (.val (.bool true))).put H.N o.dst (.val undef)) h)
          (bif want then K ((st.set d (.val (.bool false))).put H.N o.dst (.val undef)) h else opW P H o (st.set d (.val (.bool false))) h hl fun s st' h' => K (st'.put H.N o.dst s) h')
      | .val (.tuple _) => K (st.put H.N o.dst (.val undef)) h
      | _ => False
/-- Whether an operation calls the function that a range handed on. -/
def isYield (st : St) (o : Oper) : Option (Nat × List Operand) :=
  match o.op with
  | .call c => (match c.callee with
    | .value f => (match st.ev f with
      | .val (.func (.yield l) fst cap) => bif fst.isEmpty && cap.isEmpty then some (l, c.args.toList) else none
      | _ => none)
    | _ => none)
  | _ => none
def yieldW (P : Program) (st : St) (l : Nat) (xs : List Operand) (h : Hp) (K : SV → St → Hp → Prop) : Prop :=
  st.evVs xs fun vs => YieldH P l vs h fun v h' => ∃ b : Bool, v = .bool b ∧ K (.val (.bool b)) st h'
def opGY (P : Program) (H : Hints) (ops : Array Oper) (o : Oper) (yl : Nat) (xs : List Operand) (st : St) (h : Hp) (K : St → Hp → Prop) : Prop :=
  match o.guard with
  | none => yieldW P st yl xs h fun s st' h' => K (st'.put H.N o.dst s) h'
  | some (j, want) => match (ops[j]?).bind (·.dst) with
    | none => False
    | some d => match st.e d with
      | .val (.bool b) => cond b
          (bif want then yieldW P (st.set d (.val (.bool true))) yl xs h fun s st' h' => K (st'.put H.N o.dst s) h' else K ((st.set d (.val (.bool true))).put H.N o.dst (.val undef)) h)
          (bif want then K ((st.set d (.val (.bool false))).put H.N o.dst (.val undef)) h else yieldW P (st.set d (.val (.bool false))) yl xs h fun s st' h' => K (st'.put H.N o.dst s) h')
      | .val (.tuple _) => K (st.put H.N o.dst (.val undef)) h
      | _ => False
def opsW (P : Program) (H : Hints) (ops : Array Oper) : List Oper → St → Hp → (St → Hp → Prop) → Prop
  | [], st, h, K => K st h
  | o :: l, st, h, K => match isYield st o with
    | none => opG P H ops o st h h fun st' h' => opsW P H ops l st' h' K
    | some (yl, xs) => opGY P H ops o yl xs st h fun st' h' => opsW P H ops l st' h' K

/-! ### the operations that only look -/
def quietB (P : Program) (b : Builtin) (ts : List TypeId) : Bool :=
  match b with
  | .max => true
  | .min => true
  | .len => (match ts with
    | t :: _ => (match tdesc P t with
      | .map _ _ => false
      | _ => true)
    | _ => false)
  | _ => false
def quietOp (P : Program) : Op → Bool
  | .move _ => true
  | .assign _ => true
  | .pick .. => true
  | .build .. => true
  | .load .. => true
  | .nilCheck _ => true
  | .binOp .. => true
  | .unOp .. => true
  | .makeInterface .. => true
  | .makeFunc .. => true
  | .fieldAddr .. => true
  | .field .. => true
  | .indexAddr .. => true
  | .index .. => true
  | .slice .. => true
  | .extract .. => true
  | .convert src dst _ => (match tdesc P src, tdesc P dst with
    | .int _, .int _ => true
    | .string, .string => true
    | _, _ => false)
  | .call c => (match c.callee with
    | .builtin b => quietB P b c.argTypes.toList
    | _ => false)
  | _ => false

/-! ### regions that may run in more than one order -/
def isLoad : Op → Bool
  | .load .. => true
  | _ => false
/-- What must have come up before 'x'. -/
def ancs (ops : Array Oper) (m : List Nat) : List Nat → List Nat
  | [] => m
  | j :: l => ancs ops (bif m.any (Nat.beq j) then (match ops[j]? with
    | some o => (o.after.toList.filter (Region.binds .any)).map (·.on) ++ m
    | none => m) else m) l
def befores (ops : Array Oper) (ord : List Nat) : Option Nat → List Nat
  | none => []
  | some x => ancs ops [x] ord.reverse
/-- Whether what stood at the start is known to stand when 'i' comes up. -/
def onI (x : Option Nat) (m : List Nat) (i : Nat) : Bool :=
  match x with
  | none => true
  | some x => m.any (Nat.beq i) && !Nat.beq i x
def isX (x : Option Nat) (i : Nat) : Bool :=
  match x with
  | none => false
  | some x => Nat.beq x i
/-- Whether it is taken first. -/
def first (P : Program) (x : Option Nat) (m : List Nat) (i : Nat) (o : Oper) : Bool := quietOp P o.op && (onI x m i || !isLoad o.op) && !isX x i
def Tr.alts : Tr → List Nat
  | .f i _ u => i :: u.alts
  | _ => []
def Tr.isE : Tr → Bool
  | .e => true
  | _ => false
def orderOk (P : Program) (ops : Array Oper) (x : Option Nat) (m : List Nat) : Bool → Tr → Nat → Array Bool → Bool
  | hd, .done, _, listed => hd && (Region.ready .any ops listed).isEmpty
  | hd, .e, _, _ => !hd
  | _, .q _ _, 0, _ => false
  | hd, .q i t, n + 1, listed => hd && (match ops[i]? with
    | some o => first P x m i o && (Region.ready .any ops listed).any (Nat.beq i) && Region.free .any ops listed i
    | none => false) && orderOk P ops x m true t n (listed.setIfInBounds i true)
  | _, .f _ _ _, 0, _ => false
  | hd, .f i t u, n + 1, listed => (!hd || ((Region.ready .any ops listed).any (Nat.beq i) && (Region.ready .any ops listed).all fun j => (Nat.beq i j || u.alts.any fun k => Nat.beq k j))) &&
      orderOk P ops x m true t n (listed.setIfInBounds i true) && orderOk P ops x m false u (n + 1) listed
/-! the same, off numbers whose bits say what is listed -/
def bitM (l j : Nat) : Bool := Nat.beq (Nat.land (Nat.shiftRight l j) 1) 1
def subM (a b : Nat) : Bool := Nat.beq (Nat.land a b) a
def maskOf (f : Nat → Bool) : Nat → Nat
  | 0 => 0
  | n + 1 => bif f n then Nat.lor (Nat.shiftLeft 1 n) (maskOf f n) else maskOf f n
def depL : List Edge → Nat
  | [] => 0
  | e :: es => bif Region.binds .any e then Nat.lor (Nat.shiftLeft 1 e.on) (depL es) else depL es
def depM (o : Oper) : Nat := depL o.after.toList
def confM (ops : Array Oper) (i : Nat) (oi : Oper) : Nat :=
  maskOf (fun j => !(Nat.beq j i || match ops[j]? with
    | some oj => oj.after.any (fun e => Region.binds .any e && Nat.beq e.on i) || oi.apart ops oj
    | none => true)) ops.size
def noOther (l : Nat) (al : List Nat) : List Oper → Nat → Bool
  | [], _ => true
  | o :: os, j => (bitM l j || !subM (depM o) l || al.any (Nat.beq j)) && noOther l al os (Nat.succ j)
def rdyM (ops : Array Oper) (l i : Nat) : Bool := match ops[i]? with
  | some o => !bitM l i && subM (depM o) l
  | none => false
def fastOk (P : Program) (ops : Array Oper) (x : Option Nat) (m : List Nat) : Bool → Tr → Nat → Nat → Bool
  | hd, .done, _, l => hd && noOther l [] ops.toList 0
  | hd, .e, _, _ => !hd
  | _, .q _ _, 0, _ => false
  | hd, .q i t, n + 1, l => hd && (match ops[i]? with
    | some o => first P x m i o && rdyM ops l i && subM (confM ops i o) l
    | none => false) && fastOk P ops x m true t n (Nat.lor l (Nat.shiftLeft 1 i))
  | _, .f _ _ _, 0, _ => false
  | hd, .f i t u, n + 1, l => rdyM ops l i && (!hd || noOther l (i :: u.alts) ops.toList 0) &&
      fastOk P ops x m true t n (Nat.lor l (Nat.shiftLeft 1 i)) && fastOk P ops x m false u (n + 1) l
def drawOk (P : Program) (ops : Array Oper) (x : Option Nat) (m : List Nat) (tr : Tr) : Bool :=
  Region.noSelect ops && P.follows .mixedOrders && fastOk P ops x m true tr ops.size 0
/-- An operation that only looks, at what stood at the start. -/
def opQ (P : Program) (H : Hints) (ops : Array Oper) (o : Oper) (L : Nat → Option (List Value × TypeId)) (st : St) (h hl : Hp) (K : St → Prop) : Prop :=
  match o.guard with
  | none => opW P H o { st with L := L } h hl fun s _ _ => K (st.put H.N o.dst s)
  | some (j, want) => match (ops[j]?).bind (·.dst) with
    | none => False
    | some d => match st.e d with
      | .val (.bool b) => cond b
          (bif want then opW P H o { st.set d (.val (.bool true)) with L := L } h hl fun s _ _ => K ((st.set d (.val (.bool true))).put H.N o.dst s) else K ((st.set d (.val (.bool true))).put H.N o.dst (.val undef)))
          (bif want then K ((st.set d (.val (.bool false))).put H.N o.dst (.val undef)) else opW P H o { st.set d (.val (.bool false)) with L := L } h hl fun s _ _ => K ((st.set d (.val (.bool false))).put H.N o.dst s))
      | .val (.tuple _) => K (st.put H.N o.dst (.val undef))
      | _ => False
def ordW (P : Program) (H : Hints) (ops : Array Oper) (x : Option Nat) (m : List Nat) (st0 : St) (hl : Hp) : Tr → Bool → St → Hp → (St → Hp → Prop) → Prop
  | .done, _, st, h, K => K st h
  | .e, _, _, _, _ => True
  | .q i t, off, st, h, K => match ops[i]? with
    | none => False
    | some o => bif onI x m i then opQ P H ops o st0.L st h hl fun st' => ordW P H ops x m st0 hl t off st' h K
         else opQ P H ops o (fun _ => none) st h (fun _ => none) fun st' => ordW P H ops x m st0 hl t off st' h K
  | .f i t u, off, st, h, K =>
    let A : Prop := match ops[i]? with
      | none => False
      | some o => opG P H ops o st h h fun st' h' => bif off || isX x i then ordW P H ops x m st0 hl t true st' h' K else
        bif verOk [] st0 st' st0.n then Sub hl h' ∧ ordW P H ops x m st0 hl t false st' h' K else False
    bif u.isE then A else A ∧ ordW P H ops x m st0 hl u off st h K
def drawW (P : Program) (H : Hints) (id : Nat) (ops : Array Oper) (st : St) (h : Hp) (K : St → Hp → Prop) : Prop :=
  match H.order id with
  | none => False
  | some (x, ex, ord, tr) => bif drawOk P ops x (befores ops ord x) tr then
      (bif ex then ∃ hl, Sub hl h ∧ ordW P H ops x (befores ops ord x) st hl tr false st h K else ordW P H ops x (befores ops ord x) st h tr false st h K) else False

/-! ### ranges over functions -/
/-- Whether code may stand in a round: no range over a function, no deferred call. -/
def _root_.Go.Code.calm : Code → Bool
  | .region _ ops _ => ops.toList.all fun o => match o.op with
    | .defer _ => false
    | _ => true
  | .seq a b => a.calm && b.calm
  | .cond _ a b => a.calm && b.calm
  | .block _ c => c.calm
  | .loop c => c.calm
  | .rangeFunc .. => false
  | _ => true
def _root_.Go.Code.exits : Code → List Nat
  | .seq a b => a.exits ++ b.exits
  | .cond _ a b => a.exits ++ b.exits
  | .block _ c => c.exits
  | .loop c => c.exits
  | .exit i => [i]
  | _ => []
/-- The shapes of what an iterator hands to a round. -/
def yieldVts (P : Program) (g : FuncId) : List Vt :=
  match P.funcs[g]? with
  | some fn => (match fn.params[0]? with
    | some t => (match tdesc P t with
      | .func ps _ _ => ps.toList.map fun t => vtIn P 6 t
      | _ => [])
    | none => [])
  | none => []
/-- An iterator: it hands on values 'X k' in the k-th round, as long as rounds say 'more'; off its end 'E k'; it looks at what 'Pre' tells. -/
def IterH (P : Program) (gf : FuncId) (lb : List Value) (X : Nat → List Value → Prop) (E : Nat → Prop) (Pre : Hp → Prop) : Prop := ∀ (l : Nat) (J : Nat → Hp → Prop) (Jx : Hp → Prop), (∀ k h, J k h → Pre h) → (∀ k vs h, J k h → X k vs → YieldH P l vs h fun v h' => (v = .bool true ∧ J (k + 1) h') ∨ (v = .bool false ∧ Jx h')) → ∀ h, J 0 h → CallsH P gf (Value.func (.yield l) #[] #[] :: lb).toArray h fun _ h' => (∃ k, E k ∧ J k h') ∨ Jx h'
def St.params (N : Nat) (st : St) : List Nat → List Value → St
  | p :: ps, v :: vs => (st.put N (some p) (.val v)).params N ps vs
  | _, _ => st
def exW : List Nat → (Nat → Prop) → Prop
  | [], _ => True
  | i :: l, F => F i ∧ exW l F
def marksW : List Nat → Hp → (Hp → Prop) → Prop
  | [], h, F => F h
  | D :: ds, h, F => h D = some (.deferred (some [])) ∧ marksW ds (h.del D) F

/-! ### code -/
inductive Ex where
  | normal | exit (id : Nat) | ret
def rangeB (P : Program) (gf : FuncId) (lb : List Value) (ps : Array Tmp) (N : Nat) (exits : List Nat) (A B : St → Hp → (Ex → St → Hp → Prop) → Prop) (st : St) (h : Hp) (K : Ex → St → Hp → Prop) : Prop :=
  bif !(funcOk P gf && Nat.beq (yieldVts P gf).length ps.size) then False else
    ∃ (X : Nat → List Value → Prop) (E : Nat → Prop) (Pre : Hp → Prop) (J : Nat → Hp → Prop) (Jx : Nat → Hp → Prop),
      IterH P gf lb X E Pre ∧ (∀ h0 b o, h0 b = none → Pre h0 → Pre (h0.upd b o)) ∧ (∀ k h1, J k h1 → Pre h1) ∧ J 0 h ∧
      (∀ k vs, X k vs → Vt.exL (yieldVts P gf) fun us => vs = us) ∧
      (∀ k, Vt.univL (yieldVts P gf) fun vs => X k vs → ∀ h1, J k h1 → A (({ st with marks := [] }).params N ps.toList vs) h1 fun x st1 h2 => match x with
        | .normal => B st1 h2 fun x _ h3 => (match x with
          | .normal => J (k + 1) h3
          | .ret => Jx 0 h3
          | .exit i => bif exits.any (Nat.beq i) then Jx (i + 1) h3 else False)
        | _ => False) ∧
      (∀ k h2, J k h2 → E k → ∀ D, h2 D = none → K .normal { st with marks := D :: st.marks } (h2.upd D (.deferred (some [])))) ∧
      (∀ h2, Jx 0 h2 → ∀ D, h2 D = none → K .ret { st with marks := D :: st.marks } (h2.upd D (.deferred (some [])))) ∧
      exW exits fun i => ∀ h2, Jx (i + 1) h2 → ∀ D, h2 D = none → K (.exit i) { st with marks := D :: st.marks } (h2.upd D (.deferred (some [])))
def W (P : Program) (H : Hints) : Code → St → Hp → (Ex → St → Hp → Prop) → Prop
  | .skip, st, h, K => K .normal st h
  | .region id ops draw, st, h, K => bif draw then drawW P H id ops st h (fun st' h' => K .normal st' h') else opsW P H ops ops.toList st h fun st' h' => K .normal st' h'
  | .seq a b, st, h, K => match ((fr b).bind H.join).map (fun ks => ks.map st.res) with
    | none => W P H a st h fun x st' h' => match x with
      | .normal => W P H b st' h' K
      | .exit i => K (.exit i) st' h'
      | .ret => K .ret st' h'
    | some ks => ∃ J : Fn (Hp → Prop) ks, allC ks (st.head a) J (fun st1 j => ∀ h1, j h1 → W P H b st1 h1 K) ∧
      W P H a st h fun x st' h' => match x with
        | .normal => bif verOk ks st st' st.n && lblOk ks st.n then capC ks st' J fun j => j h' else False
        | .exit i => K (.exit i) st' h'
        | .ret => K .ret st' h'
  | .cond c a b, st, h, K => match st.ev c with
    | .val (.bool v) => cond v (W P H a st h K) (W P H b st h K)
    | _ => False
  | .block id c, st, h, K => W P H c st h fun x st' h' => match x with
    | .normal => K .normal st' h'
    | .exit i => bif Nat.beq i id then K .normal st' h' else K (.exit i) st' h'
    | .ret => K .ret st' h'
  | .exit id, st, h, K => K (.exit id) st h
  | .ret, st, h, K => K .ret st h
  | .loop c, st, h, K => match ((fr c).bind H.loop).map (fun ks => ks.map st.res) with
    | none => False
    | some ks => bif !lblOk ks st.n then False else ∃ I : Fn (Hp → Nat → Prop) ks, (∃ m, capC ks st I fun i => i h m) ∧
      allC ks (st.head c) I (fun st1 i => ∀ h1 m, i h1 m → W P H c st1 h1 fun x st' h' => match x with
        | .normal => bif verOk ks st1 st' st.n then capC ks st' I fun j => ∃ m', ltN m' m ∧ j h' m' else False
        | .exit i => K (.exit i) st' h'
        | .ret => K .ret st' h')
  | .rangeFunc g ps assign body, st, h, K => bif !(assign.calm && body.calm && Nat.beq st.n 0) then False else
      bif Nat.beq H.iter 0 then (match st.ev g with
        | .val (.func (.func gf) fst lb) => bif fst.isEmpty then rangeB P gf lb.toList ps H.N body.exits (fun st h K => W P H assign st h K) (fun st h K => W P H body st h K) st h K else False
        | _ => False)
      else st.evV g fun v => ∃ lb : List Value, v = .func (.func H.iter) #[] lb.toArray ∧ rangeB P H.iter lb ps H.N body.exits (fun st h K => W P H assign st h K) (fun st h K => W P H body st h K) st h K
  | _, _, _, _ => False
def resW (P : Program) (st : St) (h : Hp) : List ResultVar → (List Value → Prop) → Prop
  | [], F => F []
  | .tmp t :: rs, F => match (st.e t).toV with
    | some v => resW P st h rs fun vs => F (v :: vs)
    | none => False
  | .cell a t :: rs, F => (st.e a).at fun pl => (match pl with
    | .loc l off => (match st.L l with
      | some (cs, _) => loadL P t cs off fun v => resW P st h rs fun vs => F (v :: vs)
      | none => False)
    | .ptr b off => loadH P t h b off fun v => resW P st h rs fun vs => F (v :: vs))
def oneOf : List Value → Value
  | [v] => v
  | vs => .tuple vs.toArray
def st0 (args : List SV) : St := { e := fun t => (args[t]?).getD (.val undef), L := fun _ => none, n := 0, ver := fun _ => 0 }
/-- A function's formula. -/
def bodyW (P : Program) (H : Hints) (fn : Func) (args : List SV) (h : Hp) (Q : Value → Hp → Prop) : Prop :=
  match fn.body with
  | some c => W P H c (st0 args) h fun x st h' => match x with
    | .normal => marksW st.marks h' fun h'' => resW P st h'' fn.results.toList fun vs => Q (oneOf vs) h''
    | .ret => marksW st.marks h' fun h'' => resW P st h'' fn.results.toList fun vs => Q (oneOf vs) h''
    | .exit _ => False
  | none => False

end
end Go.Gx
