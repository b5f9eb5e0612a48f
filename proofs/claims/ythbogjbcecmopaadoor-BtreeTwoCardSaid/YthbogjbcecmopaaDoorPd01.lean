/- An executor for the model's code that computes a plain formula, and heaps as partial maps: definitions only. Conditions: none (no statement of the seat is claimed here). Soundness of the executor, first part: relations, and the laws of single operations. Soundness of the executor, second part: reading and writing memory, types. Soundness of the executor, third part: the operations that touch no heap, and loads. Soundness of the executor, fourth part: operators, conversions, builtins. Soundness of the executor, fifth part: conversions, builtins, calls. Soundness of the executor, sixth part: builtins and calls. Maps: that the model's operations do what the executor says. Conditions: none (no statement of the seat is claimed here). Soundness of the executor, seventh part: calls, and the operations together. Soundness of the executor, eighth part: each operation. Soundness of the executor, ninth part: the operations together, guards, regions. -/
import Derived.WalkKit
import Derived.OrdersHeld
import Derived.MapKept
import Derived.DeepKeys
import Derived.RangeFuncIn
import Derived.RangeFuncRecord
import Derived.RangeFuncSeq
import Derived.RangeFuncLeaves
import Derived.OrdersIn
import Derived.TacticsIn
import Derived.RangeFuncCalls
import Derived.Lib.ConvBytes
import Derived.WideKeyRuns
import Derived.Laws.StructEq
import Derived.Laws.Externs
import Derived.KernelRfl
namespace Go.Gx

abbrev Hp := Nat → Option Obj
def Hp.upd (h : Hp) (b : Nat) (o : Obj) : Hp := fun b' => if b' = b then some o else h b'
def Hp.cell (h : Hp) (b o : Nat) : Option Value :=
  match h b with
  | some (.cells c _ _) => c[o]?
  | _ => none
def Hp.del (h : Hp) (b : Nat) : Hp := fun c => if c = b then none else h c
def Holds (h : Hp) (w : World) : Prop := ∀ b o, h b = some o → w.heap[b]? = some o
def Sub (h g : Hp) : Prop := ∀ b o, h b = some o → g b = some o
structure Kept (h : Hp) (w : World) (h' : Hp) (w' : World) : Prop where
  os : w'.os = w.os
  tape : w'.tape = w.tape
  output : w'.output = w.output
  size : w.heap.size ≤ w'.heap.size
  block : ∀ b o, w.heap[b]? = some o → h b = none → w'.heap[b]? = some o ∧ h' b = none
def CallsH (P : Program) (f : FuncId) (args : Array Value) (h : Hp) (Q : Value → Hp → Prop) : Prop :=
  ∀ w, Holds h w → Calls P f args w fun e w' => ∃ v h', e = .returned v ∧ Q v h' ∧ Holds h' w' ∧ Kept h w h' w'

def YieldH (P : Program) (l : Nat) (args : List Value) (h : Hp) (Q : Value → Hp → Prop) : Prop :=
  ∀ w, Holds h w → YieldAt Fence.wide 0 P l args.toArray w fun e w' => ∃ v h', e = .returned v ∧ Q v h' ∧ Holds h' w' ∧ Kept h w h' w'

abbrev iwrap (k : IntKind) (a : Int) : Int := k.wrap a
abbrev iadd (a b : Int) : Int := a + b
abbrev isub (a b : Int) : Int := a - b
abbrev imul (a b : Int) : Int := a * b
abbrev itdiv (a b : Int) : Int := a.tdiv b
abbrev itmod (a b : Int) : Int := a.tmod b
abbrev iand (k : IntKind) (a b : Int) : Int := (BitVec.ofInt k.bits a &&& BitVec.ofInt k.bits b).toNat
abbrev ior (k : IntKind) (a b : Int) : Int := (BitVec.ofInt k.bits a ||| BitVec.ofInt k.bits b).toNat
abbrev ixor (k : IntKind) (a b : Int) : Int := (BitVec.ofInt k.bits a ^^^ BitVec.ofInt k.bits b).toNat
abbrev iandn (k : IntKind) (a b : Int) : Int := (BitVec.ofInt k.bits a &&& ~~~BitVec.ofInt k.bits b).toNat
abbrev ishl (k : IntKind) (a b : Int) : Int := a * 2 ^ min b.toNat k.bits
abbrev ishr (k : IntKind) (a b : Int) : Int := a.fdiv (2 ^ min b.toNat k.bits)
noncomputable def hb : Bool → Bool := Classical.choose (⟨id, rfl⟩ : ∃ f : Bool → Bool, f = id)
theorem hb_eq (b : Bool) : hb b = b := by
  have h : hb = id := Classical.choose_spec (⟨id, rfl⟩ : ∃ f : Bool → Bool, f = id)
  rw [h]; rfl
noncomputable section
abbrev ieq (a b : Int) : Bool := hb (a == b)
abbrev ine (a b : Int) : Bool := hb (a != b)
abbrev ilt (a b : Int) : Bool := hb (decide (a < b))
abbrev ile (a b : Int) : Bool := hb (decide (a ≤ b))
abbrev igt (a b : Int) : Bool := hb (decide (a > b))
abbrev ige (a b : Int) : Bool := hb (decide (a ≥ b))
abbrev itoNat (a : Int) : Nat := a.toNat
abbrev bsize (s : ByteArray) : Nat := s.size
abbrev bcat (s t : ByteArray) : ByteArray := s ++ t
abbrev bext (s : ByteArray) (l h : Nat) : ByteArray := s.extract l h
abbrev beqS (s t : ByteArray) : Bool := hb (s.toList == t.toList)
abbrev bltS (s t : ByteArray) : Bool := hb (Op.bytesLess s.toList t.toList)
abbrev nadd (a b : Nat) : Nat := a + b
abbrev nmul (a b : Nat) : Nat := a * b
abbrev nsub (a b : Nat) : Nat := a - b
abbrev bnot (a : Bool) : Bool := !a
abbrev band (a b : Bool) : Bool := a && b
abbrev bor (a b : Bool) : Bool := a || b
abbrev beqB (a b : Bool) : Bool := a == b
abbrev leI (a b : Int) : Prop := a ≤ b
abbrev ltI (a b : Int) : Prop := a < b
abbrev leN (a b : Nat) : Prop := a ≤ b
abbrev ltN (a b : Nat) : Prop := a < b
abbrev slA (m l size : Nat) (a : Option Addr) : Option Addr := if m = l then a else a.map (·.add (l * size))
abbrev isNoneA (a : Option Addr) : Bool := a.isNone
abbrev isNoneN (a : Option Nat) : Bool := a.isNone

inductive Kd where
  | int (k : IntKind) | bool | str | slice | ptr | map | any
def ikc : IntKind → Nat
  | .i8 => 0 | .i16 => 1 | .i32 => 2 | .i64 => 3 | .u8 => 4 | .u16 => 5 | .u32 => 6 | .u64 => 7
def ikEq (a b : IntKind) : Bool := Nat.beq (ikc a) (ikc b)
def Kd.ex : Kd → (Value → Prop) → Prop
  | .int k, F => ∃ n : Int, F (.int k n)
  | .bool, F => ∃ b : Bool, F (.bool b)
  | .str, F => ∃ s : ByteArray, F (.string s)
  | .slice, F => ∃ (a : Option Addr) (l c : Nat), F (.slice a l c)
  | .ptr, F => ∃ a : Option Addr, F (.pointer a)
  | .map, F => ∃ r : Option Nat, F (.map r)
  | .any, F => ∃ v : Value, F v
def tdesc (P : Program) (t : TypeId) : TypeDesc := (P.underlying t).getD .invalid
def tinfo (P : Program) (t : TypeId) : TypeInfo := (P.info? t).getD default
def kd1 : TypeDesc → Kd
  | .int k => .int k
  | .bool => .bool
  | .string => .str
  | .slice _ => .slice
  | .pointer _ => .ptr
  | .map _ _ => .map
  | _ => .any
def kdsIn (P : Program) : Nat → TypeId → List Kd
  | 0, _ => []
  | d + 1, t =>
    match tdesc P t with
    | .struct fs => fs.toList.flatMap fun f => kdsIn P d f.type
    | .array n e => (List.replicate n (kdsIn P d e)).flatten
    | u => [kd1 u]
def kds (P : Program) (t : TypeId) : List Kd := kdsIn P 8 t
def aggT (P : Program) (t : TypeId) : Bool :=
  match tdesc P t with
  | .struct _ => true
  | .array _ _ => true
  | _ => false
def szT (P : Program) (t : TypeId) : Nat := (tinfo P t).size
def byT (P : Program) (t : TypeId) : Nat := (tinfo P t).bytes
def okT (P : Program) (t : TypeId) : Bool := (P.info? t).isSome
def okU (P : Program) (t : TypeId) : Bool := (P.underlying t).isSome
def zeroT (P : Program) (t : TypeId) : Option Value := (tinfo P t).zero
def bigT (P : Program) (t : TypeId) : Option (Nat × IntKind) :=
  match tdesc P t with
  | .array n e => bif Nat.blt 16 n then (match tdesc P e with
    | .int k => some (n, k)
    | _ => none) else none
  | _ => none
def blobT (P : Program) (t : TypeId) : Bool := aggT P t && (bigT P t).isNone && Nat.blt 16 (szT P t)
def litT (P : Program) (t : TypeId) : Bool := match tdesc P t with
  | .array _ _ => true
  | _ => blobT P t
def bigV (k : IntKind) (ns : List Int) : List Value := ns.map fun n => .int k n
inductive Vt where
  | one (k : Kd) | agg (ks : List Kd) | tup (l : List Vt) | big (n : Nat) (k : IntKind) | blob (n : Nat)
def vtIn (P : Program) : Nat → TypeId → Vt
  | 0, _ => .one .any
  | d + 1, t =>
    match tdesc P t with
    | .tuple ts => .tup (ts.toList.map fun t => vtIn P d t)
    | .struct _ => bif blobT P t then .blob (szT P t) else .agg (kds P t)
    | .array _ _ => (match bigT P t with
      | some (n, k) => .big n k
      | none => bif blobT P t then .blob (szT P t) else .agg (kds P t))
    | u => .one (kd1 u)
def kdsEx : List Kd → (List Value → Prop) → Prop
  | [], F => F []
  | k :: ks, F => k.ex fun v => kdsEx ks fun vs => F (v :: vs)
mutual
def Vt.ex : Vt → (Value → Prop) → Prop
  | .one k, F => k.ex F
  | .agg ks, F => kdsEx ks fun vs => F (.agg vs.toArray)
  | .big n k, F => ∃ ns : List Int, ns.length = n ∧ F (.agg (bigV k ns).toArray)
  | .blob n, F => ∃ vs : List Value, vs.length = n ∧ F (.agg vs.toArray)
  | .tup l, F => Vt.exL l fun vs => F (.tuple vs.toArray)
def Vt.exL : List Vt → (List Value → Prop) → Prop
  | [], F => F []
  | t :: ts, F => t.ex fun v => Vt.exL ts fun vs => F (v :: vs)
end

def Kd.univ : Kd → (Value → Prop) → Prop
  | .int k, F => ∀ n : Int, F (.int k n)
  | .bool, F => ∀ b : Bool, F (.bool b)
  | .str, F => ∀ s : ByteArray, F (.string s)
  | .slice, F => ∀ (a : Option Addr) (l c : Nat), F (.slice a l c)
  | .ptr, F => ∀ a : Option Addr, F (.pointer a)
  | .map, F => ∀ r : Option Nat, F (.map r)
  | .any, F => ∀ v : Value, F v
def kdsUniv : List Kd → (List Value → Prop) → Prop
  | [], F => F []
  | k :: ks, F => k.univ fun v => kdsUniv ks fun vs => F (v :: vs)
def Vt.univ : Vt → (Value → Prop) → Prop
  | .one k, F => k.univ F
  | .agg ks, F => kdsUniv ks fun vs => F (.agg vs.toArray)
  | .big n k, F => ∀ ns : List Int, ns.length = n → F (.agg (bigV k ns).toArray)
  | .blob n, F => ∀ vs : List Value, vs.length = n → F (.agg vs.toArray)
  | .tup _, F => ∀ v : Value, F v
def Vt.univL : List Vt → (List Value → Prop) → Prop
  | [], F => F []
  | t :: ts, F => t.univ fun v => Vt.univL ts fun vs => F (v :: vs)

inductive SV where
  | val (v : Value)
  | ptr (b o : Nat)
  | loc (l o : Nat)
  | dead
def SV.toV : SV → Option Value
  | .val v => some v
  | .ptr b o => some (.pointer (some ⟨b, o, none⟩))
  | _ => none
structure St where
  e : Nat → SV
  L : Nat → Option (List Value × TypeId)
  n : Nat
  ver : Nat → Nat
  /-- the blocks for the deferred calls of ranges over functions -/
  marks : List Nat := []
def St.set (st : St) (t : Nat) (s : SV) : St := { st with e := fun u => bif Nat.beq u t then s else st.e u }
def St.setL (st : St) (l : Nat) (cs : List Value) (t : TypeId) : St :=
  { st with L := fun m => bif Nat.beq m l then some (cs, t) else st.L m, ver := fun m => bif Nat.beq m l then st.ver m + 1 else st.ver m }
def St.newL (st : St) (cs : List Value) (t : TypeId) : St :=
  { st with L := fun m => bif Nat.beq m st.n then some (cs, t) else st.L m, n := st.n + 1 }
def St.ev (st : St) : Operand → SV
  | .tmp t => st.e t
  | .const v => .val v
  | .global g => .ptr g 0
  | .func f => .val (.func (.func f) #[] #[])
def St.evV (st : St) (x : Operand) (F : Value → Prop) : Prop :=
  match (st.ev x).toV with
  | some v => F v
  | none => False
def St.evVs (st : St) : List Operand → (List Value → Prop) → Prop
  | [], F => F []
  | x :: xs, F => st.evV x fun v => st.evVs xs fun vs => F (v :: vs)

def Kd.Fn (R : Type) : Kd → Type
  | .int _ => Int → R
  | .bool => Bool → R
  | .str => ByteArray → R
  | .slice => Option Addr → Nat → Nat → R
  | .ptr => Option Addr → R
  | .map => Option Nat → R
  | .any => Value → R
def Kd.all {R : Type} : (k : Kd) → k.Fn R → (Value → R → Prop) → Prop
  | .int k, f, G => ∀ n : Int, G (.int k n) (f n)
  | .bool, f, G => ∀ b : Bool, G (.bool b) (f b)
  | .str, f, G => ∀ s : ByteArray, G (.string s) (f s)
  | .slice, f, G => ∀ (a : Option Addr) (l c : Nat), G (.slice a l c) (f a l c)
  | .ptr, f, G => ∀ a : Option Addr, G (.pointer a) (f a)
  | .map, f, G => ∀ r : Option Nat, G (.map r) (f r)
  | .any, f, G => ∀ v : Value, G v (f v)
def Kd.cap {R : Type} : (k : Kd) → k.Fn R → Value → (R → Prop) → Prop
  | .int k, f, v, G => match v with
    | .int k' n => bif ikEq k k' then G (f n) else False
    | _ => False
  | .bool, f, v, G => match v with
    | .bool b => G (f b)
    | _ => False
  | .str, f, v, G => match v with
    | .string s => G (f s)
    | _ => False
  | .slice, f, v, G => match v with
    | .slice a l c => G (f a l c)
    | _ => False
  | .ptr, f, v, G => match v with
    | .pointer a => G (f a)
    | _ => False
  | .map, f, v, G => match v with
    | .map r => G (f r)
    | _ => False
  | .any, f, v, G => G (f v)
def KFn (R : Type) : List Kd → Type
  | [] => R
  | k :: ks => k.Fn (KFn R ks)
def kAll {R : Type} : (ks : List Kd) → KFn R ks → (List Value → R → Prop) → Prop
  | [], f, G => G [] f
  | k :: ks, f, G => k.all f fun v r => kAll ks r fun vs s => G (v :: vs) s
def kCap {R : Type} : (ks : List Kd) → KFn R ks → List Value → (R → Prop) → Prop
  | [], f, vs, G => match vs with
    | [] => G f
    | _ :: _ => False
  | k :: ks, f, vs, G => match vs with
    | [] => False
    | v :: vs => k.cap f v fun r => kCap ks r vs G
inductive Cv where
  | slot (t : Nat) (k : Kd)
  | blk (l : Nat) (ks : List Kd)
  | arr (l : Nat)
def Fn (R : Type) : List Cv → Type
  | [] => R
  | .slot _ k :: ks => k.Fn (Fn R ks)
  | .blk _ l :: ks => KFn (Fn R ks) l
  | .arr _ :: ks => List Value → Fn R ks
def St.cells (st : St) (l : Nat) : List Value := ((st.L l).map (·.1)).getD []
def St.cellT (st : St) (l : Nat) : TypeId := ((st.L l).map (·.2)).getD 0
def allC {R : Type} : (ks : List Cv) → St → Fn R ks → (St → R → Prop) → Prop
  | [], st, f, G => G st f
  | .slot t k :: ks, st, f, G => k.all f fun v r => allC ks (st.set t (.val v)) r G
  | .blk l kk :: ks, st, f, G => kAll kk f fun vs r => allC ks (st.setL l vs (st.cellT l)) r G
  | .arr l :: ks, st, f, G => ∀ cs : List Value, allC ks (st.setL l cs (st.cellT l)) (f cs) G
def capC {R : Type} : (ks : List Cv) → St → Fn R ks → (R → Prop) → Prop
  | [], _, f, G => G f
  | .slot t k :: ks, st, f, G =>
    match (st.e t).toV with
    | some v => k.cap f v fun r => capC ks st r G
    | none => False
  | .blk l kk :: ks, st, f, G =>
    match st.L l with
    | some (cs, _) => kCap kk f cs fun r => capC ks st r G
    | none => False
  | .arr l :: ks, st, f, G =>
    match st.L l with
    | some (cs, _) => capC ks st (f cs) G
    | none => False
def Cv.isBlk (l : Nat) : Cv → Bool
  | .blk m _ => Nat.beq m l
  | .arr m => Nat.beq m l
  | .slot _ _ => false
def carries (ks : List Cv) (l : Nat) : Bool := ks.any (Cv.isBlk l)
def verOk (ks : List Cv) (st st' : St) : Nat → Bool
  | 0 => Nat.beq st'.marks.length st.marks.length
  | l + 1 => (bif carries ks l then Nat.beq (st'.cellT l) (st.cellT l) else Nat.beq (st'.ver l) (st.ver l)) && verOk ks st st' l
def lblOk (ks : List Cv) (n : Nat) : Bool := ks.all fun
  | .blk l _ => Nat.blt l n
  | .arr l => Nat.blt l n
  | .slot _ _ => true
def _root_.Go.Code.asg : Code → Nat → Bool
  | .region _ ops _, t => ops.toList.any fun o => match o.dst with | some d => Nat.beq d t | none => false
  | .seq a b, t => a.asg t || b.asg t
  | .cond _ a b, t => a.asg t || b.asg t
  | .block _ c, t => c.asg t
  | .loop c, t => c.asg t
  | _, _ => false
def St.head (st : St) (c : Code) : St := { st with e := fun t => bif c.asg t then .dead else st.e t }

def St.res (st : St) : Cv → Cv
  | .slot t k => .slot t k
  | .blk t ks => .blk (match st.e t with | .loc l _ => l | _ => st.n) ks
  | .arr t => .arr (match st.e t with | .loc l _ => l | _ => st.n)

inductive Tr where
  | done | e | q (i : Nat) (t : Tr) | f (i : Nat) (t u : Tr)
structure Hints where
  N : Nat
  loc : Nat → Bool
  join : Nat → Option (List Cv)
  loop : Nat → Option (List Cv)
  /-- what an interface holds whose method is called -/
  ifc : Nat
  order : Nat → Option (Option Nat × Bool × List Nat × Tr)
  /-- the iterator that is ranged over -/
  iter : Nat := 0
  /-- functions that are called as values are any -/
  clo : Bool := false
def fr : Code → Option Nat
  | .region id _ _ => some id
  | .seq a b => match fr a with | some i => some i | none => fr b
  | .cond _ a b => match fr a with | some i => some i | none => fr b
  | .block _ c => fr c
  | .loop c => fr c
  | _ => none

def CellsAt (h : Hp) (b o : Nat) (xs : List Value) : Prop := ∀ i (hi : i < xs.length), h.cell b (o + i) = some xs[i]
def derefW (a : Option Addr) (F : Nat → Nat → Prop) : Prop := ∃ b o, a = some ⟨b, o, none⟩ ∧ F b o
def loadKs (h : Hp) (b : Nat) : Nat → List Kd → (List Value → Prop) → Prop
  | _, [], F => F []
  | o, k :: ks, F => k.ex fun v => h.cell b o = some v ∧ loadKs h b (o + 1) ks fun vs => F (v :: vs)
def loadH (P : Program) (t : TypeId) (h : Hp) (b o : Nat) (F : Value → Prop) : Prop :=
  match bigT P t with
  | some (n, k) => bif Nat.beq n (szT P t) then ∃ ns : List Int, ns.length = n ∧ CellsAt h b o (bigV k ns) ∧ F (.agg (bigV k ns).toArray) else False
  | none =>
  bif blobT P t then (∃ vs : List Value, vs.length = szT P t ∧ CellsAt h b o vs ∧ F (.agg vs.toArray)) else
  bif aggT P t then (bif Nat.beq (kds P t).length (szT P t) then loadKs h b o (kds P t) fun vs => F (.agg vs.toArray) else False) else
    bif okU P t then (kd1 (tdesc P t)).ex fun v => h.cell b o = some v ∧ F v else False
def ifcT (P : Program) (t : TypeId) : Bool :=
  match tdesc P t with
  | .interface _ => true
  | _ => false
def loadL (P : Program) (t : TypeId) (cs : List Value) (o : Nat) (F : Value → Prop) : Prop :=
  bif aggT P t then (bif Nat.ble (o + szT P t) cs.length then F (.agg ((cs.drop o).take (szT P t)).toArray) else False)
  else bif okU P t then (match cs[o]? with
    | some v => F v
    | none => False) else False
def plainW : List Value → Prop → Prop
  | [], F => F
  | v :: vs, F => match v with
    | .agg _ => False
    | .tuple _ => False
    | _ => plainW vs F
def plainP (vs : List Value) : Prop := ∀ v ∈ vs, (∀ c, v ≠ .agg c) ∧ (∀ c, v ≠ .tuple c)
def setCells (cs : Array Value) (o : Nat) : List Value → Array Value
  | [] => cs
  | v :: vs => setCells (cs.setIfInBounds o v) (o + 1) vs
def setL (cs : List Value) (o : Nat) : List Value → List Value
  | [] => cs
  | v :: vs => setL (cs.set o v) (o + 1) vs
def Hp.put (h : Hp) (b o : Nat) (vs : List Value) : Hp :=
  match h b with
  | some (.cells cs t f) => h.upd b (.cells (setCells cs o vs) t f)
  | _ => h
def StoreOk (h : Hp) (b o n : Nat) : Prop :=
  ∃ cs t lo hi, h b = some (.cells cs t (lo, hi)) ∧ o + n ≤ cs.size ∧ (hi ≤ o ∨ o + n ≤ lo)
def storeH (h : Hp) (b o : Nat) (vs : List Value) (F : Hp → Prop) : Prop := StoreOk h b o vs.length ∧ F (h.put b o vs)
def SliceAt (h : Hp) (a : Option Addr) (n : Nat) (xs : List Value) : Prop :=
  xs.length = n ∧ (n = 0 ∨ ∃ b o, a = some ⟨b, o, none⟩ ∧ CellsAt h b o xs)
def byteAt (s : ByteArray) (n : Nat) : Int := (((s.data.toList[n]?).getD 0).toNat : Nat)
def lget (cs : List Value) (i : Nat) : Option Value := cs[i]?
def bytesL (l : List Nat) : ByteArray := ⟨(l.map fun n => UInt8.ofNat n).toArray⟩
def bytesV (s : ByteArray) : List Value := s.data.toList.map fun b => .int .u8 (b.toNat : Nat)
def repV (n : Nat) (z : List Value) : List Value := (List.replicate n z).flatten
def newH (h : Hp) (o : Obj) (F : Nat → Hp → Prop) : Prop := ∀ b, h b = none → F b (h.upd b o)

def cellsOfV : Value → List Value
  | .agg cs => cs.toList
  | v => [v]

def binInt (op : BinOp) (k : IntKind) (a b : Int) (F : Value → Prop) : Prop :=
  match op with
  | .add => F (.int k (iwrap k (iadd a b)))
  | .sub => F (.int k (iwrap k (isub a b)))
  | .mul => F (.int k (iwrap k (imul a b)))
  | .quo => b ≠ 0 ∧ F (.int k (iwrap k (itdiv a b)))
  | .rem => b ≠ 0 ∧ F (.int k (itmod a b))
  | .and => F (.int k (iwrap k (iand k a b)))
  | .or => F (.int k (iwrap k (ior k a b)))
  | .xor => F (.int k (iwrap k (ixor k a b)))
  | .andNot => F (.int k (iwrap k (iandn k a b)))
  | .eql => F (.bool (ieq a b))
  | .neq => F (.bool (ine a b))
  | .lss => F (.bool (ilt a b))
  | .leq => F (.bool (ile a b))
  | .gtr => F (.bool (igt a b))
  | .geq => F (.bool (ige a b))
  | _ => False
def binStr (op : BinOp) (x y : ByteArray) (F : Value → Prop) : Prop :=
  match op with
  | .add => leN (nadd (bsize x) (bsize y)) 9223372036854775807 ∧ F (.string (bcat x y))
  | .eql => F (.bool (beqS x y))
  | .neq => F (.bool (bnot (beqS x y)))
  | .lss => F (.bool (bltS x y))
  | .leq => F (.bool (bor (bltS x y) (beqS x y)))
  | .gtr => F (.bool (bnot (bor (bltS x y) (beqS x y))))
  | .geq => F (.bool (bnot (bltS x y)))
  | _ => False
def partL (P : Program) (t : TypeId) (cs : List Value) (o : Nat) (F : Value → Prop) : Prop := loadL P t cs o F
def eqFsW (P : Program) (eq : TypeId → Value → Value → (Bool → Prop) → Prop) (xs ys : List Value) : List Field → (Bool → Prop) → Prop
  | [], F => F true
  | f :: fs, F => bif f.name == "_" then False else partL P f.type xs f.offset fun a => partL P f.type ys f.offset fun b => eq f.type a b fun r => eqFsW P eq xs ys fs fun s => F (band r s)
def eqTy (P : Program) : Nat → TypeId → Value → Value → (Bool → Prop) → Prop
  | 0, _, _, _, _ => False
  | d + 1, t, x, y, F => match tdesc P t, x, y with
    | .int _, .int k a, .int k' b => bif ikEq k k' then F (ieq a b) else False
    | .bool, .bool a, .bool b => F (beqB a b)
    | .string, .string a, .string b => F (beqS a b)
    | .struct fs, .agg xs, .agg ys => bif P.stoodInHeld t then False else eqFsW P (eqTy P d) xs.toList ys.toList fs.toList F
    | _, _, _ => False
def LitsAre (P : Program) (t : TypeId) (cs : List Value) (ls : List Lit) : Prop := cs.length = P.cellsOf t ∧ ∃ D, P.keyLits D t cs = some ls
def leqL (ls ms : List Lit) : Bool := hb (@decide (ls = ms) (Classical.propDecidable _))
def eqW (P : Program) (t : TypeId) (c : Bool) (x y : Value) (F : Bool → Prop) : Prop :=
  match x, y with
  | .bool a, .bool b => eqTy P 1 t (.bool a) (.bool b) F
  | .agg xs, .agg ys => bif P.eqGuardType P.depth t then False else bif litT P t then (bif P.keyTypeAt 8 t then ∃ ls ms, LitsAre P t xs.toList ls ∧ LitsAre P t ys.toList ms ∧ F (leqL ls ms) else False) else eqTy P 5 t (.agg xs) (.agg ys) F
  | .pointer a, .pointer none => (match tdesc P t with
    | .pointer _ => F (isNoneA a)
    | _ => False)
  | .slice a _ _, .slice none _ _ => (match tdesc P t with
    | .slice _ => F (isNoneA a)
    | _ => False)
  | .map a, .map none => (match tdesc P t with
    | .map _ _ => F (isNoneN a)
    | _ => False)
  | .iface _ _, .nilIface => (match tdesc P t with
    | .interface _ => F false
    | _ => False)
  | .nilIface, .nilIface => (match tdesc P t with
    | .interface _ => bif c then F true else False
    | _ => False)
  | _, _ => False
def binW (P : Program) (op : BinOp) (t : TypeId) (c : Bool) (x y : Value) (F : Value → Prop) : Prop :=
  match x, y with
  | .int k a, .int k' b => match op with
    | .shl => leI 0 b ∧ F (.int k (iwrap k (ishl k a b)))
    | .shr => leI 0 b ∧ F (.int k (ishr k a b))
    | op => bif ikEq k k' then binInt op k a b F else False
  | .string a, .string b => binStr op a b F
  | x, y => match op with
    | .eql => eqW P t c x y fun r => F (.bool r)
    | .neq => eqW P t c x y fun r => F (.bool (bnot r))
    | _ => False
def unW (op : UnOp) (x : Value) (F : Value → Prop) : Prop :=
  match op, x with
  | .neg, .int k n => F (.int k (iwrap k (isub 0 n)))
  | .xor, .int k n => F (.int k (iwrap k (ixor k (if k.signed then -1 else k.max) n)))
  | .not, .bool b => F (.bool (bnot b))
  | _, _ => False


def keyT1 (P : Program) (t : TypeId) : Bool :=
  match tdesc P t with
  | .int _ => true
  | .string => true
  | .bool => true
  | _ => false
def keyFs (P : Program) : List Field → Nat → Bool
  | [], _ => true
  | f :: fs, o => !(f.name == "_") && keyT1 P f.type && Nat.beq f.offset o && keyFs P fs (o + 1)
def keyT (P : Program) (t : TypeId) : Bool :=
  match tdesc P t with
  | .struct fs => !P.stoodInHeld t && keyFs P fs.toList 0
  | _ => keyT1 P t
def keyOk1 (P : Program) (t : TypeId) (v : Value) : Bool :=
  match tdesc P t, v with
  | .int k, .int k' _ => ikEq k k'
  | .string, .string _ => true
  | .bool, .bool _ => true
  | _, _ => false
def keyOks (P : Program) : List Field → List Value → Bool
  | [], [] => true
  | f :: fs, v :: vs => keyOk1 P f.type v && keyOks P fs vs
  | _, _ => false
def keyOk (P : Program) (t : TypeId) (v : Value) : Bool :=
  match tdesc P t with
  | .struct fs => (match v with
    | .agg cs => keyOks P fs.toList cs.toList
    | _ => false)
  | _ => keyOk1 P t v
def MapObj (P : Program) (kt : TypeId) (o : Obj) (m : List (Value × Value)) : Prop :=
  ∃ es clock, o = .map es clock ∧ es.toList.map (fun e => (e.key, e.val)) = m ∧ MapKept.Stamped es clock ∧ ∀ e ∈ es.toList, keyOk P kt e.key = true

def mget (m : List (Value × Value)) (k : Value) : Option Value := (m.find? fun e => @decide (e.1 = k) (Classical.propDecidable _)).map (·.2)
def mset (m : List (Value × Value)) (k v : Value) : List (Value × Value) :=
  match mget m k with
  | some _ => m.map fun e => @ite _ (e.1 = k) (Classical.propDecidable _) (k, v) e
  | none => m ++ [(k, v)]
def mdel (m : List (Value × Value)) (k : Value) : List (Value × Value) := m.filter fun e => @decide (e.1 ≠ k) (Classical.propDecidable _)
def mlen (m : List (Value × Value)) : Nat := m.length
def LookOk (m : List (Value × Value)) (k z v : Value) (c : Bool) : Prop := (c = true ∧ mget m k = some v) ∨ (c = false ∧ mget m k = none ∧ v = z)

inductive Pl where
  | loc (l o : Nat)
  | ptr (b o : Nat)
def SV.at (s : SV) (F : Pl → Prop) : Prop :=
  match s with
  | .loc l o => F (.loc l o)
  | .ptr b o => F (.ptr b o)
  | .val (.pointer a) => derefW a fun b o => F (.ptr b o)
  | _ => False
def Pl.sv (n : Nat) : Pl → SV
  | .loc l o => .loc l (o + n)
  | .ptr b o => .ptr b (nadd o n)
def idxW (x : Operand) (v : Value) (len : Nat) (F : Nat → Prop) : Prop :=
  match v with
  | .int _ n => match x with
    | .const _ => bif decide (0 ≤ n) && Nat.blt n.toNat len then F n.toNat else False
    | _ => leI 0 n ∧ ltI n len ∧ F (itoNat n)
  | _ => False
def idxMul (x : Operand) (n s : Nat) : Nat :=
  match x with
  | .const _ => n * s
  | _ => nmul n s
def isZeros (k : IntKind) : List Value → Bool
  | [] => true
  | .int k' (.ofNat 0) :: l => ikEq k k' && isZeros k l
  | _ :: _ => false
def zeroBig (P : Program) (t : TypeId) (n : Nat) (k : IntKind) : Bool :=
  match zeroT P t with
  | some v => Nat.beq (cellsOfV v).length (szT P t) && Nat.beq (cellsOfV v).length n && isZeros k (cellsOfV v)
  | none => false
def zeroL (P : Program) (t : TypeId) : List Value := ((zeroT P t).map cellsOfV).getD []
def zeroLOk (P : Program) (t : TypeId) : Bool := match zeroT P t with
  | some v => Nat.beq (cellsOfV v).length (szT P t)
  | none => false
def zeroRow (P : Program) (t : TypeId) (n : Nat) : List Value := (List.replicate n (zeroL P t)).flatten
def partsB (P : Program) (st : St) (n : Nat) (place : Nat → Option (Nat × Nat)) (cells : List Value) : List (Nat × Operand) → (List Value → Prop) → Prop
  | [], F => F cells
  | (i, x) :: ps, F => match place i with
    | some (off, size) => st.evV x fun v => bif Nat.ble (off + size) n then (cellsOfV v).length = size ∧ partsB P st n place (setL cells off (cellsOfV v)) ps F else False
    | none => False
def cellsKs (cs : List Value) : Nat → List Kd → (List Value → Prop) → Prop
  | _, [], F => F []
  | o, k :: ks, F => k.ex fun v => lget cs o = some v ∧ cellsKs cs (o + 1) ks fun vs => F (v :: vs)
def fieldB (P : Program) (t : TypeId) (n : Nat) (cs : List Value) (o : Nat) (F : Value → Prop) : Prop :=
  bif !Nat.ble (o + szT P t) n then False else cs.length = n ∧
    match bigT P t with
    | some (m, k) => bif Nat.beq m (szT P t) then ∃ ns : List Int, ns.length = m ∧ (cs.drop o).take m = bigV k ns ∧ F (.agg (bigV k ns).toArray) else False
    | none => bif blobT P t then F (.agg ((cs.drop o).take (szT P t)).toArray) else
      bif aggT P t then (bif Nat.beq (kds P t).length (szT P t) then cellsKs cs o (kds P t) fun vs => F (.agg vs.toArray) else False) else
      bif okU P t then (kd1 (tdesc P t)).ex fun v => lget cs o = some v ∧ F v else False
def boundW (st : St) (x : Option Operand) (d top : Nat) (F : Nat → Prop) : Prop :=
  match x with
  | none => F d
  | some x => st.evV x fun v => match v with
    | .int _ n => leI 0 n ∧ leI n top ∧ F (itoNat n)
    | _ => False
def partsW (P : Program) (st : St) (place : Nat → Option (Nat × Nat)) (cells : List Value) : List (Nat × Operand) → (List Value → Prop) → Prop
  | [], F => F cells
  | (i, x) :: ps, F => match place i with
    | some (off, size) => st.evV x fun v => bif Nat.beq (cellsOfV v).length size && Nat.ble (off + size) cells.length then partsW P st place (setL cells off (cellsOfV v)) ps F else False
    | none => False
def zeroCs (P : Program) (t : TypeId) (F : List Value → Prop) : Prop :=
  match zeroT P t with
  | some v => bif Nat.beq (cellsOfV v).length (szT P t) then F (cellsOfV v) else False
  | none => False
def grown (old xs z : List Value) (n : Nat) : Array Value := (old ++ xs ++ (List.replicate n z).flatten).toArray
def appendI (P : Program) (e : TypeId) (a : Option Addr) (len cap : Nat) (h : Hp) (xs : List Value) (n : Nat) (F : Value → Hp → Prop) : Prop :=
  bif !(okT P e && Nat.blt 0 (byT P e)) then False else (leN (nadd len n) cap → (a = none ∧ xs = [] ∧ F (.slice none (nadd len n) cap) h) ∨ (∃ b o, a = some ⟨b, o, none⟩ ∧ plainW xs (storeH h b (nadd o (nmul len (szT P e))) xs fun h' => F (.slice (some ⟨b, o, none⟩) (nadd len n) cap) h'))) ∧
  (ltN cap (nadd len n) → leN (nmul (nadd (nmul 2 (nadd len n)) 768) (byT P e)) 281474976710656 ∧ ∃ old, SliceAt h a (nmul len (szT P e)) old ∧
    ∀ nc, leN (nadd len n) nc → zeroCs P e fun z => newH h (.cells (grown old xs z (nsub nc (nadd len n))) e (0, 0)) fun b h' => F (.slice (some ⟨b, 0, none⟩) (nadd len n) nc) h')
def appendC (P : Program) (e : TypeId) (a : Option Addr) (len cap : Nat) (h : Hp) (xs : List Value) (n : Nat) (J : Option Addr → Nat → Hp → Prop) : Prop :=
  appendI P e a len cap h xs n fun v h' => ∃ a' c', v = .slice a' (nadd len n) c' ∧ J a' c' h'
def appendW (P : Program) (e : TypeId) (a : Option Addr) (len cap : Nat) (h : Hp) (xs : List Value) (n : Nat) (F : Value → Hp → Prop) : Prop :=
  ∃ J : Option Addr → Nat → Hp → Prop, (∀ a' c' h', J a' c' h' → F (.slice a' (nadd len n) c') h') ∧ appendC P e a len cap h xs n J
def callW (P : Program) (t : TypeId) (g : FuncId) (args : List Value) (h : Hp) (F : Value → Hp → Prop) : Prop :=
  CallsH P g args.toArray h fun v h' => (vtIn P 6 t).ex fun v' => v = v' ∧ F v' h'
def isAdd64 (P : Program) (g : FuncId) : Bool :=
  match P.funcs[g]? with
  | some fn => fn.body.isNone && fn.name == "math/bits.Add64" && fn.origin == ""
  | none => false
def externW (P : Program) (g : FuncId) (args : List Value) (F : Value → Prop) : Prop :=
  bif isAdd64 P g then (match args with
    | [.int .u64 x, .int .u64 y, .int .u64 c] => leI 0 x ∧ leI 0 y ∧ leI 0 c ∧ leI c 1 ∧ F (.tuple #[.int .u64 (itmod (iadd (iadd x y) c) 18446744073709551616), .int .u64 (itdiv (iadd (iadd x y) c) 18446744073709551616)])
    | _ => False) else False
def funcOk (P : Program) (g : FuncId) : Bool :=
  match P.funcs[g]? with
  | some fn => fn.body.isSome && fn.name != "runtime.NumGoroutine"
  | none => false
def FnH (P : Program) (v : Value) (args : List Value) (h : Hp) (Q : Value → Hp → Prop) : Prop := ∃ (g : Nat) (fst cap : List Value), v = .func (.func g) fst.toArray cap.toArray ∧ funcOk P g = true ∧ CallsH P g (fst ++ args ++ cap).toArray h Q
def methodW (P : Program) (t : TypeId) (name : String) (F : FuncId → Prop) : Prop :=
  match (tinfo P t).methods.find? (·.name == name) with
  | some m => match m.func with
    | some (f, true) => (match P.underlying t with | some (.pointer _) => bif m.path.isEmpty && (P.info? t).isSome && funcOk P f then F f else False | _ => False)
    | _ => False
  | none => False
def invokeW (P : Program) (u : TypeId) (t : TypeId) (name : String) (r : Value) (args : List Value) (h : Hp) (F : Value → Hp → Prop) : Prop :=
  ∃ p, r = .iface u (.pointer p) ∧ methodW P u name fun f => callW P t f (.pointer p :: args) h F
def isBytesT (P : Program) (e : TypeId) : Bool :=
  match tdesc P e with
  | .int .u8 => true
  | _ => false
def convW (P : Program) (src dst : TypeId) (x : Value) (h : Hp) (F : Value → Hp → Prop) : Prop :=
  match x with
  | .int _ n => (match tdesc P dst with
    | .int k => F (.int k (iwrap k n)) h
    | _ => False)
  | .string s => (match tdesc P dst with
    | .string => F (.string s) h
    | .slice e => bif isBytesT P e then ∀ cap, leN (bsize s) cap → newH h (.cells (grown (bytesV s) [] [Value.int .u8 0] (nsub cap (bsize s))) e (cap, nadd cap 1)) fun b h' => F (.slice (some ⟨b, 0, none⟩) (bsize s) cap) h' else False
    | _ => False)
  | .slice a n _ => (match tdesc P src, tdesc P dst with
    | .slice e, .string => bif isBytesT P e then ∃ s : ByteArray, SliceAt h a n (bytesV s) ∧ F (.string s) h else False
    | _, _ => False)
  | _ => False
def maxInt (k : IntKind) : Int → List Value → (Value → Prop) → Prop
  | x, [], F => F (.int k x)
  | x, .int _ y :: l, F => maxInt k (if y > x then y else x) l F
  | _, _, _ => False
def minInt (k : IntKind) : Int → List Value → (Value → Prop) → Prop
  | x, [], F => F (.int k x)
  | x, .int _ y :: l, F => minInt k (if y < x then y else x) l F
  | _, _, _ => False
def cpyV (s : ByteArray) (len : Nat) : List Value := (bytesV s).take len
def cpyN (s : ByteArray) (len : Nat) : Int := ((Nat.min s.size len : Nat) : Int)
def cpyM (n len : Nat) : Nat := Nat.min n len
def cpyI (n len : Nat) : Int := ((cpyM n len : Nat) : Int)
def copyC (h : Hp) (a : Option Addr) (vs : List Value) (F : Hp → Prop) : Prop := (vs = [] ∧ F h) ∨ ∃ b o, a = some ⟨b, o, none⟩ ∧ plainP vs ∧ storeH h b o vs F
def builtinW (P : Program) (b : Builtin) (argTypes : List TypeId) (args : List Value) (h : Hp) (F : Value → Hp → Prop) : Prop :=
  match b with
  | .len => (match argTypes, args with
    | t :: _, x :: _ => (match tdesc P t, x with
      | .string, .string s => F (.int .i64 (bsize s)) h
      | .array n _, _ => F (.int .i64 n) h
      | .slice _, .slice _ n _ => F (.int .i64 n) h
      | .map kt _, .map r => ∃ b o m, r = some b ∧ h b = some o ∧ MapObj P kt o m ∧ F (.int .i64 (mlen m)) h
      | _, _ => False)
    | _, _ => False)
  | .append => (match argTypes, args with
    | t :: u :: _, [.slice a len cap, x] => (match tdesc P t, tdesc P u, x with
      | .slice e, .slice _, .slice xa n _ => ∃ xs, SliceAt h xa (nmul n (szT P e)) xs ∧ appendW P e a len cap h xs n F
      | .slice e, .string, .string s => appendW P e a len cap h (bytesV s) (bsize s) F
      | .slice e, .int _, .int _ l => leI 0 (iwrap .i64 l) ∧ leI (imul (iwrap .i64 l) (Int.ofNat (byT P e))) 281474976710656 ∧ zeroCs P e fun z => appendW P e a len cap h (repV (itoNat (iwrap .i64 l)) z) (itoNat (iwrap .i64 l)) F
      | _, _, _ => False)
    | _, _ => False)
  | .delete => (match argTypes, args with
    | t :: _, .map r :: k :: _ => (match tdesc P t with
      | .map kt _ => bif keyT P kt && keyOk P kt k then ∃ b o m, r = some b ∧ h b = some o ∧ MapObj P kt o m ∧ ∀ o', MapObj P kt o' (mdel m k) → F (.tuple #[]) (h.upd b o') else False
      | _ => False)
    | _, _ => False)
  | .copy => (match argTypes, args with
    | t :: _, [.slice a len _, x] => (match tdesc P t, x with
      | .slice e, .string s => bif okT P e && Nat.beq (szT P e) 1 then ∃ J : Hp → Prop, (∀ h', J h' → F (.int .i64 (cpyN s len)) h') ∧ copyC h a (cpyV s len) J else False
      | .slice e, .slice xa n _ => bif okT P e && Nat.beq (szT P e) 1 then ∃ xs : List Value, SliceAt h xa (cpyM n len) xs ∧ ∃ J : Hp → Prop, (∀ h', J h' → F (.int .i64 (cpyI n len)) h') ∧ copyC h a xs J else False
      | _, _ => False)
    | _, _ => False)
  | .max => (match args with
    | .int k x :: l => maxInt k x l fun v => F v h
    | _ => False)
  | .min => (match args with
    | .int k x :: l => minInt k x l fun v => F v h
    | _ => False)
  | _ => False
def opW (P : Program) (H : Hints) (o : Oper) (st : St) (h hl : Hp) (K : SV → St → Hp → Prop) : Prop :=
  match o.op with
  | .move x => K (st.ev x) st h
  | .assign x => K (st.ev x) st h
  | .pick c a b => st.evV c fun cv => match cv with
    | .bool c => (match st.ev a, st.ev b with
      | .val (.bool x), .val (.bool y) => K (.val (.bool (cond c x y))) st h
      | x, y => cond c (K x st h) (K y st h))
    | _ => False
  | .alloc e => match bigT P e with
    | some (n, k) => bif zeroBig P e n k then newH h (.cells (bigV k (List.replicate n 0)).toArray e (0, 0)) fun b h' => K (.ptr b 0) st h' else False
    | none => bif blobT P e then (bif zeroLOk P e then newH h (.cells (zeroL P e).toArray e (0, 0)) fun b h' => K (.ptr b 0) st h' else False) else zeroCs P e fun z => (match o.dst with
    | some d => bif H.loc d then K (.loc st.n 0) (st.newL z e) h else newH h (.cells z.toArray e (0, 0)) fun b h' => K (.ptr b 0) st h'
    | none => False)
  | .box e x => st.evV x fun v => (match o.dst with
    | some d => bif H.loc d then K (.loc st.n 0) (st.newL (cellsOfV v) e) h else newH h (.cells (cellsOfV v).toArray e (0, 0)) fun b h' => K (.ptr b 0) st h'
    | none => False)
  | .build t ps => bif blobT P t then (bif !zeroLOk P t then False else (match tdesc P t with
    | .struct fs => bif !(fs.toList.all fun f => okT P f.type) then False else partsB P st (szT P t) (fun i => (fs.toList[i]?).map fun f => (f.offset, szT P f.type)) (zeroL P t) ps.toList fun cs => K (.val (.agg cs.toArray)) st h
    | .array _ e => bif !okT P e then False else partsB P st (szT P t) (fun i => some (i * szT P e, szT P e)) (zeroL P t) ps.toList fun cs => K (.val (.agg cs.toArray)) st h
    | _ => False)) else zeroCs P t fun z => (match tdesc P t with
    | .struct fs => bif !(fs.toList.all fun f => okT P f.type) then False else partsW P st (fun i => (fs.toList[i]?).map fun f => (f.offset, szT P f.type)) z ps.toList fun cs => K (.val (.agg cs.toArray)) st h
    | .array _ e => bif !okT P e then False else partsW P st (fun i => some (i * szT P e, szT P e)) z ps.toList fun cs => K (.val (.agg cs.toArray)) st h
    | _ => False)
  | .buildSlice t len ps => (match tdesc P t with
    | .slice e => bif Nat.blt (len * szT P e) 16777216 && Nat.blt 0 (szT P e) then bif blobT P e then (bif !zeroLOk P e then False else partsB P st (len * szT P e) (fun i => some (i * szT P e, szT P e)) (zeroRow P e len) ps.toList fun cs =>
        newH h (.cells cs.toArray e (0, 0)) fun b h' => K (.val (.slice (some ⟨b, 0, none⟩) len len)) st h') else zeroCs P e fun z => partsW P st (fun i => some (i * szT P e, szT P e)) (List.replicate len z).flatten ps.toList fun cs =>
        newH h (.cells cs.toArray e (0, 0)) fun b h' => K (.val (.slice (some ⟨b, 0, none⟩) len len)) st h'
      else False
    | _ => False)
  | .makeSlice t l c => st.evV l fun lv => st.evV c fun cv => (match tdesc P t, lv, cv with
    | .slice e, .int _ l, .int _ c => bif okT P e && Nat.beq (szT P e) 1 then (match zeroT P e with
      | some z => bif !Nat.beq (cellsOfV z).length 1 then False else leI 0 l ∧ leI l c ∧ leI (imul (Int.ofNat (byT P e)) c) 281474976710656 ∧ leI c 9223372036854775807 ∧ newH h (.cells (repV c.toNat (cellsOfV z)).toArray e (0, 0)) fun b h' => K (.val (.slice (some ⟨b, 0, none⟩) l.toNat c.toNat)) st h'
      | none => False) else False
    | _, _, _ => False)
  | .load t a => (st.ev a).at fun pl => (match pl with
    | .loc l off => (match st.L l with
      | some (cs, _) => loadL P t cs off fun v => K (.val v) st h
      | none => False)
    | .ptr b off => bif ifcT P t && !Nat.beq H.ifc 0 then ∃ a, hl.cell b off = some (.iface H.ifc (.pointer a)) ∧ K (.val (.iface H.ifc (.pointer a))) st h else loadH P t hl b off fun v => K (.val v) st h)
  | .store t a x => st.evV x fun v => match (bif blobT P t then some (0, IntKind.u8) else bigT P t) with
    | some _ => bif okT P t then (cellsOfV v).length = szT P t ∧ plainP (cellsOfV v) ∧ (st.ev a).at (fun pl => (match pl with
      | .loc _ _ => False
      | .ptr b off => storeH h b off (cellsOfV v) fun h' => K (.val undef) st h')) else False
    | none => bif okT P t && Nat.beq (cellsOfV v).length (szT P t) then (st.ev a).at (fun pl => (match pl with
      | .loc l off => (match st.L l with
        | some (cs, e) => bif Nat.ble (off + (cellsOfV v).length) cs.length then plainW (cellsOfV v) (K (.val undef) (st.setL l (setL cs off (cellsOfV v)) e) h) else False
        | none => False)
      | .ptr b off => plainW (cellsOfV v) (storeH h b off (cellsOfV v) fun h' => K (.val undef) st h'))) else False
  | .nilCheck x => (match st.ev x with
    | .ptr b off => K (.ptr b off) st h
    | .loc l off => K (.loc l off) st h
    | .val (.pointer a) => derefW a fun b off => K (.ptr b off) st h
    | .val (.iface t v) => K (.val (.iface t v)) st h
    | .val (.func (.func f) fst cap) => K (.val (.func (.func f) fst cap)) st h
    | _ => False)
  | .binOp op t x y _ => st.evV x fun a => st.evV y fun b => binW P op t (Region.isConst x || Region.isConst y) a b fun v => K (.val v) st h
  | .unOp op _ x => st.evV x fun a => unW op a fun v => K (.val v) st h
  | .convert src dst x => bif okU P src then st.evV x fun a => convW P src dst a h fun v h' => K (.val v) st h' else False
  | .makeFunc fn first captured => (match fn with
    | .func f => st.evVs first.toList fun fs => st.evVs captured.toList fun cs => K (.val (.func (.func f) fs.toArray cs.toArray)) st h
    | _ => False)
  | .makeInterface t x => (match tdesc P t with
    | .interface _ => False
    | .invalid => False
    | _ => st.evV x fun v => K (.val (.iface t v)) st h)
  | .fieldAddr s x f => (match tdesc P s with
    | .struct fs => (match fs.toList[f]? with
      | some fd => bif Nat.beq (szT P fd.type) 0 then False else (st.ev x).at fun pl => K (pl.sv fd.offset) st h
      | none => False)
    | _ => False)
  | .field t x f => (match tdesc P t with
    | .struct fs => (match fs.toList[f]? with
      | some fd => st.evV x fun v => (match v with
        | .agg cs => bif blobT P t then fieldB P fd.type (szT P t) cs.toList fd.offset fun v => K (.val v) st h else loadL P fd.type cs.toList fd.offset fun v => K (.val v) st h
        | _ => False)
      | none => False)
    | _ => False)
  | .indexAddr t x i => st.evV i fun iv => (match tdesc P t with
    | .slice e => bif okT P e then st.evV x fun v => (match v with
      | .slice a len _ => idxW i iv len fun n => derefW a fun b off => K (.ptr b (nadd off (nmul n (szT P e)))) st h
      | _ => False) else False
    | .array len e => bif okT P e then idxW i iv len fun n => (st.ev x).at fun pl => K (pl.sv (idxMul i n (szT P e))) st h else False
    | _ => False)
  | .index t x i => st.evV i fun iv => st.evV x fun v => (match tdesc P t, v with
    | .string, .string s => idxW i iv (bsize s) fun n => K (.val (.int .u8 (byteAt s n))) st h
    | .array len e, .agg cs => bif aggT P e || !okU P e || !okT P e then False else idxW i iv len fun n => (kd1 (tdesc P e)).ex fun v => lget cs.toList (idxMul i n (szT P e)) = some v ∧ K (.val v) st h
    | _, _ => False)
  | .slice t x lo hi mx => st.evV x fun v => (match tdesc P t, v with
    | .string, .string s => (match mx with
      | none => boundW st hi (bsize s) (bsize s) fun hv => boundW st lo 0 hv fun l => K (.val (.string (bext s l hv))) st h
      | some _ => False)
    | .slice e, .slice a len cap => bif okT P e && (mx.isNone || hi.isSome) then boundW st mx cap cap fun m => boundW st hi len m fun hv => boundW st lo 0 hv fun l =>
        K (.val (.slice (slA m l (szT P e) a) (nsub hv l) (nsub m l))) st h else False
    | .array n e, .pointer p => bif okT P e && mx.isNone then derefW p fun b o => boundW st hi n n fun hv => boundW st lo 0 hv fun l =>
        K (.val (.slice (slA n l (szT P e) (some ⟨b, o, none⟩)) (nsub hv l) (nsub n l))) st h else False
    | _, _ => False)
  | .makeMap t r => (match tdesc P t with
    | .map kt _ => bif keyT P kt && r.isNone then ∀ b, h b = none → ∀ o, MapObj P kt o [] → K (.val (.map (some b))) st (h.upd b o) else False
    | _ => False)
  | .lookup t x k ok => (match tdesc P t with
    | .map kt et => bif keyT P kt then st.evV x fun xv => st.evV k fun kv => bif keyOk P kt kv then (match zeroT P et, xv with
      | some z, .map r => ∃ b o m, r = some b ∧ h b = some o ∧ MapObj P kt o m ∧ (vtIn P 6 et).ex fun v => ∃ c : Bool, LookOk m kv z v c ∧ K (.val (cond ok (.tuple #[v, .bool c]) v)) st h
      | _, _ => False) else False else False
    | _ => False)
  | .mapUpdate t x k y => (match tdesc P t with
    | .map kt _ => bif keyT P kt then st.evV x fun xv => st.evV k fun kv => st.evV y fun yv => bif keyOk P kt kv then (match xv with
      | .map r => ∃ b o m, r = some b ∧ h b = some o ∧ MapObj P kt o m ∧ ∀ o', MapObj P kt o' (mset m kv yv) → K (.val undef) st (h.upd b o')
      | _ => False) else False else False
    | _ => False)
  | .extract x i => st.evV x fun v => (match v with
    | .tuple vs => (match vs.toList[i]? with
      | some v => K (.val v) st h
      | none => False)
    | _ => False)
  | .call c => st.evVs c.args.toList fun args => (match c.callee with
    | .value f => bif H.clo then (st.evV f fun fv => FnH P fv args h fun v h' => (vtIn P 6 o.type).ex fun v' => v = v' ∧ K (.val v') st h') else st.evV f fun fv => (match fv with
      | .func (.func g) fst cap => bif funcOk P g then callW P o.type g (fst.toList ++ args ++ cap.toList) h fun v h' => K (.val v) st h' else externW P g (fst.toList ++ args ++ cap.toList) fun v => K (.val v) st h
      | _ => False)
    | .invoke r name => st.evV r fun rv => invokeW P H.ifc o.type name rv args h fun v h' => K (.val v) st h'
    | .builtin b => builtinW P b c.argTypes.toList args h fun v h' => K (.val v) st h')
  | _ => False
def St.put (N : Nat) (st : St) (dst : Option Tmp) (s : SV) : St :=
  match dst with
  | some d => st.set d (bif Nat.blt d N then s else .dead)
  | none => st
def opG (P : Program) (H : Hints) (ops : Array Oper) (o : Oper) (st : St) (h hl : Hp) (K : St → Hp → Prop) : Prop :=
  match o.guard with
  | none => opW P H o st h hl fun s st' h' => K (st'.put H.N o.dst s) h'
  | some (j, want) => match (ops[j]?).bind (·.dst) with
    | none => False
    | some d => match st.e d with
      | .val (.bool b) => cond b
          (bif want then opW P H o (st.set d (.val (.bool true))) h hl fun s st' h' => K (st'.put H.N o.dst s) h' else K ((st.set d (.val (.bool true))).put H.N o.dst (.val undef)) h)
          (bif want then K ((st.set d (.val (.bool false))).put H.N o.dst (.val undef)) h else opW P H o (st.set d (.val (.bool false))) h hl fun s st' h' => K (st'.put H.N o.dst s) h')
      | .val (.tuple _) => K (st.put H.N o.dst (.val undef)) h
      | _ => False
def isYield (st : St) (o : Oper) : Option (Nat × List Operand) :=
  match o.op with
  | .call c => (match c.callee with
    | .value f => (match st.ev f with
      | .val (.func (.yield l) fst cap) => bif fst.isEmpty && cap.isEmpty then some (l, c.args.toList) else none
      | _ => none)
    | _ => none)
  | _ => none
def isYieldH (H : Hints) (st : St) (o : Oper) : Option (Nat × List Operand) := bif H.clo then none else isYield st o
def yieldW (P : Program) (st : St) (l : Nat) (xs : List Operand) (h : Hp) (K : SV → St → Hp → Prop) : Prop :=
  st.evVs xs fun vs => YieldH P l vs h fun v h' => ∃ b : Bool, v = .bool b ∧ K (.val (.bool b)) st h'
def opGY (P : Program) (H : Hints) (ops : Array Oper) (o : Oper) (yl : Nat) (xs : List Operand) (st : St) (h : Hp) (K : St → Hp → Prop) : Prop :=
  match o.guard with
  | none => yieldW P st yl xs h fun s st' h' => K (st'.put H.N o.dst s) h'
  | some (j, want) => match (ops[j]?).bind (·.dst) with
    | none => False
    | some d => match st.e d with
      | .val (.bool b) => cond b
          (bif want then yieldW P (st.set d (.val (.bool true))) yl xs h fun s st' h' => K (st'.put H.N o.dst s) h' else K ((st.set d (.val (.bool true))).put H.N o.dst (.val undef)) h)
          (bif want then K ((st.set d (.val (.bool false))).put H.N o.dst (.val undef)) h else yieldW P (st.set d (.val (.bool false))) yl xs h fun s st' h' => K (st'.put H.N o.dst s) h')
      | .val (.tuple _) => K (st.put H.N o.dst (.val undef)) h
      | _ => False
def opsW (P : Program) (H : Hints) (ops : Array Oper) : List Oper → St → Hp → (St → Hp → Prop) → Prop
  | [], st, h, K => K st h
  | o :: l, st, h, K => match isYieldH H st o with
    | none => opG P H ops o st h h fun st' h' => opsW P H ops l st' h' K
    | some (yl, xs) => opGY P H ops o yl xs st h fun st' h' => opsW P H ops l st' h' K

def quietB (P : Program) (b : Builtin) (ts : List TypeId) : Bool :=
  match b with
  | .max => true
  | .min => true
  | .len => (match ts with
    | t :: _ => (match tdesc P t with
      | .map _ _ => false
      | _ => true)
    | _ => false)
  | _ => false
def quietOp (P : Program) : Op → Bool
  | .move _ => true
  | .assign _ => true
  | .pick .. => true
  | .build .. => true
  | .load .. => true
  | .nilCheck _ => true
  | .binOp .. => true
  | .unOp .. => true
  | .makeInterface .. => true
  | .makeFunc .. => true
  | .fieldAddr .. => true
  | .field .. => true
  | .indexAddr .. => true
  | .index .. => true
  | .slice .. => true
  | .extract .. => true
  | .convert src dst _ => (match tdesc P src, tdesc P dst with
    | .int _, .int _ => true
    | .string, .string => true
    | _, _ => false)
  | .call c => (match c.callee with
    | .builtin b => quietB P b c.argTypes.toList
    | _ => false)
  | _ => false

def isLoad : Op → Bool
  | .load .. => true
  | _ => false
def ancs (ops : Array Oper) (m : List Nat) : List Nat → List Nat
  | [] => m
  | j :: l => ancs ops (bif m.any (Nat.beq j) then (match ops[j]? with
    | some o => (o.after.toList.filter (Region.binds .any)).map (·.on) ++ m
    | none => m) else m) l
def befores (ops : Array Oper) (ord : List Nat) : Option Nat → List Nat
  | none => []
  | some x => ancs ops [x] ord.reverse
def onI (x : Option Nat) (m : List Nat) (i : Nat) : Bool :=
  match x with
  | none => true
  | some x => m.any (Nat.beq i) && !Nat.beq i x
def isX (x : Option Nat) (i : Nat) : Bool :=
  match x with
  | none => false
  | some x => Nat.beq x i
def first (P : Program) (x : Option Nat) (m : List Nat) (i : Nat) (o : Oper) : Bool := quietOp P o.op && (onI x m i || !isLoad o.op) && !isX x i
def Tr.alts : Tr → List Nat
  | .f i _ u => i :: u.alts
  | _ => []
def Tr.isE : Tr → Bool
  | .e => true
  | _ => false
def orderOk (P : Program) (ops : Array Oper) (x : Option Nat) (m : List Nat) : Bool → Tr → Nat → Array Bool → Bool
  | hd, .done, _, listed => hd && (Region.ready .any ops listed).isEmpty
  | hd, .e, _, _ => !hd
  | _, .q _ _, 0, _ => false
  | hd, .q i t, n + 1, listed => hd && (match ops[i]? with
    | some o => first P x m i o && (Region.ready .any ops listed).any (Nat.beq i) && Region.free .any ops listed i
    | none => false) && orderOk P ops x m true t n (listed.setIfInBounds i true)
  | _, .f _ _ _, 0, _ => false
  | hd, .f i t u, n + 1, listed => (!hd || ((Region.ready .any ops listed).any (Nat.beq i) && (Region.ready .any ops listed).all fun j => (Nat.beq i j || u.alts.any fun k => Nat.beq k j))) &&
      orderOk P ops x m true t n (listed.setIfInBounds i true) && orderOk P ops x m false u (n + 1) listed
def bitM (l j : Nat) : Bool := Nat.beq (Nat.land (Nat.shiftRight l j) 1) 1
def subM (a b : Nat) : Bool := Nat.beq (Nat.land a b) a
def maskOf (f : Nat → Bool) : Nat → Nat
  | 0 => 0
  | n + 1 => bif f n then Nat.lor (Nat.shiftLeft 1 n) (maskOf f n) else maskOf f n
def depL : List Edge → Nat
  | [] => 0
  | e :: es => bif Region.binds .any e then Nat.lor (Nat.shiftLeft 1 e.on) (depL es) else depL es
def depM (o : Oper) : Nat := depL o.after.toList
def confM (ops : Array Oper) (i : Nat) (oi : Oper) : Nat :=
  maskOf (fun j => !(Nat.beq j i || match ops[j]? with
    | some oj => oj.after.any (fun e => Region.binds .any e && Nat.beq e.on i) || oi.apart ops oj
    | none => true)) ops.size
def noOther (l : Nat) (al : List Nat) : List Oper → Nat → Bool
  | [], _ => true
  | o :: os, j => (bitM l j || !subM (depM o) l || al.any (Nat.beq j)) && noOther l al os (Nat.succ j)
def rdyM (ops : Array Oper) (l i : Nat) : Bool := match ops[i]? with
  | some o => !bitM l i && subM (depM o) l
  | none => false
def fastOk (P : Program) (ops : Array Oper) (x : Option Nat) (m : List Nat) : Bool → Tr → Nat → Nat → Bool
  | hd, .done, _, l => hd && noOther l [] ops.toList 0
  | hd, .e, _, _ => !hd
  | _, .q _ _, 0, _ => false
  | hd, .q i t, n + 1, l => hd && (match ops[i]? with
    | some o => first P x m i o && rdyM ops l i && subM (confM ops i o) l
    | none => false) && fastOk P ops x m true t n (Nat.lor l (Nat.shiftLeft 1 i))
  | _, .f _ _ _, 0, _ => false
  | hd, .f i t u, n + 1, l => rdyM ops l i && (!hd || noOther l (i :: u.alts) ops.toList 0) &&
      fastOk P ops x m true t n (Nat.lor l (Nat.shiftLeft 1 i)) && fastOk P ops x m false u (n + 1) l
def drawOk (P : Program) (ops : Array Oper) (x : Option Nat) (m : List Nat) (tr : Tr) : Bool :=
  Region.noSelect ops && P.follows .mixedOrders && fastOk P ops x m true tr ops.size 0
def opQ (P : Program) (H : Hints) (ops : Array Oper) (o : Oper) (L : Nat → Option (List Value × TypeId)) (st : St) (h hl : Hp) (K : St → Prop) : Prop :=
  match o.guard with
  | none => opW P H o { st with L := L } h hl fun s _ _ => K (st.put H.N o.dst s)
  | some (j, want) => match (ops[j]?).bind (·.dst) with
    | none => False
    | some d => match st.e d with
      | .val (.bool b) => cond b
          (bif want then opW P H o { st.set d (.val (.bool true)) with L := L } h hl fun s _ _ => K ((st.set d (.val (.bool true))).put H.N o.dst s) else K ((st.set d (.val (.bool true))).put H.N o.dst (.val undef)))
          (bif want then K ((st.set d (.val (.bool false))).put H.N o.dst (.val undef)) else opW P H o { st.set d (.val (.bool false)) with L := L } h hl fun s _ _ => K ((st.set d (.val (.bool false))).put H.N o.dst s))
      | .val (.tuple _) => K (st.put H.N o.dst (.val undef))
      | _ => False
def ordW (P : Program) (H : Hints) (ops : Array Oper) (x : Option Nat) (m : List Nat) (st0 : St) (hl : Hp) : Tr → Bool → St → Hp → (St → Hp → Prop) → Prop
  | .done, _, st, h, K => K st h
  | .e, _, _, _, _ => True
  | .q i t, off, st, h, K => match ops[i]? with
    | none => False
    | some o => bif onI x m i then opQ P H ops o st0.L st h hl fun st' => ordW P H ops x m st0 hl t off st' h K
         else opQ P H ops o (fun _ => none) st h (fun _ => none) fun st' => ordW P H ops x m st0 hl t off st' h K
  | .f i t u, off, st, h, K =>
    let A : Prop := match ops[i]? with
      | none => False
      | some o => opG P H ops o st h h fun st' h' => bif off || isX x i then ordW P H ops x m st0 hl t true st' h' K else
        bif verOk [] st0 st' st0.n then Sub hl h' ∧ ordW P H ops x m st0 hl t false st' h' K else False
    bif u.isE then A else A ∧ ordW P H ops x m st0 hl u off st h K
def drawW (P : Program) (H : Hints) (id : Nat) (ops : Array Oper) (st : St) (h : Hp) (K : St → Hp → Prop) : Prop :=
  match H.order id with
  | none => False
  | some (x, ex, ord, tr) => bif drawOk P ops x (befores ops ord x) tr then
      (bif ex then ∃ hl, Sub hl h ∧ ordW P H ops x (befores ops ord x) st hl tr false st h K else ordW P H ops x (befores ops ord x) st h tr false st h K) else False

def _root_.Go.Code.calm : Code → Bool
  | .region _ ops _ => ops.toList.all fun o => match o.op with
    | .defer _ => false
    | _ => true
  | .seq a b => a.calm && b.calm
  | .cond _ a b => a.calm && b.calm
  | .block _ c => c.calm
  | .loop c => c.calm
  | .rangeFunc .. => false
  | _ => true
def _root_.Go.Code.exits : Code → List Nat
  | .seq a b => a.exits ++ b.exits
  | .cond _ a b => a.exits ++ b.exits
  | .block _ c => c.exits
  | .loop c => c.exits
  | .exit i => [i]
  | _ => []
def yieldVts (P : Program) (g : FuncId) : List Vt :=
  match P.funcs[g]? with
  | some fn => (match fn.params[0]? with
    | some t => (match tdesc P t with
      | .func ps _ _ => ps.toList.map fun t => vtIn P 6 t
      | _ => [])
    | none => [])
  | none => []
def IterH (P : Program) (gf : FuncId) (lb : List Value) (X : Nat → List Value → Prop) (E : Nat → Prop) (Pre : Hp → Prop) : Prop := ∀ (l : Nat) (J : Nat → Hp → Prop) (Jx : Hp → Prop), (∀ k h, J k h → Pre h) → (∀ k vs h, J k h → X k vs → YieldH P l vs h fun v h' => (v = .bool true ∧ J (k + 1) h') ∨ (v = .bool false ∧ Jx h')) → ∀ h, J 0 h → CallsH P gf (Value.func (.yield l) #[] #[] :: lb).toArray h fun _ h' => (∃ k, E k ∧ J k h') ∨ Jx h'
def St.params (N : Nat) (st : St) : List Nat → List Value → St
  | p :: ps, v :: vs => (st.put N (some p) (.val v)).params N ps vs
  | _, _ => st
def exW : List Nat → (Nat → Prop) → Prop
  | [], _ => True
  | i :: l, F => F i ∧ exW l F
def marksW : List Nat → Hp → (Hp → Prop) → Prop
  | [], h, F => F h
  | D :: ds, h, F => h D = some (.deferred (some [])) ∧ marksW ds (h.del D) F

inductive Ex where
  | normal | exit (id : Nat) | ret
def rangeB (P : Program) (gf : FuncId) (lb : List Value) (ps : Array Tmp) (N : Nat) (exits : List Nat) (A B : St → Hp → (Ex → St → Hp → Prop) → Prop) (st : St) (h : Hp) (K : Ex → St → Hp → Prop) : Prop :=
  bif !(funcOk P gf && Nat.beq (yieldVts P gf).length ps.size) then False else
    ∃ (X : Nat → List Value → Prop) (E : Nat → Prop) (Pre : Hp → Prop) (J : Nat → Hp → Prop) (Jx : Nat → Hp → Prop),
      IterH P gf lb X E Pre ∧ (∀ h0 b o, h0 b = none → Pre h0 → Pre (h0.upd b o)) ∧ (∀ k h1, J k h1 → Pre h1) ∧ J 0 h ∧
      (∀ k vs, X k vs → Vt.exL (yieldVts P gf) fun us => vs = us) ∧
      (∀ k, Vt.univL (yieldVts P gf) fun vs => X k vs → ∀ h1, J k h1 → A (({ st with marks := [] }).params N ps.toList vs) h1 fun x st1 h2 => match x with
        | .normal => B st1 h2 fun x _ h3 => (match x with
          | .normal => J (k + 1) h3
          | .ret => Jx 0 h3
          | .exit i => bif exits.any (Nat.beq i) then Jx (i + 1) h3 else False)
        | _ => False) ∧
      (∀ k h2, J k h2 → E k → ∀ D, h2 D = none → K .normal { st with marks := D :: st.marks } (h2.upd D (.deferred (some [])))) ∧
      (∀ h2, Jx 0 h2 → ∀ D, h2 D = none → K .ret { st with marks := D :: st.marks } (h2.upd D (.deferred (some [])))) ∧
      exW exits fun i => ∀ h2, Jx (i + 1) h2 → ∀ D, h2 D = none → K (.exit i) { st with marks := D :: st.marks } (h2.upd D (.deferred (some [])))
def W (P : Program) (H : Hints) : Code → St → Hp → (Ex → St → Hp → Prop) → Prop
  | .skip, st, h, K => K .normal st h
  | .region id ops draw, st, h, K => bif draw then drawW P H id ops st h (fun st' h' => K .normal st' h') else opsW P H ops ops.toList st h fun st' h' => K .normal st' h'
  | .seq a b, st, h, K => match ((fr b).bind H.join).map (fun ks => ks.map st.res) with
    | none => W P H a st h fun x st' h' => match x with
      | .normal => W P H b st' h' K
      | .exit i => K (.exit i) st' h'
      | .ret => K .ret st' h'
    | some ks => ∃ J : Fn (Hp → Prop) ks, allC ks (st.head a) J (fun st1 j => ∀ h1, j h1 → W P H b st1 h1 K) ∧
      W P H a st h fun x st' h' => match x with
        | .normal => bif verOk ks st st' st.n && lblOk ks st.n then capC ks st' J fun j => j h' else False
        | .exit i => K (.exit i) st' h'
        | .ret => K .ret st' h'
  | .cond c a b, st, h, K => match st.ev c with
    | .val (.bool v) => cond v (W P H a st h K) (W P H b st h K)
    | _ => False
  | .block id c, st, h, K => W P H c st h fun x st' h' => match x with
    | .normal => K .normal st' h'
    | .exit i => bif Nat.beq i id then K .normal st' h' else K (.exit i) st' h'
    | .ret => K .ret st' h'
  | .exit id, st, h, K => K (.exit id) st h
  | .ret, st, h, K => K .ret st h
  | .loop c, st, h, K => match ((fr c).bind H.loop).map (fun ks => ks.map st.res) with
    | none => False
    | some ks => bif !lblOk ks st.n then False else ∃ I : Fn (Hp → Nat → Prop) ks, (∃ m, capC ks st I fun i => i h m) ∧
      allC ks (st.head c) I (fun st1 i => ∀ h1 m, i h1 m → W P H c st1 h1 fun x st' h' => match x with
        | .normal => bif verOk ks st1 st' st.n then capC ks st' I fun j => ∃ m', ltN m' m ∧ j h' m' else False
        | .exit i => K (.exit i) st' h'
        | .ret => K .ret st' h')
  | .rangeFunc g ps assign body, st, h, K => bif !(assign.calm && body.calm && Nat.beq st.n 0) then False else
      bif Nat.beq H.iter 0 then (match st.ev g with
        | .val (.func (.func gf) fst lb) => bif fst.isEmpty then rangeB P gf lb.toList ps H.N body.exits (fun st h K => W P H assign st h K) (fun st h K => W P H body st h K) st h K else False
        | _ => False)
      else st.evV g fun v => ∃ lb : List Value, v = .func (.func H.iter) #[] lb.toArray ∧ rangeB P H.iter lb ps H.N body.exits (fun st h K => W P H assign st h K) (fun st h K => W P H body st h K) st h K
  | _, _, _, _ => False
def resW (P : Program) (st : St) (h : Hp) : List ResultVar → (List Value → Prop) → Prop
  | [], F => F []
  | .tmp t :: rs, F => match (st.e t).toV with
    | some v => resW P st h rs fun vs => F (v :: vs)
    | none => False
  | .cell a t :: rs, F => (st.e a).at fun pl => (match pl with
    | .loc l off => (match st.L l with
      | some (cs, _) => loadL P t cs off fun v => resW P st h rs fun vs => F (v :: vs)
      | none => False)
    | .ptr b off => loadH P t h b off fun v => resW P st h rs fun vs => F (v :: vs))
def oneOf : List Value → Value
  | [v] => v
  | vs => .tuple vs.toArray
def st0 (args : List SV) : St := { e := fun t => (args[t]?).getD (.val undef), L := fun _ => none, n := 0, ver := fun _ => 0 }
def bodyW (P : Program) (H : Hints) (fn : Func) (args : List SV) (h : Hp) (Q : Value → Hp → Prop) : Prop :=
  match fn.body with
  | some c => W P H c (st0 args) h fun x st h' => match x with
    | .normal => marksW st.marks h' fun h'' => resW P st h'' fn.results.toList fun vs => Q (oneOf vs) h''
    | .ret => marksW st.marks h' fun h'' => resW P st h'' fn.results.toList fun vs => Q (oneOf vs) h''
    | .exit _ => False
  | none => False

end
end Go.Gx
namespace Go.Gx

theorem nbeq_ne {a b : Nat} (h : a ≠ b) : Nat.beq a b = false := by
  cases e : Nat.beq a b with
  | false => rfl
  | true => exact absurd (Nat.eq_of_beq_eq_true e) h
theorem nbeq_self (a : Nat) : Nat.beq a a = true := Nat.beq_refl a

def SVr (ρ : Nat → Nat) (n : Nat) : SV → Value → Prop
  | .val v, u => u = v
  | .ptr b o, u => u = .pointer (some ⟨b, o, none⟩)
  | .loc l o, u => l < n ∧ u = .pointer (some ⟨ρ l, o, none⟩)
  | .dead, _ => True
def EnvR (ρ : Nat → Nat) (st : St) (tmps : Array Value) : Prop := ∀ t, SVr ρ st.n (st.e t) (tmps.getD t undef)
structure HeapR (w0 : World) (h0 : Hp) (ρ : Nat → Nat) (st : St) (h : Hp) (w : World) : Prop where
  holds : Holds h w
  kept : Kept h0 w0 h w
  loc : ∀ l cs t, st.L l = some (cs, t) → w.heap[ρ l]? = some (.cells cs.toArray t (0, 0)) ∧ h (ρ l) = none ∧ ∀ o, w0.heap[ρ l]? = some o → h0 (ρ l) = none → False
  inj : ∀ l m x y, st.L l = some x → st.L m = some y → ρ l = ρ m → l = m
  top : ∀ l, st.n ≤ l → st.L l = none
structure Ext (ρ ρ' : Nat → Nat) (st st' : St) : Prop where
  n : st.n ≤ st'.n
  rho : ∀ l, l < st.n → ρ' l = ρ l
  ver : ∀ l, l < st.n → st.ver l ≤ st'.ver l ∧ (st'.ver l = st.ver l → st'.L l = st.L l)
  marks : st'.marks = st.marks
theorem Ext.refl (ρ : Nat → Nat) (st : St) : Ext ρ ρ st st := ⟨Nat.le_refl _, fun _ _ => rfl, fun _ _ => ⟨Nat.le_refl _, fun _ => rfl⟩, rfl⟩
theorem Ext.trans {ρ ρ' ρ'' : Nat → Nat} {a b c : St} (x : Ext ρ ρ' a b) (y : Ext ρ' ρ'' b c) : Ext ρ ρ'' a c := by
  refine ⟨Nat.le_trans x.n y.n, fun l hl => by rw [y.rho l (Nat.lt_of_lt_of_le hl x.n), x.rho l hl], fun l hl => ?_, y.marks.trans x.marks⟩
  have h1 := x.ver l hl
  have h2 := y.ver l (Nat.lt_of_lt_of_le hl x.n)
  refine ⟨Nat.le_trans h1.1 h2.1, fun e => ?_⟩
  have e1 : b.ver l = a.ver l := by omega
  have e2 : c.ver l = b.ver l := by omega
  rw [h2.2 e2, h1.2 e1]
theorem SVr.mono {ρ ρ' : Nat → Nat} {n n' : Nat} {s : SV} {v : Value} (h : SVr ρ n s v) (hn : n ≤ n') (hr : ∀ l, l < n → ρ' l = ρ l) : SVr ρ' n' s v := by
  cases s with
  | loc l o => exact ⟨Nat.lt_of_lt_of_le h.1 hn, by rw [hr l h.1]; exact h.2⟩
  | _ => exact h
theorem SVr.toV {ρ : Nat → Nat} {n : Nat} {s : SV} {u v : Value} (h : SVr ρ n s u) (e : s.toV = some v) : u = v := by
  cases s with
  | val x => simp [SV.toV] at e; rw [← e]; exact h
  | ptr b o => simp [SV.toV] at e; rw [← e]; exact h
  | loc l o => simp [SV.toV] at e
  | dead => simp [SV.toV] at e
theorem ev_spec {ρ : Nat → Nat} {st : St} {a : Act} (he : EnvR ρ st a.tmps) (x : Operand) : SVr ρ st.n (st.ev x) (a.eval x) := by
  cases x with
  | tmp t => exact he t
  | const v => exact rfl
  | global g => exact rfl
  | func f => exact rfl
theorem evV_spec {ρ : Nat → Nat} {st : St} {a : Act} (he : EnvR ρ st a.tmps) {x : Operand} {F : Value → Prop} (h : st.evV x F) : F (a.eval x) := by
  unfold St.evV at h
  cases e : (st.ev x).toV with
  | none => rw [e] at h; exact h.elim
  | some v => rw [e] at h; rw [(ev_spec he x).toV e]; exact h
theorem evVs_spec {ρ : Nat → Nat} {st : St} {a : Act} (he : EnvR ρ st a.tmps) : ∀ {xs : List Operand} {F : List Value → Prop}, st.evVs xs F → F (xs.map a.eval)
  | [], _, h => h
  | x :: _, F, h => evVs_spec he (F := fun vs => F (a.eval x :: vs)) (evV_spec he h)

theorem Holds.cell {h : Hp} {w : World} (H : Holds h w) {b o : Nat} {v : Value} (e : h.cell b o = some v) : w.cell? ⟨b, o, none⟩ = some v := by
  unfold Hp.cell at e
  split at e
  · rename_i c t f hb
    simp only [World.cell?, H b _ hb]
    simpa using e
  · cases e
theorem Hp.upd_same (h : Hp) (b : Nat) (o : Obj) : h.upd b o b = some o := by simp [Hp.upd]
theorem Hp.upd_ne (h : Hp) {b c : Nat} (o : Obj) (e : c ≠ b) : h.upd b o c = h c := by simp [Hp.upd, e]
theorem Holds.fresh {h : Hp} {w : World} (H : Holds h w) {b : Nat} (hb : w.heap.size ≤ b) : h b = none := by
  cases e : h b with
  | none => rfl
  | some o => have := H b o e; rw [Array.getElem?_eq_none hb] at this; cases this
theorem Holds.alloc {h : Hp} {w : World} (H : Holds h w) (o : Obj) : Holds (h.upd w.heap.size o) { w with heap := w.heap.push o } := by
  intro b x hb
  by_cases e : b = w.heap.size
  · subst e; rw [Hp.upd_same] at hb; cases hb; simp
  · rw [Hp.upd_ne _ _ e] at hb
    have h1 := H b x hb
    have hlt : b < w.heap.size := by
      rcases Nat.lt_or_ge b w.heap.size with h' | h'
      · exact h'
      · rw [Array.getElem?_eq_none h'] at h1; cases h1
    simp only [Array.getElem?_push]
    rw [if_neg e]; exact h1
theorem Kept.refl (h : Hp) (w : World) : Kept h w h w := ⟨rfl, rfl, rfl, Nat.le_refl _, fun _ _ a b => ⟨a, b⟩⟩
theorem Kept.trans {h h1 h2 : Hp} {w w1 w2 : World} (a : Kept h w h1 w1) (b : Kept h1 w1 h2 w2) : Kept h w h2 w2 :=
  ⟨b.os.trans a.os, b.tape.trans a.tape, b.output.trans a.output, Nat.le_trans a.size b.size, fun c o hc hn => let ⟨x, y⟩ := a.block c o hc hn; b.block c o x y⟩
theorem get_lt {α : Type} {a : Array α} {i : Nat} {x : α} (h : a[i]? = some x) : i < a.size := by
  rcases Nat.lt_or_ge i a.size with h' | h'
  · exact h'
  · rw [Array.getElem?_eq_none h'] at h; cases h
theorem Kept.alloc (h : Hp) (w : World) (o : Obj) : Kept h w (h.upd w.heap.size o) { w with heap := w.heap.push o } := by
  refine ⟨rfl, rfl, rfl, by simp, fun b x hb hn => ?_⟩
  have hlt := get_lt hb
  refine ⟨?_, by rw [Hp.upd_ne _ _ (by omega)]; exact hn⟩
  simp only [Array.getElem?_push]; rw [if_neg (by omega)]; exact hb
theorem HeapR.alloc {w0 : World} {h0 : Hp} {ρ : Nat → Nat} {st : St} {h : Hp} {w : World} (H : HeapR w0 h0 ρ st h w) (o : Obj) :
    HeapR w0 h0 ρ st (h.upd w.heap.size o) { w with heap := w.heap.push o } := by
  refine ⟨H.holds.alloc o, H.kept.trans (Kept.alloc h w o), fun l cs t e => ?_, H.inj, H.top⟩
  obtain ⟨a, b, c⟩ := H.loc l cs t e
  have hlt := get_lt a
  refine ⟨?_, by rw [Hp.upd_ne _ _ (by omega)]; exact b, c⟩
  simp only [Array.getElem?_push]; rw [if_neg (by omega)]; exact a
theorem HeapR.allocHid {w0 : World} {h0 : Hp} {ρ : Nat → Nat} {st : St} {h : Hp} {w : World} (H : HeapR w0 h0 ρ st h w) (o : Obj) :
    HeapR w0 h0 ρ st h { w with heap := w.heap.push o } := by
  refine ⟨fun b x hb => ?_, ⟨H.kept.os, H.kept.tape, H.kept.output, Nat.le_trans H.kept.size (by simp), fun b x hb hn => ?_⟩, fun l cs t e => ?_, H.inj, H.top⟩
  · have h1 := H.holds b x hb
    have := get_lt h1
    simp only [Array.getElem?_push]; rw [if_neg (by omega)]; exact h1
  · obtain ⟨h1, h2⟩ := H.kept.block b x hb hn
    have := get_lt h1
    refine ⟨?_, h2⟩
    simp only [Array.getElem?_push]; rw [if_neg (by omega)]; exact h1
  · obtain ⟨a, b, c⟩ := H.loc l cs t e
    have hlt := get_lt a
    refine ⟨?_, b, c⟩
    simp only [Array.getElem?_push]; rw [if_neg (by omega)]; exact a
theorem HeapR.newL {w0 : World} {h0 : Hp} {ρ : Nat → Nat} {st : St} {h : Hp} {w : World} (H : HeapR w0 h0 ρ st h w) (cs : List Value) (t : TypeId) :
    HeapR w0 h0 (fun l => if l = st.n then w.heap.size else ρ l) (st.newL cs t) h { w with heap := w.heap.push (.cells cs.toArray t (0, 0)) } := by
  have G := H.allocHid (.cells cs.toArray t (0, 0))
  have key : ∀ l x, (st.newL cs t).L l = some x → (l = st.n ∧ x = (cs, t)) ∨ (l ≠ st.n ∧ st.L l = some x) := by
    intro l x e
    simp only [St.newL] at e
    by_cases hl : l = st.n
    · subst hl; rw [nbeq_self] at e; cases e; exact .inl ⟨rfl, rfl⟩
    · rw [nbeq_ne hl] at e; exact .inr ⟨hl, e⟩
  refine ⟨G.holds, G.kept, fun l c u e => ?_, fun l m x y e1 e2 e3 => ?_, fun l hl => ?_⟩
  · rcases key l _ e with ⟨rfl, hx⟩ | ⟨hl, hx⟩
    · cases hx
      simp only [if_true]
      refine ⟨by simp, H.holds.fresh (Nat.le_refl _), fun o h1 h2 => ?_⟩
      have := get_lt (H.kept.block _ o h1 h2).1; omega
    · simp only [if_neg hl]; exact G.loc l c u hx
  · rcases key l _ e1 with ⟨rfl, hx⟩ | ⟨hl, hx⟩ <;> rcases key m _ e2 with ⟨rfl, hy⟩ | ⟨hm, hy⟩
    · rfl
    · simp only [if_true, if_neg hm] at e3
      have := get_lt (H.loc m y.1 y.2 hy).1; omega
    · simp only [if_true, if_neg hl] at e3
      have := get_lt (H.loc l x.1 x.2 hx).1; omega
    · simp only [if_neg hl, if_neg hm] at e3; exact H.inj l m x y hx hy e3
  · simp only [St.newL] at hl ⊢
    rw [nbeq_ne (by omega)]; exact H.top l (by omega)
theorem Ext.newL {ρ : Nat → Nat} (st : St) (n : Nat) (cs : List Value) (t : TypeId) : Ext ρ (fun l => if l = st.n then n else ρ l) st (st.newL cs t) := by
  refine ⟨by simp [St.newL], fun l hl => by simp; omega, fun l hl => ⟨by simp [St.newL], fun _ => ?_⟩, rfl⟩
  simp only [St.newL]
  rw [nbeq_ne (by omega)]; rfl

end Go.Gx
namespace Go.Gx

theorem wp_value {P : Program} {o : Oper} {a : Act} {w w' : World} {next : Act → World → Prop} {Q : Exit → Act → World → Prop} {v : Value}
    (hr : (execOp a.eval o).run P w = .ok (.value v) w') (hn : next (a.put o.dst v) w') : o.wp P a w next Q := by
  unfold Oper.wp; rw [hr]; exact hn
theorem wp_unit {P : Program} {o : Oper} {a : Act} {w w' : World} {next : Act → World → Prop} {Q : Exit → Act → World → Prop}
    (hr : (execOp a.eval o).run P w = .ok .skip w') (hn : next (a.put o.dst undef) w') : o.wp P a w next Q := by
  unfold Oper.wp; rw [hr]; exact hn
theorem wp_enter {P : Program} {o : Oper} {a : Act} {w w' : World} {next : Act → World → Prop} {Q : Exit → Act → World → Prop} {f : FuncId} {args : Array Value}
    (hr : (execOp a.eval o).run P w = .ok (.enter f args) w') {R : Ending → World → Prop} (hc : Calls P f args w' R) (hn : ∀ e w'', R e w'' → ∃ v, e = .returned v ∧ next (a.put o.dst v) w'') : o.wp P a w next Q := by
  unfold Oper.wp; rw [hr]
  refine Calls.mono hc fun e w'' h => ?_
  obtain ⟨v, rfl, hv⟩ := hn e w'' h
  exact hv

theorem tdesc_some {P : Program} {t : TypeId} {d : TypeDesc} (h : tdesc P t = d) (hd : d ≠ .invalid) : P.underlying t = some d := by
  unfold tdesc at h
  cases e : P.underlying t with
  | none => rw [e] at h; exact absurd h.symm hd
  | some x => rw [e] at h; simp at h; rw [h]
theorem okT_some {P : Program} {t : TypeId} (h : okT P t = true) : P.info? t = some (tinfo P t) := by
  unfold okT at h; unfold tinfo
  cases e : P.info? t with
  | none => rw [e] at h; cases h
  | some i => rfl
theorem okU_some {P : Program} {t : TypeId} (h : okU P t = true) : P.underlying t = some (tdesc P t) := by
  unfold okU at h; unfold tdesc
  cases e : P.underlying t with
  | none => rw [e] at h; cases h
  | some i => rfl
theorem okT_of_under {P : Program} {t : TypeId} {d : TypeDesc} (h : P.underlying t = some d) : okT P t = true := by
  unfold Program.underlying at h; unfold okT
  cases e : P.info? t with
  | none => rw [e] at h; cases h
  | some i => rfl
theorem okT_of_sz {P : Program} {t : TypeId} (h : szT P t ≠ 0) : okT P t = true := by
  unfold szT tinfo at h; unfold okT
  cases e : P.info? t with
  | none => rw [e] at h; exact absurd rfl h
  | some i => rfl
theorem okT_of_zero {P : Program} {t : TypeId} {v : Value} (h : zeroT P t = some v) : okT P t = true := by
  unfold zeroT tinfo at h; unfold okT
  cases e : P.info? t with
  | none => rw [e] at h; cases h
  | some i => rfl
theorem run_under {P : Program} {t : TypeId} {d : TypeDesc} (h : P.underlying t = some d) (w : World) : (underlying t).run P w = .ok d w := by
  unfold underlying program
  show (match P.underlying t with | some d => (pure d : Sem TypeDesc) | none => stuck "no such type").run P w = _
  rw [h]; rfl
theorem run_info {P : Program} {t : TypeId} (h : okT P t = true) (w : World) : (typeInfo t).run P w = .ok (tinfo P t) w := by
  unfold typeInfo program
  show (match P.info? t with | some d => (pure d : Sem TypeInfo) | none => stuck "no such type").run P w = _
  rw [okT_some h]; rfl
theorem run_size {P : Program} {t : TypeId} (h : okT P t = true) (w : World) : (sizeOf t).run P w = .ok (szT P t) w := by
  unfold sizeOf; rw [Sem.run_bind, run_info h]; rfl
theorem run_zero {P : Program} {t : TypeId} {v : Value} (h : zeroT P t = some v) (w : World) : (zeroValue t).run P w = .ok v w := by
  unfold zeroValue; rw [Sem.run_bind, run_info (okT_of_zero h)]
  have : (tinfo P t).zero = some v := h
  simp only [Result.andThen_ok, this]; rfl
theorem run_agg {P : Program} {t : TypeId} {d : TypeDesc} (h : P.underlying t = some d) (w : World) : (isAgg t).run P w = .ok (aggT P t) w := by
  unfold isAgg; rw [Sem.run_bind, run_under h]
  have e : tdesc P t = d := by unfold tdesc; rw [h]; rfl
  simp only [Result.andThen_ok, aggT, e]
  cases d <;> rfl

theorem add_mk (b o n : Nat) : (Addr.mk b o none).add n = ⟨b, o + n, none⟩ := by
  unfold Addr.add; split
  · rename_i h; subst h; rfl
  · rfl
theorem run_load {P : Program} {w : World} {a : Addr} {v : Value} (h : w.cell? a = some v) : (load a).run P w = .ok v w := by
  simp only [load, Sem.run, h]
theorem run_loadCellsFrom {P : Program} {w : World} {b o : Nat} : ∀ (vs : List Value) (i : Nat) (acc : Array Value), (∀ j (hj : j < vs.length), w.cell? ⟨b, o + i + j, none⟩ = some vs[j]) →
    (loadCellsFrom ⟨b, o, none⟩ i vs.length acc).run P w = .ok (acc ++ vs.toArray) w
  | [], i, acc, _ => by simp [loadCellsFrom, pure]
  | v :: vs, i, acc, h => by
    have h0 := h 0 (by simp)
    simp only [List.length_cons, loadCellsFrom, Sem.run_bind, add_mk]
    rw [run_load (by simpa using h0)]
    simp only [Result.andThen_ok]
    rw [run_loadCellsFrom vs (i + 1) (acc.push v) fun j hj => by
      have := h (j + 1) (by simp; omega)
      rw [show o + (i + 1) + j = o + i + (j + 1) by omega]; simpa using this]
    simp
theorem run_loadCells {P : Program} {w : World} {b o : Nat} (vs : List Value) (h : ∀ j (hj : j < vs.length), w.cell? ⟨b, o + j, none⟩ = some vs[j]) {n : Nat} (hn : vs.length = n) :
    (loadCells ⟨b, o, none⟩ n).run P w = .ok vs.toArray w := by
  subst hn
  unfold loadCells
  rw [run_loadCellsFrom vs 0 #[] (by simpa using h)]; simp
theorem Kd.ex_spec {k : Kd} {F : Value → Prop} (h : k.ex F) : ∃ v, F v := by
  cases k <;> simp only [Kd.ex] at h
  case slice => obtain ⟨a, l, c, h⟩ := h; exact ⟨_, h⟩
  all_goals (obtain ⟨x, h⟩ := h; exact ⟨_, h⟩)
theorem kdsEx_spec : ∀ {ks : List Kd} {F : List Value → Prop}, kdsEx ks F → ∃ vs, vs.length = ks.length ∧ F vs
  | [], _, h => ⟨[], rfl, h⟩
  | _ :: _, _, h => by
    obtain ⟨v, h⟩ := Kd.ex_spec h
    obtain ⟨vs, e, h⟩ := kdsEx_spec h
    exact ⟨v :: vs, by simp [e], h⟩
mutual
theorem Vt.ex_spec : ∀ {t : Vt} {F : Value → Prop}, t.ex F → ∃ v, F v
  | .one k, F, h => Kd.ex_spec (k := k) (by simpa [Vt.ex] using h)
  | .agg ks, F, h => by
    simp only [Vt.ex] at h
    obtain ⟨vs, _, h⟩ := kdsEx_spec h
    exact ⟨_, h⟩
  | .big n k, F, h => by
    simp only [Vt.ex] at h
    obtain ⟨ns, _, h⟩ := h
    exact ⟨_, h⟩
  | .blob n, F, h => by
    simp only [Vt.ex] at h
    obtain ⟨vs, _, h⟩ := h
    exact ⟨_, h⟩
  | .tup l, F, h => by
    simp only [Vt.ex] at h
    obtain ⟨vs, h⟩ := Vt.exL_spec h
    exact ⟨_, h⟩
theorem Vt.exL_spec : ∀ {l : List Vt} {F : List Value → Prop}, Vt.exL l F → ∃ vs, F vs
  | [], F, h => ⟨[], by simpa [Vt.exL] using h⟩
  | t :: ts, F, h => by
    simp only [Vt.exL] at h
    obtain ⟨v, h⟩ := Vt.ex_spec h
    obtain ⟨vs, h⟩ := Vt.exL_spec h
    exact ⟨_, h⟩
end
theorem loadKs_spec {h : Hp} {b : Nat} : ∀ {ks : List Kd} {o : Nat} {F : List Value → Prop}, loadKs h b o ks F → ∃ vs, vs.length = ks.length ∧ (∀ j (hj : j < vs.length), h.cell b (o + j) = some vs[j]) ∧ F vs
  | [], _, _, H => ⟨[], rfl, fun j hj => by simp at hj, H⟩
  | _ :: _, o, _, H => by
    obtain ⟨v, hv, H⟩ := Kd.ex_spec H
    obtain ⟨vs, e, hc, H⟩ := loadKs_spec H
    refine ⟨v :: vs, by simp [e], fun j hj => ?_, H⟩
    cases j with
    | zero => simpa using hv
    | succ j => rw [show o + (j + 1) = o + 1 + j by omega]; simpa using hc j (by simpa using hj)
theorem loadH_spec {P : Program} {t : TypeId} {h : Hp} {b o : Nat} {F : Value → Prop} (H : loadH P t h b o F) :
    ∃ v, F v ∧ ∀ w, Holds h w → (loadVar t ⟨b, o, none⟩).run P w = .ok v w := by
  unfold loadH at H
  cases eb : bigT P t with
  | some nk =>
    obtain ⟨n, k⟩ := nk
    rw [eb] at H
    simp only [] at H
    cases e2 : Nat.beq n (szT P t) with
    | false => rw [e2] at H; exact H.elim
    | true =>
    rw [e2] at H
    obtain ⟨ns, hl, hc, H⟩ := H
    have hu : ∃ m el, P.underlying t = some (.array m el) := by
      unfold bigT at eb
      split at eb
      · rename_i m el hd; exact ⟨m, el, tdesc_some hd (by simp)⟩
      · cases eb
    obtain ⟨m, el, hu⟩ := hu
    have ea : aggT P t = true := by unfold aggT tdesc; rw [hu]; rfl
    refine ⟨_, H, fun w hw => ?_⟩
    unfold loadVar
    rw [Sem.run_bind, run_agg hu, ea]
    simp only [Result.andThen_ok, if_true, Sem.run_bind, run_size (okT_of_under hu)]
    rw [run_loadCells (bigV k ns) (fun j hj => hw.cell (hc j hj)) (by rw [bigV, List.length_map, hl]; exact Nat.eq_of_beq_eq_true e2)]
    rfl
  | none =>
  rw [eb] at H
  simp only [] at H
  cases eB : blobT P t with
  | true =>
    rw [eB] at H
    obtain ⟨vs, hl, hc, H⟩ := H
    have ea : aggT P t = true := by
      unfold blobT at eB
      exact (Bool.and_eq_true_iff.1 (Bool.and_eq_true_iff.1 eB).1).1
    have hu : ∃ d, P.underlying t = some d := by
      unfold aggT at ea
      cases hd : tdesc P t <;> rw [hd] at ea <;> first | (cases ea; done) | exact ⟨_, tdesc_some hd (by simp)⟩
    obtain ⟨d, hu⟩ := hu
    refine ⟨_, H, fun w hw => ?_⟩
    unfold loadVar
    rw [Sem.run_bind, run_agg hu, ea]
    simp only [Result.andThen_ok, if_true, Sem.run_bind, run_size (okT_of_under hu)]
    rw [run_loadCells vs (fun j hj => hw.cell (hc j hj)) hl]
    rfl
  | false =>
  rw [eB] at H
  simp only [cond_false] at H
  cases e : aggT P t with
  | true =>
    rw [e] at H; simp only [cond_true] at H
    cases e2 : Nat.beq (kds P t).length (szT P t) with
    | false => rw [e2] at H; exact H.elim
    | true =>
      rw [e2] at H; simp only [cond_true] at H
      obtain ⟨vs, hl, hc, H⟩ := loadKs_spec H
      have hu : ∃ d, P.underlying t = some d := by
        unfold aggT at e
        cases hd : tdesc P t <;> rw [hd] at e <;> first | (cases e; done) | exact ⟨_, tdesc_some hd (by simp)⟩
      obtain ⟨d, hu⟩ := hu
      refine ⟨_, H, fun w hw => ?_⟩
      unfold loadVar
      rw [Sem.run_bind, run_agg hu, e]
      simp only [Result.andThen_ok, if_true, Sem.run_bind, run_size (okT_of_under hu)]
      rw [run_loadCells vs (fun j hj => hw.cell (hc j hj)) (hl.trans (Nat.eq_of_beq_eq_true e2))]
      rfl
  | false =>
    rw [e] at H; simp only [cond_false] at H
    cases e2 : okU P t with
    | false => rw [e2] at H; exact H.elim
    | true =>
      rw [e2] at H; simp only [cond_true] at H
      obtain ⟨v, hv, H⟩ := Kd.ex_spec H
      refine ⟨v, H, fun w hw => ?_⟩
      unfold loadVar
      rw [Sem.run_bind, run_agg (okU_some e2), e]
      simp only [Result.andThen_ok, Bool.false_eq_true, if_false]
      exact run_load (hw.cell hv)

def _root_.Go.World.setB (w : World) (b : Nat) (o : Obj) : World := { w with heap := w.heap.setIfInBounds b o }
theorem setB_get (w : World) (b c : Nat) (o : Obj) (hb : b < w.heap.size) : (w.setB b o).heap[c]? = if c = b then some o else w.heap[c]? := by
  unfold World.setB
  by_cases e : c = b
  · subst e; simp [hb]
  · rw [if_neg e]; simp [Ne.symm e]
theorem setCell_eq {w : World} {b o : Nat} {cs : Array Value} {t : TypeId} {fz : Nat × Nat} (h : w.heap[b]? = some (.cells cs t fz)) (v : Value) :
    w.setCell ⟨b, o, none⟩ v = w.setB b (.cells (cs.setIfInBounds o v) t fz) := by
  unfold World.setCell World.setB
  congr 1
  apply Array.ext_getElem?
  intro i
  have hb := get_lt h
  rw [Array.getElem?_modify, Array.getElem?_setIfInBounds]
  by_cases e : b = i
  · subst e
    have h' : w.heap[b] = .cells cs t fz := by
      rw [Array.getElem?_eq_getElem hb] at h; exact Option.some.inj h
    simp [hb, h']
  · simp [e]
theorem setB_setB (w : World) (b : Nat) (x y : Obj) : (w.setB b x).setB b y = w.setB b y := by
  unfold World.setB; simp
theorem plainW_spec : ∀ {vs : List Value} {F : Prop}, plainW vs F → (∀ v ∈ vs, (∀ c, v ≠ .agg c) ∧ (∀ c, v ≠ .tuple c)) ∧ F
  | [], _, h => ⟨fun _ h => by simp at h, h⟩
  | v :: vs, F, h => by
    have hv : (∀ c, v ≠ .agg c) ∧ (∀ c, v ≠ .tuple c) ∧ plainW vs F := by
      cases v <;> first | exact h.elim | exact ⟨(fun c h => by cases h), (fun c h => by cases h), h⟩
    obtain ⟨h1, h2⟩ := plainW_spec hv.2.2
    exact ⟨fun u hu => by rcases List.mem_cons.1 hu with rfl | hu; exact ⟨hv.1, hv.2.1⟩; exact h1 u hu, h2⟩
theorem idxMul_eq (x : Operand) (n s : Nat) : idxMul x n s = n * s := by cases x <;> rfl
theorem isZeros_eq {k : IntKind} : ∀ {l : List Value}, isZeros k l = true → l = bigV k (List.replicate l.length 0)
  | [], _ => rfl
  | v :: l, h => by
    unfold isZeros at h
    split at h
    · rename_i heq; cases heq
    · rename_i k' l' heq
      cases heq
      obtain ⟨h1, h2⟩ := Bool.and_eq_true_iff.1 h
      have e : k = k' := by cases k <;> cases k' <;> first | rfl | cases h1
      subst e
      have := isZeros_eq h2
      rw [List.length_cons, List.replicate_succ]
      show Value.int k (Int.ofNat 0) :: l = Value.int k 0 :: bigV k (List.replicate l.length 0)
      rw [← this]; rfl
    · cases h
theorem storeH_elim {h : Hp} {b o : Nat} {vs : List Value} {F : Hp → Prop} (H : storeH h b o vs F) :
    ∃ cs t lo hi, h b = some (.cells cs t (lo, hi)) ∧ o + vs.length ≤ cs.size ∧ (hi ≤ o ∨ o + vs.length ≤ lo) ∧ F (h.upd b (.cells (setCells cs o vs) t (lo, hi))) := by
  obtain ⟨⟨cs, t, lo, hi, h1, h2, h3⟩, hF⟩ := H
  refine ⟨cs, t, lo, hi, h1, h2, h3, ?_⟩
  unfold Hp.put at hF
  rw [h1] at hF
  exact hF
theorem run_store {P : Program} {w : World} {b o : Nat} {cs : Array Value} {t : TypeId} {lo hi : Nat} {v : Value} (h : w.heap[b]? = some (.cells cs t (lo, hi))) (ho : o < cs.size) (hf : hi ≤ o ∨ o < lo)
    (hv : (∀ c, v ≠ .agg c) ∧ (∀ c, v ≠ .tuple c)) : (store ⟨b, o, none⟩ v).run P w = .ok () (w.setB b (.cells (cs.setIfInBounds o v) t (lo, hi))) := by
  have hc : w.cell? ⟨b, o, none⟩ = some cs[o] := by simp [World.cell?, h, ho]
  have hz : w.frozen? ⟨b, o, none⟩ = false := by simp [World.frozen?, h]; omega
  unfold store
  cases v with
  | agg c => exact absurd rfl (hv.1 c)
  | tuple c => exact absurd rfl (hv.2 c)
  | _ => simp only [Sem.run, hc, hz, Bool.false_eq_true, if_false, setCell_eq h]
theorem run_storeCells {P : Program} {b o : Nat} {t : TypeId} {lo hi : Nat} : ∀ (vs : List Value) (i : Nat) (w : World) (cs : Array Value), w.heap[b]? = some (.cells cs t (lo, hi)) → o + i + vs.length ≤ cs.size →
    (hi ≤ o + i ∨ o + i + vs.length ≤ lo) → (∀ v ∈ vs, (∀ c, v ≠ .agg c) ∧ (∀ c, v ≠ .tuple c)) →
    (storeCells ⟨b, o, none⟩ vs i).run P w = .ok () (w.setB b (.cells (setCells cs (o + i) vs) t (lo, hi)))
  | [], i, w, cs, h, _, _, _ => by
    have : w.setB b (.cells cs t (lo, hi)) = w := by
      unfold World.setB
      have : w.heap.setIfInBounds b (.cells cs t (lo, hi)) = w.heap := by
        apply Array.ext_getElem?
        intro j
        rw [Array.getElem?_setIfInBounds]
        by_cases e : b = j
        · subst e
          have hb := get_lt h
          rw [Array.getElem?_eq_getElem hb] at h
          simp [hb, Option.some.inj h]
        · simp [e]
      rw [this]
    simp only [storeCells, setCells, this]; rfl
  | v :: vs, i, w, cs, h, h1, h2, h3 => by
    simp only [List.length_cons] at h1 h2
    simp only [storeCells, Sem.run_bind, add_mk]
    rw [run_store h (by omega) (by omega) (h3 v (by simp))]
    simp only [Result.andThen_ok]
    rw [run_storeCells (t := t) (lo := lo) (hi := hi) vs (i + 1) _ (cs.setIfInBounds (o + i) v) (by rw [setB_get _ _ _ _ (get_lt h)]; simp) (by simp; omega) (by omega) fun u hu => h3 u (by simp [hu])]
    simp only [setB_setB, setCells]; rfl
theorem cells_toList (v : Value) : v.cells.toList = cellsOfV v := by cases v <;> rfl
theorem run_storeVar {P : Program} {b o : Nat} {t u : TypeId} {lo hi : Nat} {w : World} {cs : Array Value} {v : Value} (ht : okT P t = true) (hs : (cellsOfV v).length = szT P t) (h : w.heap[b]? = some (.cells cs u (lo, hi)))
    (h1 : o + (cellsOfV v).length ≤ cs.size) (h2 : hi ≤ o ∨ o + (cellsOfV v).length ≤ lo) (h3 : ∀ x ∈ cellsOfV v, (∀ c, x ≠ .agg c) ∧ (∀ c, x ≠ .tuple c)) :
    (storeVar t ⟨b, o, none⟩ v).run P w = .ok () (w.setB b (.cells (setCells cs o (cellsOfV v)) u (lo, hi))) := by
  unfold storeVar
  rw [Sem.run_bind, run_size ht]
  have hsz : v.cells.size = szT P t := by rw [← hs, ← cells_toList]; simp
  simp only [Result.andThen_ok, hsz, ne_eq, not_true, if_false, cells_toList]
  exact (run_storeCells (cellsOfV v) 0 w cs h (by simpa using h1) (by simpa using h2) h3).trans (by simp)

end Go.Gx
namespace Go.Gx

def Nx (w0 : World) (h0 : Hp) (ρ : Nat → Nat) (st : St) (a : Act) (dst : Option Tmp) (K : SV → St → Hp → Prop) (next : Act → World → Prop) : Prop :=
  ∀ sv v st' h' w' ρ', K sv st' h' → SVr ρ' st'.n sv v → HeapR w0 h0 ρ' st' h' w' → Ext ρ ρ' st st' → st'.e = st.e → next (a.put dst v) w'
theorem Nx.pure {w0 : World} {h0 : Hp} {ρ : Nat → Nat} {st : St} {a : Act} {dst : Option Tmp} {K : SV → St → Hp → Prop} {next : Act → World → Prop} {h : Hp} {w : World} {sv : SV} {v : Value}
    (n : Nx w0 h0 ρ st a dst K next) (k : K sv st h) (r : SVr ρ st.n sv v) (hh : HeapR w0 h0 ρ st h w) : next (a.put dst v) w := n _ _ _ _ _ ρ k r hh (Ext.refl ρ st) rfl

theorem run_v {P : Program} {s : Sem Value} {w w' : World} {v : Value} (h : s.run P w = .ok v w') : (do pure (Next.value (← s)) : Sem Next).run P w = .ok (.value v) w' := by
  rw [Sem.run_bind, h]; rfl
theorem ikEq_spec {j k : IntKind} (h : ikEq j k = true) : j = k := by
  cases j <;> cases k <;> first | rfl | (revert h; decide)
theorem at_spec {ρ : Nat → Nat} {n : Nat} {s : SV} {v : Value} {F : Pl → Prop} (h : s.at F) (r : SVr ρ n s v) :
    (∃ l o, s = .loc l o ∧ l < n ∧ v = .pointer (some ⟨ρ l, o, none⟩) ∧ F (.loc l o)) ∨ ∃ b o, v = .pointer (some ⟨b, o, none⟩) ∧ F (.ptr b o) := by
  cases s with
  | loc l o => exact .inl ⟨l, o, rfl, r.1, r.2, h⟩
  | ptr b o => exact .inr ⟨b, o, r, h⟩
  | dead => exact h.elim
  | val u =>
    have r' : v = u := r
    subst r'
    cases v with
    | pointer x =>
      obtain ⟨b, o, e, h⟩ := h
      subst e
      exact .inr ⟨b, o, rfl, h⟩
    | _ => exact h.elim
theorem part_spec {P : Program} {t : TypeId} {cs : List Value} {o : Nat} {F : Value → Prop} (H : loadL P t cs o F) : ∃ v, F v ∧ ∀ w, (part t cs.toArray o).run P w = .ok v w := by
  unfold loadL at H
  cases e : aggT P t with
  | true =>
    rw [e] at H; simp only [cond_true] at H
    cases e2 : Nat.ble (o + szT P t) cs.length with
    | false => rw [e2] at H; exact H.elim
    | true =>
      rw [e2] at H; simp only [cond_true] at H
      have hu : ∃ d, P.underlying t = some d := by
        unfold aggT at e
        cases hd : tdesc P t <;> rw [hd] at e <;> first | (cases e; done) | exact ⟨_, tdesc_some hd (by simp)⟩
      obtain ⟨d, hu⟩ := hu
      refine ⟨_, H, fun w => ?_⟩
      unfold part
      rw [Sem.run_bind, run_agg hu, e]
      simp only [Result.andThen_ok, if_true, Sem.run_bind, run_size (okT_of_under hu)]
      simp
  | false =>
    rw [e] at H; simp only [cond_false] at H
    cases e2 : okU P t with
    | false => rw [e2] at H; exact H.elim
    | true =>
      rw [e2] at H; simp only [cond_true] at H
      cases e3 : cs[o]? with
      | none => rw [e3] at H; exact H.elim
      | some v =>
        rw [e3] at H
        refine ⟨v, H, fun w => ?_⟩
        unfold part
        rw [Sem.run_bind, run_agg (okU_some e2), e]
        simp [e3]
theorem loadL_spec {P : Program} {t u : TypeId} {cs : List Value} {b o : Nat} {F : Value → Prop} (H : loadL P t cs o F) :
    ∃ v, F v ∧ ∀ w : World, w.heap[b]? = some (.cells cs.toArray u (0, 0)) → (loadVar t ⟨b, o, none⟩).run P w = .ok v w := by
  have hc : ∀ w : World, w.heap[b]? = some (.cells cs.toArray u (0, 0)) → ∀ j (hj : j < cs.length), w.cell? ⟨b, j, none⟩ = some cs[j] := fun w hb j hj => by simp [World.cell?, hb, hj]
  unfold loadL at H
  cases e : aggT P t with
  | true =>
    rw [e] at H; simp only [cond_true] at H
    cases e2 : Nat.ble (o + szT P t) cs.length with
    | false => rw [e2] at H; exact H.elim
    | true =>
      rw [e2] at H; simp only [cond_true] at H
      have hle : o + szT P t ≤ cs.length := Nat.le_of_ble_eq_true e2
      have hu : ∃ d, P.underlying t = some d := by
        unfold aggT at e
        cases hd : tdesc P t <;> rw [hd] at e <;> first | (cases e; done) | exact ⟨_, tdesc_some hd (by simp)⟩
      obtain ⟨d, hu⟩ := hu
      refine ⟨_, H, fun w hb => ?_⟩
      unfold loadVar
      rw [Sem.run_bind, run_agg hu, e]
      simp only [Result.andThen_ok, if_true, Sem.run_bind, run_size (okT_of_under hu)]
      rw [run_loadCells ((cs.drop o).take (szT P t)) (fun j hj => by
        simp only [List.length_take, List.length_drop] at hj
        rw [hc w hb (o + j) (by omega)]; simp) (by simp; omega)]
      rfl
  | false =>
    rw [e] at H; simp only [cond_false] at H
    cases e2 : okU P t with
    | false => rw [e2] at H; exact H.elim
    | true =>
      rw [e2] at H; simp only [cond_true] at H
      cases e3 : cs[o]? with
      | none => rw [e3] at H; exact H.elim
      | some v =>
        rw [e3] at H
        refine ⟨v, H, fun w hb => ?_⟩
        unfold loadVar
        rw [Sem.run_bind, run_agg (okU_some e2), e]
        simp only [Result.andThen_ok, Bool.false_eq_true, if_false]
        obtain ⟨hlt, hx⟩ := List.getElem?_eq_some_iff.1 e3
        exact run_load (by rw [hc w hb o hlt, hx])

theorem binInt_spec {P : Program} {op : BinOp} {k : IntKind} {a b : Int} {F : Value → Prop} (H : binInt op k a b F) (hs : op ≠ .shl) (hr : op ≠ .shr) (t : TypeId) : ∃ v, F v ∧ ∀ w, (binOp op t (.int k a) (.int k b)).run P w = .ok v w := by
  cases op <;> simp only [binInt, ieq, ine, ilt, ile, igt, ige, hb_eq] at H <;> first
    | exact H.elim
    | exact absurd rfl hs
    | exact absurd rfl hr
    | (obtain ⟨hb, H⟩ := H; exact ⟨_, H, fun w => by simp [binOp, Op.intDiv, hb]⟩)
    | exact ⟨_, H, fun w => by (simp only [binOp, Op.intArith, Op.intBits, Op.intCmp, ne_eq, not_true, if_false]; rfl)⟩
theorem binStr_spec {P : Program} {op : BinOp} {x y : ByteArray} {F : Value → Prop} (H : binStr op x y F) (t : TypeId) : ∃ v, F v ∧ ∀ w, (binOp op t (.string x) (.string y)).run P w = .ok v w := by
  cases op <;> simp only [binStr, beqS, bltS, hb_eq] at H <;> first
    | exact H.elim
    | (obtain ⟨hb, H⟩ := H
       have hn : ¬ ((x.size + y.size : Nat) : Int) > IntKind.i64.max := by
         have : IntKind.i64.max = 9223372036854775807 := by decide
         have hb : x.size + y.size ≤ 9223372036854775807 := hb
         omega
       exact ⟨_, H, fun w => by simp only [binOp, Op.stringOp, if_neg hn]; rfl⟩)
    | exact ⟨_, H, fun w => by simp [binOp, Op.stringOp]⟩
theorem bne_of (n : Field) (h : (n.name == "_") = false) : n.name ≠ "_" := by simpa using h
theorem eqFsW_spec {P : Program} {eq : TypeId → Value → Value → (Bool → Prop) → Prop} {d : Nat} (heq : ∀ t x y F, eq t x y F → ∃ r, F r ∧ ∀ w, (Op.equalIn d t x y).run P w = .ok r w) {xs ys : List Value} :
    ∀ {fs : List Field} {F : Bool → Prop}, eqFsW P eq xs ys fs F → ∃ r, F r ∧ ∀ w, (Op.eqFields d xs.toArray ys.toArray fs).run P w = .ok r w
  | [], F, H => ⟨true, H, fun w => by simp [Op.eqFields]⟩
  | f :: fs, F, H => by
    unfold eqFsW at H
    cases e : f.name == "_" with
    | true => rw [e] at H; exact H.elim
    | false =>
      rw [e] at H; simp only [cond_false] at H
      obtain ⟨va, H, ra⟩ := part_spec H
      obtain ⟨vb, H, rb⟩ := part_spec H
      obtain ⟨r, H, rr⟩ := heq _ _ _ _ H
      obtain ⟨s, H, rs⟩ := eqFsW_spec heq H
      refine ⟨r && s, H, fun w => ?_⟩
      simp only [Op.eqFields, bne_of f e, ne_eq, not_false_eq_true, if_true, Sem.run_bind, ra, rb, rr, Result.andThen_ok]
      cases r
      · simp
      · simp [rs]
theorem eqTy_spec {P : Program} : ∀ (d n : Nat) (_ : d ≤ n) (t : TypeId) (x y : Value) (F : Bool → Prop), eqTy P d t x y F → ∃ r, F r ∧ ∀ w, (Op.equalIn n t x y).run P w = .ok r w
  | 0, _, _, _, _, _, _, H => H.elim
  | d + 1, 0, hn, _, _, _, _, _ => by omega
  | d + 1, n + 1, hn, t, x, y, F, H => by
    unfold eqTy at H
    split at H
    · rename_i e
      cases e2 : ikEq _ _ with
      | false => rw [e2] at H; exact H.elim
      | true =>
        rw [e2] at H
        have := ikEq_spec e2
        subst this
        simp only [ieq, hb_eq, cond_true] at H
        exact ⟨_, H, fun w => run_equalIn_int w n t _ _ _ _ (tdesc_some e (by simp))⟩
    · rename_i e; exact ⟨_, H, fun w => run_equalIn_bool w n t _ _ (tdesc_some e (by simp))⟩
    · rename_i e
      simp only [beqS, hb_eq] at H
      exact ⟨_, H, fun w => run_equalIn_string w n t _ _ (tdesc_some e (by simp))⟩
    · rename_i fs xs ys e
      cases e2 : P.stoodInHeld t with
      | true => rw [e2] at H; exact H.elim
      | false =>
        rw [e2] at H; simp only [cond_false] at H
        have hu := tdesc_some e (by simp)
        have hf : P.fieldsOf t = fs := by unfold Program.fieldsOf; rw [hu]
        obtain ⟨r, hF, hr⟩ := eqFsW_spec (fun t x y F h => eqTy_spec d n (by omega) t x y F h) H
        refine ⟨r, hF, fun w => ?_⟩
        rw [run_equalIn_struct w n t xs ys (by rw [hf]; exact hu) e2, hf]
        simpa using hr w
    · exact H.elim
theorem eqW_spec {P : Program} {t : TypeId} {c : Bool} {x y : Value} {F : Bool → Prop} (H : eqW P t c x y F) : ∃ r, F r ∧ ∀ w, (Op.equal t x y).run P w = .ok r w := by
  unfold Op.equal
  obtain ⟨n, hn, h7, h5⟩ : ∃ n, Op.maxDepth = n + 1 ∧ 7 ≤ n ∧ 5 ≤ n + 1 := ⟨9999, rfl, by omega, by omega⟩
  rw [hn]
  clear hn
  unfold eqW at H
  split at H
  · exact eqTy_spec 1 _ (by omega) _ _ _ _ H
  · cases e : P.eqGuardType P.depth t with
    | true => rw [e] at H; exact H.elim
    | false =>
      rw [e] at H
      cases eB : litT P t with
      | false => rw [eB] at H; exact eqTy_spec 5 _ h5 _ _ _ _ H
      | true =>
        rw [eB] at H
        simp only [cond_true, cond_false] at H
        cases eK : P.keyTypeAt 8 t with
        | false => rw [eK] at H; exact H.elim
        | true =>
          rw [eK] at H
          obtain ⟨ls, ms, ⟨z1, D, h1⟩, ⟨z2, D', h2⟩, H⟩ := H
          have ea : aggT P t = true := by
            unfold litT at eB
            split at eB
            · rename_i e5; unfold aggT; rw [e5]
            · unfold blobT at eB
              exact (Bool.and_eq_true_iff.1 (Bool.and_eq_true_iff.1 eB).1).1
          have hf : ∀ zs : Array Value, zs.toList.length = P.cellsOf t → Value.formed P t (.agg zs) = true := by
            intro zs hz
            have hz : (zs.size == P.cellsOf t) = true := by rw [← hz]; simp
            unfold aggT at ea
            cases hd : tdesc P t <;> rw [hd] at ea <;> first | (cases ea; done) | (unfold Value.formed; rw [tdesc_some hd (by simp)]; exact hz)
          refine ⟨_, H, fun w => ?_⟩
          obtain ⟨r, hr, hiff⟩ := run_equalIn_deep (P := P) (n - 7) 8 t eK w D D' (.agg _) (.agg _) ls ms (hf _ z1) (hf _ z2) h1 h2
          rw [show n - 7 + 8 = n + 1 by omega] at hr
          rw [hr]
          congr 1
          unfold leqL
          rw [hb_eq]
          cases r
          · have : ¬ ls = ms := fun e => by have := hiff.2 e; cases this
            simp [this]
          · simp [hiff.1 rfl]
  · split at H
    · rename_i he
      refine ⟨_, H, fun w => ?_⟩
      cases ‹Option Addr› <;> simp only [Op.equalIn, Sem.run_bind, run_under (tdesc_some he (by simp)), Result.andThen_ok] <;> rfl
    · exact H.elim
  · split at H
    · rename_i he
      refine ⟨_, H, fun w => ?_⟩
      cases ‹Option Addr› <;> simp only [Op.equalIn, Sem.run_bind, run_under (tdesc_some he (by simp)), Result.andThen_ok] <;> rfl
    · exact H.elim
  · split at H
    · rename_i he
      refine ⟨_, H, fun w => ?_⟩
      cases ‹Option Nat› <;> simp only [Op.equalIn, Sem.run_bind, run_under (tdesc_some he (by simp)), Result.andThen_ok] <;> rfl
    · exact H.elim
  · split at H
    · rename_i he
      refine ⟨_, H, fun w => ?_⟩
      simp only [Op.equalIn, Sem.run_bind, run_under (tdesc_some he (by simp)), Result.andThen_ok]; rfl
    · exact H.elim
  · split at H
    · rename_i he
      cases c with
      | false => exact H.elim
      | true =>
        refine ⟨_, H, fun w => ?_⟩
        simp only [Op.equalIn, Sem.run_bind, run_under (tdesc_some he (by simp)), Result.andThen_ok]; rfl
    · exact H.elim
  · exact H.elim
end Go.Gx
namespace Go.Gx

theorem guard_easy {P : Program} {op : BinOp} {t : TypeId} {x y : Operand} {a b : Value} (h1 : ∀ p q, a = .agg p → b = .agg q → False) (h2 : a = .nilIface → b = .nilIface → False) (w : World) : (eqGuard op t x y a b).run P w = .ok () w := by
  cases op <;> first
    | rfl
    | (unfold eqGuard
       simp only [Bool.not_true, Bool.false_eq_true, if_false]
       first
         | rfl
         | (split
            · exact (h2 rfl rfl).elim
            · exact (h1 _ _ rfl rfl).elim
            · rfl))
theorem guard_nil {P : Program} {op : BinOp} {t : TypeId} {x y : Operand} (hx : (Region.isConst x || Region.isConst y) = true) (w : World) : (eqGuard op t x y .nilIface .nilIface).run P w = .ok () w := by
  cases op <;> first
    | rfl
    | (unfold eqGuard
       simp only [Bool.not_true, Bool.false_eq_true, if_false]
       cases x <;> cases y <;> first | rfl | (simp [Region.isConst] at hx))
theorem eq_run {P : Program} {op : BinOp} {t : TypeId} {x y : Operand} {a b : Value} {F : Bool → Prop} (H : eqW P t (Region.isConst x || Region.isConst y) a b F) :
    ∃ r, F r ∧ ∀ w, (eqGuard op t x y a b).run P w = .ok () w ∧ (binOp .eql t a b).run P w = .ok (.bool r) w ∧ (binOp .neq t a b).run P w = .ok (.bool !r) w := by
  obtain ⟨r, hF, hr⟩ := eqW_spec H
  refine ⟨r, hF, fun w => ⟨?_, ?_, ?_⟩⟩
  · unfold eqW at H
    split at H
    · exact guard_easy (fun _ _ h => by cases h) (fun h => by cases h) w
    · cases e : P.eqGuardType P.depth t with
      | true => rw [e] at H; exact H.elim
      | false => exact run_eqGuard_agg w op t x y _ _ e
    · exact guard_easy (fun _ _ h => by cases h) (fun h => by cases h) w
    · exact guard_easy (fun _ _ h => by cases h) (fun h => by cases h) w
    · exact guard_easy (fun _ _ h => by cases h) (fun h => by cases h) w
    · exact guard_easy (fun _ _ h => by cases h) (fun h => by cases h) w
    · split at H
      · cases e : (Region.isConst x || Region.isConst y) with
        | true => exact guard_nil e w
        | false => rw [e] at H; exact H.elim
      · exact H.elim
    · exact H.elim
  all_goals
    unfold eqW at H
    split at H
    all_goals first
      | exact H.elim
      | (simp only [binOp, Sem.run_bind, hr, Result.andThen_ok]; rfl)
theorem binW_spec {P : Program} {op : BinOp} {t : TypeId} {x y : Operand} {a b : Value} {F : Value → Prop} (H : binW P op t (Region.isConst x || Region.isConst y) a b F) :
    ∃ v, F v ∧ ∀ w, (do eqGuard op t x y a b; binOp op t a b : Sem Value).run P w = .ok v w := by
  unfold binW at H
  split at H
  · rename_i k a k' b
    have main : ∀ v w, (binOp op t (.int k a) (.int k' b)).run P w = .ok v w → (do eqGuard op t x y (.int k a) (.int k' b); binOp op t (.int k a) (.int k' b) : Sem Value).run P w = .ok v w := fun v w h => by
      rw [Sem.run_bind, guard_easy (fun _ _ h => by cases h) (fun h => by cases h) w]; exact h
    split at H
    · obtain ⟨hb, H⟩ := H
      have hb : 0 ≤ b := hb
      exact ⟨_, H, fun w => main _ w (by simp only [binOp, Op.shift, if_neg (show ¬ b < 0 by omega)]; rfl)⟩
    · obtain ⟨hb, H⟩ := H
      have hb : 0 ≤ b := hb
      exact ⟨_, H, fun w => main _ w (by simp only [binOp, Op.shift, if_neg (show ¬ b < 0 by omega)]; rfl)⟩
    · rename_i h1 h2
      cases e : ikEq k k' with
      | false => rw [e] at H; exact H.elim
      | true =>
        rw [e] at H
        have := ikEq_spec e
        subst this
        obtain ⟨v, H, hv⟩ := binInt_spec H h1 h2 t
        exact ⟨v, H, fun w => main v w (hv w)⟩
  · rename_i a b
    obtain ⟨v, H, hv⟩ := binStr_spec H t
    exact ⟨v, H, fun w => by rw [Sem.run_bind, guard_easy (fun _ _ h => by cases h) (fun h => by cases h) w]; exact hv w⟩
  · split at H
    · obtain ⟨r, hF, hr⟩ := eq_run (op := .eql) (x := x) (y := y) H
      exact ⟨_, hF, fun w => by rw [Sem.run_bind, (hr w).1]; exact (hr w).2.1⟩
    · obtain ⟨r, hF, hr⟩ := eq_run (op := .neq) (x := x) (y := y) H
      exact ⟨_, hF, fun w => by rw [Sem.run_bind, (hr w).1]; exact (hr w).2.2⟩
    · exact H.elim
theorem unW_spec {P : Program} {op : UnOp} {x : Value} {F : Value → Prop} (H : unW op x F) : ∃ v, F v ∧ ∀ w, (Op.unary op x).run P w = .ok v w := by
  unfold unW at H
  split at H
  · exact ⟨_, H, fun w => by simp [Op.unary, Op.intArith]⟩
  · exact ⟨_, H, fun w => rfl⟩
  · exact ⟨_, H, fun w => by simp [Op.unary]⟩
  · exact H.elim
theorem HeapR.of_heap {w0 : World} {h0 : Hp} {ρ : Nat → Nat} {st : St} {h : Hp} {w w' : World} (H : HeapR w0 h0 ρ st h w) (e : w'.heap = w.heap) (e1 : w'.os = w.os) (e2 : w'.tape = w.tape) (e3 : w'.output = w.output) : HeapR w0 h0 ρ st h w' :=
  ⟨fun b o hb => e ▸ H.holds b o hb, ⟨e1.trans H.kept.os, e2.trans H.kept.tape, e3.trans H.kept.output, e ▸ H.kept.size, fun b o hb hn => e ▸ H.kept.block b o hb hn⟩, fun l cs t hl => e ▸ H.loc l cs t hl, H.inj, H.top⟩
theorem HeapR.push {w0 : World} {h0 : Hp} {ρ : Nat → Nat} {st : St} {h : Hp} {w w' : World} (H : HeapR w0 h0 ρ st h w) {o : Obj} (e : w'.heap = w.heap.push o) (e1 : w'.os = w.os) (e2 : w'.tape = w.tape) (e3 : w'.output = w.output) : HeapR w0 h0 ρ st (h.upd w.heap.size o) w' :=
  (H.alloc o).of_heap e e1 e2 e3
theorem HeapR.setB {w0 : World} {h0 : Hp} {ρ : Nat → Nat} {st : St} {h : Hp} {w : World} (H : HeapR w0 h0 ρ st h w) {b : Nat} {x : Obj} (hb : h b = some x) (o : Obj) : HeapR w0 h0 ρ st (h.upd b o) (w.setB b o) := by
  have hlt := get_lt (H.holds b x hb)
  refine ⟨fun c y hc => ?_, ⟨H.kept.os, H.kept.tape, H.kept.output, Nat.le_trans H.kept.size (by simp [World.setB]), fun c y hc hn => ?_⟩, fun l cs t hl => ?_, H.inj, H.top⟩
  · rw [setB_get _ _ _ _ hlt]
    by_cases e : c = b
    · subst e; rw [Hp.upd_same] at hc; rw [if_pos rfl]; exact hc
    · rw [Hp.upd_ne _ _ e] at hc; rw [if_neg e]; exact H.holds c y hc
  · obtain ⟨h1, h2⟩ := H.kept.block c y hc hn
    have e : c ≠ b := fun e => by subst e; rw [hb] at h2; cases h2
    rw [setB_get _ _ _ _ hlt, if_neg e, Hp.upd_ne _ _ e]; exact ⟨h1, h2⟩
  · obtain ⟨h1, h2, h3⟩ := H.loc l cs t hl
    have e : ρ l ≠ b := fun e => by rw [e, hb] at h2; cases h2
    rw [setB_get _ _ _ _ hlt, if_neg e, Hp.upd_ne _ _ e]; exact ⟨h1, h2, h3⟩
theorem HeapR.setL {w0 : World} {h0 : Hp} {ρ : Nat → Nat} {st : St} {h : Hp} {w : World} (H : HeapR w0 h0 ρ st h w) {l : Nat} {cs ds : List Value} {t : TypeId} (hl : st.L l = some (cs, t)) :
    HeapR w0 h0 ρ (st.setL l ds t) h (w.setB (ρ l) (.cells ds.toArray t (0, 0))) := by
  obtain ⟨g1, g2, g3⟩ := H.loc l cs t hl
  have hlt := get_lt g1
  have key : ∀ m x, (st.setL l ds t).L m = some x → (m = l ∧ x = (ds, t)) ∨ (m ≠ l ∧ st.L m = some x) := by
    intro m x e
    simp only [St.setL] at e
    by_cases hm : m = l
    · subst hm; rw [nbeq_self] at e; cases e; exact .inl ⟨rfl, rfl⟩
    · rw [nbeq_ne hm] at e; exact .inr ⟨hm, e⟩
  have any : ∀ m x, (st.setL l ds t).L m = some x → ∃ y, st.L m = some y := by
    intro m x e
    rcases key m x e with ⟨rfl, _⟩ | ⟨_, h⟩
    · exact ⟨_, hl⟩
    · exact ⟨_, h⟩
  refine ⟨fun c y hc => ?_, ⟨H.kept.os, H.kept.tape, H.kept.output, Nat.le_trans H.kept.size (by simp [World.setB]), fun c y hc hn => ?_⟩, fun m ds' u hm => ?_, fun m n x y e1 e2 e3 => ?_, fun m hm => ?_⟩
  · have e : c ≠ ρ l := fun e => by rw [e, g2] at hc; cases hc
    rw [setB_get _ _ _ _ hlt, if_neg e]; exact H.holds c y hc
  · obtain ⟨h1, h2⟩ := H.kept.block c y hc hn
    have e : c ≠ ρ l := fun e => by rw [e] at hc hn; exact g3 y hc hn
    rw [setB_get _ _ _ _ hlt, if_neg e]; exact ⟨h1, h2⟩
  · rcases key m _ hm with ⟨rfl, hx⟩ | ⟨hne, hx⟩
    · cases hx
      exact ⟨by rw [setB_get _ _ _ _ hlt]; exact if_pos rfl, g2, g3⟩
    · obtain ⟨h1, h2, h3⟩ := H.loc m ds' u hx
      have e : ρ m ≠ ρ l := fun e => hne (H.inj m l _ _ hx hl e)
      rw [setB_get _ _ _ _ hlt, if_neg e]; exact ⟨h1, h2, h3⟩
  · obtain ⟨x', hx⟩ := any m x e1
    obtain ⟨y', hy⟩ := any n y e2
    exact H.inj m n _ _ hx hy e3
  · have hm' : st.n ≤ m := hm
    have e : m ≠ l := fun e => by rw [← e, H.top m hm'] at hl; cases hl
    simp only [St.setL]; rw [nbeq_ne e]; exact H.top m hm'
theorem Ext.setL {ρ : Nat → Nat} {st : St} {l : Nat} {cs : List Value} {t : TypeId} : Ext ρ ρ st (st.setL l cs t) := by
  refine ⟨Nat.le_refl _, fun _ _ => rfl, fun m _ => ?_, rfl⟩
  by_cases e : m = l
  · subst e; simp only [St.setL, nbeq_self, cond_true]; exact ⟨by omega, fun h => by omega⟩
  · simp only [St.setL, nbeq_ne e, cond_false]; exact ⟨Nat.le_refl _, fun _ => trivial⟩
end Go.Gx
namespace Go.Gx

theorem SliceAt_cells {h : Hp} {w : World} (hw : Holds h w) {b o n : Nat} {xs : List Value} (hs : xs.length = n) (hc : CellsAt h b o xs) {P : Program} : (loadCells ⟨b, o, none⟩ n).run P w = .ok xs.toArray w :=
  run_loadCells xs (fun j hj => hw.cell (hc j hj)) hs
theorem push_bytes : ∀ (l : List UInt8) (s : ByteArray), (l.map fun b => ((b.toNat : Nat) : Int)).foldl (fun r n => r.push (UInt8.ofNat n.toNat)) s = ⟨s.data ++ l.toArray⟩
  | [], s => by simp
  | b :: l, s => by
    simp only [List.map_cons, List.foldl_cons, Int.toNat_natCast, UInt8.ofNat_toNat]
    rw [push_bytes l]
    apply ByteArray.ext
    simp [ByteArray.push]
theorem bytesV_eq (s : ByteArray) : bytesV s = (s.data.toList.map fun b => ((b.toNat : Nat) : Int)).map (Value.int .u8) := by
  simp [bytesV]
theorem isBytes_some {P : Program} {e : TypeId} (h : isBytesT P e = true) : P.underlying e = some (.int .u8) := by
  unfold isBytesT at h
  split at h
  · rename_i e; exact tdesc_some e (by simp)
  · cases h
theorem grown_bytes (xs : List Value) (x : Value) (k : Nat) : grown xs [] [x] k = (xs ++ List.replicate k x).toArray := by
  unfold grown
  rw [List.append_nil, List.flatten_replicate_singleton]
theorem convW_spec {P : Program} {src dst : TypeId} {x : Value} {h : Hp} {F : Value → Hp → Prop} (H : convW P src dst x h F) (hsrc : okU P src = true)
    {w0 : World} {h0 : Hp} {ρ : Nat → Nat} {st : St} {w : World} (hh : HeapR w0 h0 ρ st h w) : ∃ v w' h', F v h' ∧ (convert src dst x).run P w = .ok v w' ∧ HeapR w0 h0 ρ st h' w' := by
  have hs := okU_some hsrc
  unfold convW at H
  split at H
  · split at H
    · rename_i e
      refine ⟨_, w, h, H, ?_, hh⟩
      simp only [convert, Sem.run_bind, run_under hs, run_under (tdesc_some e (by simp)), Result.andThen_ok]
      cases tdesc P src <;> rfl
    · exact H.elim
  · rename_i s
    split at H
    · rename_i e
      refine ⟨_, w, h, H, ?_, hh⟩
      simp only [convert, Sem.run_bind, run_under hs, run_under (tdesc_some e (by simp)), Result.andThen_ok]
      cases tdesc P src <;> rfl
    · rename_i e' e
      cases hb : isBytesT P e' with
      | false => rw [hb] at H; exact H.elim
      | true =>
        rw [hb] at H; simp only [cond_true] at H
        have hge := grownCap_ge w s.size 0 e'
        have hx := H (grownCap w s.size 0 e') hge w.heap.size (hh.holds.fresh (Nat.le_refl _))
        refine ⟨_, _, _, hx, Lib.run_convert_string_bytes w src dst e' s hs (tdesc_some e (by simp)) (isBytes_some hb), hh.push ?_ rfl rfl rfl⟩
        have hsz : (Lib.bytesCells w e' s).size = grownCap w s.size 0 e' := by
          simp only [Lib.bytesCells, Array.size_append, Array.size_map, Array.size_replicate]
          have : s.data.size = s.size := rfl
          omega
        have hcs : Lib.bytesCells w e' s = (bytesV s ++ List.replicate (grownCap w s.size 0 e' - s.size) (Value.int .u8 0)).toArray := by
          simp only [Lib.bytesCells, bytesV]
          apply Array.ext'
          simp
        apply Array.ext_getElem?
        intro j
        rw [Array.getElem?_push]
        by_cases hj : j = w.heap.size
        · subst hj
          rw [Lib.bytesWorld_at_new, if_pos rfl, hsz, hcs, grown_bytes]
        · rw [if_neg hj]
          rcases Nat.lt_or_ge j w.heap.size with h' | h'
          · exact Lib.bytesWorld_at_old w e' s j h'
          · rw [Array.getElem?_eq_none (by rw [Lib.bytesWorld_size]; omega), Array.getElem?_eq_none h']
    · exact H.elim
  · rename_i a n c
    split at H
    · rename_i e e1 e2
      cases hb : isBytesT P e with
      | false => rw [hb] at H; exact H.elim
      | true =>
        rw [hb] at H; simp only [cond_true] at H
        obtain ⟨s, ⟨hl, hc⟩, H⟩ := H
        refine ⟨_, w, h, H, ?_, hh⟩
        rw [run_convert_bytes_string w src dst e a n c (tdesc_some e1 (by simp)) (isBytes_some hb) (tdesc_some e2 (by simp))]
        have hlen : s.data.toList.length = n := by simpa [bytesV] using hl
        cases a with
        | none =>
          have h0 : n = 0 := by
            rcases hc with hc | ⟨b, o, hc, _⟩
            · exact hc
            · cases hc
          have hs0 : s = ByteArray.empty := by
            apply ByteArray.ext
            apply Array.ext'
            have : s.data.toList = [] := List.length_eq_zero_iff.1 (by omega)
            rw [this]; rfl
          subst hs0
          rfl
        | some ad =>
          have hx : (loadCells ad n).run P w = .ok ((s.data.toList.map fun b => ((b.toNat : Nat) : Int)).map (Value.int .u8)).toArray w := by
            rcases hc with hc | ⟨b, o, hc, hcs⟩
            · subst hc
              have : s.data.toList = [] := List.length_eq_zero_iff.1 hlen
              rw [this]
              rfl
            · cases hc
              rw [← bytesV_eq]
              exact SliceAt_cells hh.holds hl hcs
          rw [run_bytesToString w ad n c _ hx, push_bytes]
          congr 2
          apply ByteArray.ext
          show (#[] : Array UInt8) ++ s.data.toList.toArray = s.data
          simp
    · exact H.elim
  · exact H.elim
end Go.Gx
namespace Go.Gx

theorem zeroCs_spec {P : Program} {t : TypeId} {F : List Value → Prop} (H : zeroCs P t F) : ∃ v, zeroT P t = some v ∧ (cellsOfV v).length = szT P t ∧ F (cellsOfV v) := by
  unfold zeroCs at H
  cases e : zeroT P t with
  | none => rw [e] at H; exact H.elim
  | some v =>
    rw [e] at H
    cases e2 : Nat.beq (cellsOfV v).length (szT P t) with
    | false => simp only [e2] at H; exact H.elim
    | true => simp only [e2] at H; exact ⟨v, rfl, Nat.eq_of_beq_eq_true e2, H⟩
theorem zeroCells_list (z : Array Value) : ∀ n, (Builtin.zeroCells z n).toList = (List.replicate n z.toList).flatten
  | 0 => by simp [Builtin.zeroCells]
  | n + 1 => by
    have ih := zeroCells_list z n
    rw [List.replicate_succ', List.flatten_append, ← ih]
    unfold Builtin.zeroCells
    rw [Nat.succ_mul]
    simp only [Array.toList_map, Array.toList_range, List.range_add, List.map_append, List.map_map, List.flatten_singleton]
    congr 1
    apply List.ext_getElem
    · simp
    · intro i h1 h2
      simp at h1 h2
      have : (n * z.size + i) % z.size = i := by rw [Nat.mul_comm, Nat.mul_add_mod]; exact Nat.mod_eq_of_lt h1
      simp [this, h1]
theorem growBy_le : ∀ (r c n : Nat), c ≤ 2 * n + 768 → Builtin.growBy n r c ≤ 2 * n + 768
  | 0, c, n, h => by simpa [Builtin.growBy] using h
  | r + 1, c, n, h => by
    unfold Builtin.growBy
    split
    · exact h
    · exact growBy_le r _ n (by omega)
theorem nextcap_le {need cap : Nat} (h : cap < need) : Builtin.nextslicecap need cap ≤ 2 * need + 768 := by
  unfold Builtin.nextslicecap
  split
  · omega
  · split
    · omega
    · exact growBy_le _ _ _ (by omega)
theorem run_first_slice {P : Program} {h : Hp} {w : World} (hw : Holds h w) {a : Option Addr} {size n cap m : Nat} {xs : List Value} (hs : SliceAt h a (n * size) xs) : (Builtin.firstCells size n (.slice a m cap)).run P w = .ok xs.toArray w := by
  obtain ⟨hl, hc⟩ := hs
  cases a with
  | none =>
    have h0 : n * size = 0 := by
      rcases hc with hc | ⟨b, o, hc, _⟩
      · exact hc
      · cases hc
    have : xs = [] := List.length_eq_zero_iff.1 (by omega)
    subst this; rfl
  | some ad =>
    show (loadCells ad (n * size)).run P w = _
    rcases hc with hc | ⟨b, o, hc, hcs⟩
    · have : xs = [] := List.length_eq_zero_iff.1 (by omega)
      subst this; rw [hc]; rfl
    · cases hc
      exact SliceAt_cells hw hl hcs
theorem appendI_spec {P : Program} {e t u : TypeId} {d : TypeDesc} {a : Option Addr} {len cap n : Nat} {h : Hp} {xs : List Value} {F : Value → Hp → Prop} {x : Value} {ty : TypeId} {rest : List TypeId} (ht : P.underlying t = some (.slice e)) (hu : P.underlying u = some d) (hd : ∀ k, d ≠ .int k)
    (H : appendI P e a len cap h xs n F) {w0 : World} {h0 : Hp} {ρ : Nat → Nat} {st : St} {w : World} (hh : HeapR w0 h0 ρ st h w)
    (hn : (Builtin.lenOf x).run P w = .ok n w) (hf : ∀ w', Holds h w' → (Builtin.firstCells (szT P e) n x).run P w' = .ok xs.toArray w') :
    ∃ v w' h', F v h' ∧ (Builtin.append_ (t :: u :: rest).toArray ty #[.slice a len cap, x]).run P w = .ok v w' ∧ HeapR w0 h0 ρ st h' w' := by
  unfold appendI at H
  cases hok : (okT P e && Nat.blt 0 (byT P e)) with
  | false => rw [hok] at H; exact H.elim
  | true =>
    rw [hok] at H
    simp only [Bool.not_true, cond_false] at H
    obtain ⟨hE, hB⟩ := Bool.and_eq_true_iff.1 hok
    have hB' : 0 < byT P e := by
      have := Nat.le_of_ble_eq_true hB; omega
    obtain ⟨H1, H2⟩ := H
    simp only [leN, ltN, nadd, nmul, nsub] at H1 H2
    unfold Builtin.append_
    simp only [List.getElem?_toArray, List.getElem?_cons_zero, List.getElem?_cons_succ, Sem.run_bind, run_under ht, run_under hu, Result.andThen_ok, run_size hE, Sem.run_pure, Bool.false_eq_true, if_false, hn, Bool.not_false, if_true]
    by_cases hc : len + n ≤ cap
    · rw [if_pos hc]
      simp only [Sem.run_bind, hf w hh.holds, Result.andThen_ok]
      rcases H1 hc with ⟨rfl, rfl, H⟩ | ⟨b, o, rfl, H⟩
      · exact ⟨_, w, h, H, rfl, hh⟩
      · obtain ⟨hp, H⟩ := plainW_spec H
        obtain ⟨cs, t', lo, hi, g1, g2, g3, H⟩ := storeH_elim H
        refine ⟨_, _, _, H, ?_, hh.setB g1 _⟩
        simp only [add_mk]
        rw [Sem.run_bind, run_storeCells xs 0 w cs (hh.holds _ _ g1) (by simpa using g2) (by simpa using g3) hp]
        rfl
    · rw [if_neg hc]
      simp only [Sem.run_bind, run_info hE, Result.andThen_ok]
      obtain ⟨g1, old, g2, H⟩ := H2 (by omega)
      have hcap := grownCap_ge w (len + n) cap e
      have hno : ¬ (((len + n : Nat) : Int) > IntKind.i64.max ∧ (False ∨ (tinfo P e).bytes = 0)) := by
        intro hx
        have : byT P e = 0 := by rcases hx.2 with h | h; exact h.elim; exact h
        omega
      have hbig : ¬ (Builtin.nextslicecap (len + n) cap * (tinfo P e).bytes > 2 ^ 48) := by
        have h1 := Nat.mul_le_mul_right (byT P e) (nextcap_le (need := len + n) (cap := cap) (by omega))
        have h2 : (tinfo P e).bytes = byT P e := rfl
        rw [h2]; omega
      obtain ⟨z, hz1, hz2, H⟩ := zeroCs_spec (H _ hcap)
      have hx := H w.heap.size (hh.holds.fresh (Nat.le_refl _))
      refine ⟨_, { w with drawn := w.drawn + 1, heap := w.heap.push _ }, _, hx, ?_, hh.push rfl rfl rfl rfl⟩
      rw [if_neg (by simpa using hno), Sem.run_bind, run_info hE]
      simp only [Result.andThen_ok]
      rw [if_neg hbig]
      have hfz : (Question.appendCap (len + n) cap e).forced = false := rfl
      have hw1 : Holds h { w with drawn := w.drawn + 1 } := hh.holds
      simp only [Sem.run_bind, run_choose, hfz, Bool.false_eq_true, if_false, Result.andThen_ok, run_info hE, run_askRoom, run_first_slice hw1 g2, hf _ hw1, run_zero hz1, newRow, run_newObj, Sem.run_pure]
      have hzc : Builtin.zeroCells z.cells (grownCap w (len + n) cap e - (len + n)) = ((List.replicate (grownCap w (len + n) cap e - (len + n)) (cellsOfV z)).flatten).toArray := by
        apply Array.ext'
        rw [zeroCells_list, cells_toList]
      have e1 : (Question.appendCap (len + n) cap e).cut (w.tape w.drawn (Question.appendCap (len + n) cap e)) = grownCap w (len + n) cap e := rfl
      rw [e1, hzc]
      simp only [List.append_toArray, grown]
theorem appendZ_spec {P : Program} {e t u : TypeId} {k ik : IntKind} {l : Int} {z : Value} {a : Option Addr} {len cap : Nat} {h : Hp} {F : Value → Hp → Prop} {ty : TypeId} {rest : List TypeId} (ht : P.underlying t = some (.slice e)) (hu : P.underlying u = some (.int k))
    (h0 : 0 ≤ IntKind.i64.wrap l) (h1 : IntKind.i64.wrap l * (byT P e : Int) ≤ 281474976710656) (hz : zeroT P e = some z) (hzl : (cellsOfV z).length = szT P e)
    (H : appendI P e a len cap h (repV (IntKind.i64.wrap l).toNat (cellsOfV z)) (IntKind.i64.wrap l).toNat F) {w0 : World} {h0' : Hp} {ρ : Nat → Nat} {st : St} {w : World} (hh : HeapR w0 h0' ρ st h w) :
    ∃ v w' h', F v h' ∧ (Builtin.append_ (t :: u :: rest).toArray ty #[.slice a len cap, .int ik l]).run P w = .ok v w' ∧ HeapR w0 h0' ρ st h' w' := by
  unfold appendI at H
  cases hok : (okT P e && Nat.blt 0 (byT P e)) with
  | false => rw [hok] at H; exact H.elim
  | true =>
    rw [hok] at H
    simp only [Bool.not_true, cond_false] at H
    obtain ⟨hE, hB⟩ := Bool.and_eq_true_iff.1 hok
    have hB' : 0 < byT P e := by
      have := Nat.le_of_ble_eq_true hB; omega
    obtain ⟨H1, H2⟩ := H
    simp only [leN, ltN, nadd, nmul, nsub] at H1 H2
    generalize hn : (IntKind.i64.wrap l).toNat = n at H1 H2
    have hl1 : ¬ IntKind.i64.wrap l < 0 := by omega
    have hl2 : ¬ IntKind.i64.wrap l * ((tinfo P e).bytes : Int) > 2 ^ 48 := by
      have : (tinfo P e).bytes = byT P e := rfl
      rw [this]; omega
    have hnew : ∀ w', (if n * szT P e = 0 then (pure #[] : Sem (Array Value)) else do pure (Builtin.zeroCells (← zeroValue e).cells n)).run P w' = .ok (repV n (cellsOfV z)).toArray w' := fun w' => by
      by_cases e0 : n * szT P e = 0
      · rw [if_pos e0, Sem.run_pure]
        congr 1
        have : (repV n (cellsOfV z)).length = n * szT P e := by unfold repV; simp [hzl]
        rw [List.eq_nil_of_length_eq_zero (this.trans e0)]
      · rw [if_neg e0]
        simp only [Sem.run_bind, run_zero hz, Result.andThen_ok, Sem.run_pure]
        congr 1
        apply Array.ext'
        rw [zeroCells_list, cells_toList]; rfl
    have hai : ∀ w', (asInt (.int ik l)).run P w' = .ok l w' := fun w' => rfl
    unfold Builtin.append_
    simp only [List.getElem?_toArray, List.getElem?_cons_zero, List.getElem?_cons_succ, Sem.run_bind, run_under ht, run_under hu, Result.andThen_ok, run_size hE, Sem.run_pure, if_true, hai, hl1, hl2, if_false, run_info hE, hn, Bool.not_true, Bool.false_eq_true, true_or, and_true]
    by_cases hc : len + n ≤ cap
    · rw [if_pos hc]
      simp only [Sem.run_bind, hnew, Result.andThen_ok]
      rcases H1 hc with ⟨rfl, hx, H⟩ | ⟨b, o, rfl, H⟩
      · exact ⟨_, w, h, H, rfl, hh⟩
      · obtain ⟨hp, H⟩ := plainW_spec H
        obtain ⟨cs, t', lo, hi, g1, g2, g3, H⟩ := storeH_elim H
        refine ⟨_, _, _, H, ?_, hh.setB g1 _⟩
        simp only [add_mk]
        rw [Sem.run_bind, run_storeCells _ 0 w cs (hh.holds _ _ g1) (by simpa using g2) (by simpa using g3) hp]
        rfl
    · rw [if_neg hc]
      simp only [Sem.run_bind, run_info hE, Result.andThen_ok]
      obtain ⟨g1, old, g2, H⟩ := H2 (by omega)
      have hcap := grownCap_ge w (len + n) cap e
      have hneed : ¬ (((len + n : Nat) : Int) > IntKind.i64.max) := by
        have h2 := Nat.le_trans (Nat.le_mul_of_pos_right (2 * (len + n) + 768) hB') g1
        have : IntKind.i64.max = 9223372036854775807 := by decide
        omega
      have hbig : ¬ (Builtin.nextslicecap (len + n) cap * (tinfo P e).bytes > 2 ^ 48) := by
        have h1 := Nat.mul_le_mul_right (byT P e) (nextcap_le (need := len + n) (cap := cap) (by omega))
        have h2 : (tinfo P e).bytes = byT P e := rfl
        rw [h2]; omega
      obtain ⟨z', hz1, hz2, H⟩ := zeroCs_spec (H _ hcap)
      have ez : z' = z := by rw [hz] at hz1; exact (Option.some.inj hz1).symm
      subst ez
      have hx := H w.heap.size (hh.holds.fresh (Nat.le_refl _))
      refine ⟨_, { w with drawn := w.drawn + 1, heap := w.heap.push _ }, _, hx, ?_, hh.push rfl rfl rfl rfl⟩
      rw [if_neg hneed]
      simp only [Sem.run_bind, run_info hE, Result.andThen_ok]
      rw [if_neg hbig]
      have hfz : (Question.appendCap (len + n) cap e).forced = false := rfl
      have hw1 : Holds h { w with drawn := w.drawn + 1 } := hh.holds
      simp only [Sem.run_bind, run_choose, hfz, Bool.false_eq_true, if_false, Result.andThen_ok, run_info hE, run_askRoom, run_first_slice hw1 g2, hnew, run_zero hz, newRow, run_newObj, Sem.run_pure]
      have hzc : Builtin.zeroCells z'.cells (grownCap w (len + n) cap e - (len + n)) = ((List.replicate (grownCap w (len + n) cap e - (len + n)) (cellsOfV z')).flatten).toArray := by
        apply Array.ext'
        rw [zeroCells_list, cells_toList]
      have e1 : (Question.appendCap (len + n) cap e).cut (w.tape w.drawn (Question.appendCap (len + n) cap e)) = grownCap w (len + n) cap e := rfl
      rw [e1, hzc]
      simp only [List.append_toArray, grown]
theorem appendW_spec {P : Program} {e t u : TypeId} {d : TypeDesc} {a : Option Addr} {len cap n : Nat} {h : Hp} {xs : List Value} {F : Value → Hp → Prop} {x : Value} {ty : TypeId} {rest : List TypeId} (ht : P.underlying t = some (.slice e)) (hu : P.underlying u = some d) (hd : ∀ k, d ≠ .int k)
    (H : appendW P e a len cap h xs n F) {w0 : World} {h0 : Hp} {ρ : Nat → Nat} {st : St} {w : World} (hh : HeapR w0 h0 ρ st h w)
    (hn : (Builtin.lenOf x).run P w = .ok n w) (hf : ∀ w', Holds h w' → (Builtin.firstCells (szT P e) n x).run P w' = .ok xs.toArray w') :
    ∃ v w' h', F v h' ∧ (Builtin.append_ (t :: u :: rest).toArray ty #[.slice a len cap, x]).run P w = .ok v w' ∧ HeapR w0 h0 ρ st h' w' := by
  obtain ⟨J, hJ, hC⟩ := H
  obtain ⟨v, w', h', ⟨a', c', rfl, hj⟩, h2⟩ := appendI_spec ht hu hd hC hh ‹_› ‹_›
  exact ⟨_, w', h', hJ a' c' h' hj, h2⟩
end Go.Gx
namespace Go.Gx
open Go.Instr Go.MapKept
variable {P : Program}
theorem keyOk1_isKey {t : TypeId} {v : Value} (h : keyOk1 P t v = true) : ∃ d, P.underlying t = some d ∧ IsKey d v := by
  unfold keyOk1 at h
  split at h
  · rename_i e
    have := ikEq_spec h
    subst this
    exact ⟨_, tdesc_some e (by simp), rfl⟩
  · rename_i e; exact ⟨_, tdesc_some e (by simp), trivial⟩
  · rename_i e; exact ⟨_, tdesc_some e (by simp), trivial⟩
  · cases h
theorem keyOk1_agg {t : TypeId} {v : Value} (h : keyOk1 P t v = true) : aggT P t = false ∧ okU P t = true := by
  obtain ⟨d, h1, h2⟩ := keyOk1_isKey h
  have ht : tdesc P t = d := by unfold tdesc; rw [h1]; rfl
  refine ⟨?_, by unfold okU; rw [h1]; rfl⟩
  unfold aggT
  rw [ht]
  cases d <;> first | rfl | exact h2.elim
theorem run_eq1 {t : TypeId} {x y : Value} (hx : keyOk1 P t x = true) (hy : keyOk1 P t y = true) (d : Nat) (w : World) : ∃ r, (Op.equalIn (d + 1) t x y).run P w = .ok r w ∧ (r = true ↔ x = y) := by
  obtain ⟨dx, h1, h2⟩ := keyOk1_isKey hx
  obtain ⟨dy, h3, h4⟩ := keyOk1_isKey hy
  rw [h1] at h3
  cases h3
  cases dx <;> cases x <;> first | exact h2.elim | skip
  · cases y <;> first | exact h4.elim | skip
    refine ⟨_, run_equalIn_bool w d t _ _ h1, by simp⟩
  · cases y <;> first | exact h4.elim | skip
    have e1 : _ = _ := h2
    have e2 : _ = _ := h4
    subst e1
    subst e2
    refine ⟨_, run_equalIn_int w d t _ _ _ _ h1, by simp⟩
  · cases y <;> first | exact h4.elim | skip
    rename_i a b
    refine ⟨_, run_equalIn_string w d t _ _ h1, ?_⟩
    constructor
    · intro h
      have h := beq_iff_eq.1 h
      congr 1
      have e1 : ∀ s : ByteArray, s.toList = s.toList := fun _ => rfl
      exact ByteArray.ext (by
        have k : ∀ s : ByteArray, s.toList = s.data.toList := by
          intro s
          have key : ∀ (n i : Nat) (r : List UInt8), s.size - i = n → ByteArray.toList.loop s i r = r.reverse ++ s.data.toList.drop i := by
            intro n
            induction n with
            | zero =>
              intro i r h
              rw [ByteArray.toList.loop.eq_def, if_neg (by omega)]
              have : s.data.toList.drop i = [] := List.drop_eq_nil_of_le (by show s.data.toList.length ≤ i; rw [Array.length_toList]; show s.size ≤ i; omega)
              rw [this, List.append_nil]
            | succ n ih =>
              intro i r h
              rw [ByteArray.toList.loop.eq_def, if_pos (by omega)]
              have hi : i < s.data.toList.length := by rw [Array.length_toList]; show i < s.size; omega
              rw [ih (i + 1) (s.get! i :: r) (by omega), List.drop_eq_getElem_cons hi]
              have e : s.get! i = s.data.toList[i] := by
                unfold ByteArray.get!
                have : i < s.data.size := by simpa using hi
                rw [Array.getElem_toList]
                exact getElem!_pos s.data i this
              rw [e]; simp
          unfold ByteArray.toList
          rw [key _ 0 [] rfl]; simp
        rw [k, k] at h
        exact Array.ext' h)
    · intro h
      cases h
      exact beq_iff_eq.2 rfl
theorem run_part1 {t : TypeId} {cs : List Value} {o : Nat} {v : Value} (h : keyOk1 P t v = true) (hv : cs[o]? = some v) (w : World) : (part t cs.toArray o).run P w = .ok v w := by
  obtain ⟨h1, h2⟩ := keyOk1_agg h
  have : loadL P t cs o fun u => u = v := by
    unfold loadL
    rw [h1, h2, hv]; rfl
  obtain ⟨u, rfl, hr⟩ := part_spec this
  exact hr w
theorem run_eqs : ∀ (fs : List Field) (xs ys px py : List Value) (d : Nat) (w : World), keyFs P fs px.length = true → keyOks P fs xs = true → keyOks P fs ys = true → px.length = py.length →
    ∃ r, (Op.eqFields (d + 1) (px ++ xs).toArray (py ++ ys).toArray fs).run P w = .ok r w ∧ (r = true ↔ xs = ys)
  | [], xs, ys, px, py, d, w, _, hx, hy, _ => by
    cases xs with
    | cons a b => cases hx
    | nil =>
      cases ys with
      | cons a b => cases hy
      | nil => exact ⟨true, by simp [Op.eqFields], by simp⟩
  | f :: fs, xs, ys, px, py, d, w, hf, hx, hy, hl => by
    cases xs with
    | nil => cases hx
    | cons x xs =>
      cases ys with
      | nil => cases hy
      | cons y ys =>
        simp only [keyFs, Bool.and_eq_true, Bool.not_eq_true'] at hf
        obtain ⟨⟨⟨hn, ht⟩, ho⟩, hf⟩ := hf
        simp only [keyOks, Bool.and_eq_true] at hx hy
        have ho := Nat.eq_of_beq_eq_true ho
        have p1 := run_part1 (cs := px ++ x :: xs) (o := f.offset) hx.1 (by rw [ho, List.getElem?_append_right (Nat.le_refl _), Nat.sub_self]; rfl) w
        have p2 := run_part1 (cs := py ++ y :: ys) (o := f.offset) hy.1 (by rw [ho, hl, List.getElem?_append_right (Nat.le_refl _), Nat.sub_self]; rfl) w
        obtain ⟨r, r1, r2⟩ := run_eq1 hx.1 hy.1 d w
        obtain ⟨s, s1, s2⟩ := run_eqs fs xs ys (px ++ [x]) (py ++ [y]) d w (by simpa using hf) hx.2 hy.2 (by simp [hl])
        rw [List.append_assoc, List.append_assoc] at s1
        refine ⟨r && s, ?_, ?_⟩
        · simp only [Op.eqFields, bne_of f hn, ne_eq, not_false_eq_true, if_true, Sem.run_bind, p1, p2, r1, Result.andThen_ok]
          cases r
          · simp
          · simpa using s1
        · rw [Bool.and_eq_true, r2, s2, List.cons.injEq]
theorem keyOk_struct {t : TypeId} {fs : Array Field} (ht : tdesc P t = .struct fs) {v : Value} (h : keyOk P t v = true) : ∃ cs : List Value, v = .agg cs.toArray ∧ keyOks P fs.toList cs = true := by
  unfold keyOk at h
  rw [ht] at h
  simp only [] at h
  split at h
  · rename_i cs; exact ⟨cs.toList, by simp, h⟩
  · cases h
theorem keyOk_plain {t : TypeId} (ht : ∀ fs, tdesc P t ≠ .struct fs) {v : Value} (h : keyOk P t v = true) : keyOk1 P t v = true := by
  unfold keyOk at h
  split at h
  · rename_i fs e; exact absurd e (ht fs)
  · exact h
theorem keyT_struct {t : TypeId} {fs : Array Field} (ht : tdesc P t = .struct fs) (h : keyT P t = true) : P.stoodInHeld t = false ∧ keyFs P fs.toList 0 = true := by
  unfold keyT at h
  rw [ht] at h
  simpa using h
theorem run_keyEq {t : TypeId} (ht : keyT P t = true) {x y : Value} (hx : keyOk P t x = true) (hy : keyOk P t y = true) (w : World) : ∃ r, (Op.equal t x y).run P w = .ok r w ∧ (r = true ↔ x = y) := by
  obtain ⟨n, hn⟩ : ∃ n, Op.maxDepth = n + 2 := ⟨Op.maxDepth - 2, by decide⟩
  unfold Op.equal
  rw [hn]
  by_cases hs : ∃ fs, tdesc P t = .struct fs
  · obtain ⟨fs, hs⟩ := hs
    obtain ⟨xs, rfl, hx'⟩ := keyOk_struct hs hx
    obtain ⟨ys, rfl, hy'⟩ := keyOk_struct hs hy
    obtain ⟨h1, h2⟩ := keyT_struct hs ht
    have hu := tdesc_some hs (by simp)
    have hf : P.fieldsOf t = fs := by unfold Program.fieldsOf; rw [hu]
    obtain ⟨r, r1, r2⟩ := run_eqs fs.toList xs ys [] [] n w h2 hx' hy' rfl
    refine ⟨r, ?_, ?_⟩
    · rw [run_equalIn_struct w (n + 1) t xs.toArray ys.toArray (by rw [hf]; exact hu) h1, hf]
      exact r1
    · rw [r2]
      constructor
      · rintro rfl; rfl
      · intro h
        have : xs.toArray = ys.toArray := by injection h
        have := congrArg Array.toList this
        simpa using this
  · have hs : ∀ fs, tdesc P t ≠ .struct fs := fun fs e => hs ⟨fs, e⟩
    exact run_eq1 (keyOk_plain hs hx) (keyOk_plain hs hy) (n + 1) w
theorem run_check {t : TypeId} (ht : keyT P t = true) {x : Value} (hx : keyOk P t x = true) (em : Bool) (w : World) : (Instr.checkKey em 10000 t x).run P w = .ok () w := by
  by_cases hs : ∃ fs, tdesc P t = .struct fs
  · obtain ⟨fs, hs⟩ := hs
    obtain ⟨xs, rfl, hx'⟩ := keyOk_struct hs hx
    obtain ⟨h1, h2⟩ := keyT_struct hs ht
    have hu := tdesc_some hs (by simp)
    rw [show (10000 : Nat) = 9999 + 1 from rfl, Instr.checkKey]
    simp only [Sem.run_bind, run_underlying hu, Result.andThen_ok]
    rw [← Array.forIn_toList]
    have hgen : ∃ px ys, xs = px ++ ys ∧ keyFs P fs.toList px.length = true ∧ keyOks P fs.toList ys = true := ⟨[], xs, rfl, h2, hx'⟩
    clear h2 hx' hu hs hx
    generalize fs.toList = L at hgen
    induction L with
    | nil => simp
    | cons f L ih =>
      obtain ⟨px, ys, rfl, hf, hy⟩ := hgen
      cases ys with
      | nil => cases hy
      | cons x ys =>
        simp only [keyFs, Bool.and_eq_true, Bool.not_eq_true'] at hf
        obtain ⟨⟨⟨hn, ht⟩, ho⟩, hf⟩ := hf
        simp only [keyOks, Bool.and_eq_true] at hy
        have ho := Nat.eq_of_beq_eq_true ho
        have p1 := run_part1 (cs := px ++ x :: ys) (o := f.offset) hy.1 (by rw [ho, List.getElem?_append_right (Nat.le_refl _), Nat.sub_self]; rfl) w
        obtain ⟨dd, k1, k2⟩ := keyOk1_isKey hy.1
        have p2 := run_checkKey (w := w) k1 k2 em 9998
        simp only [List.forIn_cons, Sem.run_bind, bne_of f hn, ne_eq, not_false_eq_true, if_true, Result.andThen_ok, p1, p2, Sem.run_pure]
        exact ih ⟨px ++ [x], ys, by simp, by simpa using hf, hy.2⟩
  · have hs : ∀ fs, tdesc P t ≠ .struct fs := fun fs e => hs ⟨fs, e⟩
    obtain ⟨d, h1, h2⟩ := keyOk1_isKey (keyOk_plain hs hx)
    exact run_checkKey h1 h2 em 9999
theorem run_find {t : TypeId} (ht : keyT P t = true) {x : Value} (hx : keyOk P t x = true) (w : World) (es : List MapEntry) (hes : ∀ e ∈ es, keyOk P t e.key = true) :
    ((Instr.findKey t x es).run P w = .ok none w ∧ ∀ e ∈ es, e.key ≠ x) ∨ ∃ j e, (Instr.findKey t x es).run P w = .ok (some (j, e.val)) w ∧ es[j]? = some e ∧ e.key = x := by
  by_cases hs : ∃ fs, tdesc P t = .struct fs
  · obtain ⟨fs, hs⟩ := hs
    have hu := tdesc_some hs (by simp)
    rw [run_findKey_eq w (by rw [hu]) x es]
    have key : ∀ (es : List MapEntry) (i : Nat), (∀ e ∈ es, keyOk P t e.key = true) → ((Instr.findAsking t x es i).run P w = .ok none w ∧ ∀ e ∈ es, e.key ≠ x) ∨ ∃ j e, (Instr.findAsking t x es i).run P w = .ok (some (i + j, e.val)) w ∧ es[j]? = some e ∧ e.key = x := by
      intro es
      induction es with
      | nil => intro i _; exact .inl ⟨by simp [Instr.findAsking], by simp⟩
      | cons e es ih =>
        intro i hes
        obtain ⟨r, r1, r2⟩ := run_keyEq ht hx (hes e (by simp)) w
        cases r with
        | true => exact .inr ⟨0, e, by simp [Instr.findAsking, r1], rfl, (r2.1 rfl).symm⟩
        | false =>
          have hne : e.key ≠ x := fun h => by have := r2.2 h.symm; cases this
          rcases ih (i + 1) (fun y hy => hes y (by simp [hy])) with ⟨h1, h2⟩ | ⟨j, e', h1, h2, h3⟩
          · left
            refine ⟨by simp [Instr.findAsking, r1, h1], fun y hy => ?_⟩
            rcases List.mem_cons.1 hy with rfl | hy
            · exact hne
            · exact h2 y hy
          · exact .inr ⟨j + 1, e', by simp [Instr.findAsking, r1, h1, Nat.add_assoc, Nat.add_comm 1 j], by simpa using h2, h3⟩
    rcases key es 0 hes with h | ⟨j, e, h1, h2, h3⟩
    · exact .inl h
    · exact .inr ⟨j, e, by simpa using h1, h2, h3⟩
  · have hs : ∀ fs, tdesc P t ≠ .struct fs := fun fs e => hs ⟨fs, e⟩
    obtain ⟨d, h1, h2⟩ := keyOk1_isKey (keyOk_plain hs hx)
    have hks : ∀ e ∈ es, IsKey d e.key := fun e he => by
      obtain ⟨d', g1, g2⟩ := keyOk1_isKey (keyOk_plain hs (hes e he))
      rw [h1] at g1; cases g1; exact g2
    rcases findNow_spec h2 es 0 hks with ⟨g1, g2⟩ | ⟨j, e, g1, g2, g3⟩
    · exact .inl ⟨run_findKey h1 g1, g2⟩
    · exact .inr ⟨j, e, by simpa using run_findKey h1 g1, g2, g3⟩
theorem sameBits_refl {t : TypeId} {x : Value} (hx : keyOk P t x = true) (n : Nat) : Instr.sameBits (n + 2) x x = true := by
  by_cases hs : ∃ fs, tdesc P t = .struct fs
  · obtain ⟨fs, hs⟩ := hs
    obtain ⟨xs, rfl, hx'⟩ := keyOk_struct hs hx
    have : ∀ (fs : List Field) (xs : List Value), keyOks P fs xs = true → (xs.zip xs).all (fun (x, y) => Instr.sameBits (n + 1) x y) = true := by
      intro fs
      induction fs with
      | nil => intro xs h; cases xs with | nil => rfl | cons a b => cases h
      | cons f fs ih =>
        intro xs h
        cases xs with
        | nil => rfl
        | cons x xs =>
          simp only [keyOks, Bool.and_eq_true] at h
          obtain ⟨d, h1, h2⟩ := keyOk1_isKey h.1
          simp only [List.zip_cons_cons, List.all_cons, sameBits_self h2, Bool.true_and]
          exact ih xs h.2
    unfold Instr.sameBits
    simp only [beq_self_eq_true, Bool.true_and]
    exact this _ _ hx'
  · have hs : ∀ fs, tdesc P t ≠ .struct fs := fun fs e => hs ⟨fs, e⟩
    obtain ⟨d, h1, h2⟩ := keyOk1_isKey (keyOk_plain hs hx)
    exact sameBits_self h2 _
theorem run_stays {t : TypeId} {x : Value} (hx : keyOk P t x = true) (w : World) : (Instr.keyThatStays x x).run P w = .ok x w := by
  simp [Instr.keyThatStays, sameBits_refl hx 9998]

theorem mget_none {m : List (Value × Value)} {k : Value} (h : ∀ e ∈ m, e.1 ≠ k) : mget m k = none := by
  unfold mget
  rw [Option.map_eq_none_iff, List.find?_eq_none]
  intro e he
  simpa using h e he
theorem mget_at {es : List MapEntry} (hs : (es.map (·.key)).Nodup) {j : Nat} {e : MapEntry} (h : es[j]? = some e) : mget (es.map fun e => (e.key, e.val)) e.key = some e.val := by
  unfold mget
  have : ∀ (es : List MapEntry) (j : Nat), (es.map (·.key)).Nodup → es[j]? = some e → (es.map fun e => (e.key, e.val)).find? (fun x => @decide (x.1 = e.key) (Classical.propDecidable _)) = some (e.key, e.val) := by
    intro es
    induction es with
    | nil => intro j _ h; simp at h
    | cons a es ih =>
      intro j hs h
      rw [List.map_cons, List.nodup_cons] at hs
      rw [List.map_cons, List.find?_cons]
      by_cases ha : a.key = e.key
      · have : a = e := by
          cases j with
          | zero => simpa using h
          | succ j =>
            exfalso
            apply hs.1
            rw [ha]
            exact List.mem_map.2 ⟨e, List.mem_of_getElem? (by simpa using h), rfl⟩
        subst this
        simp
      · have hd : @decide (a.key = e.key) (Classical.propDecidable _) = false := by simpa using ha
        rw [hd]
        cases j with
        | zero => exact absurd (by simp at h; rw [h]) ha
        | succ j => exact ih j hs.2 (by simpa using h)
  rw [this es j hs h]; rfl
theorem stamped_key {es : Array MapEntry} {clock : Nat} (h : Stamped es clock) : (es.toList.map (·.key)).Nodup := h.2.2
theorem mset_at {es : List MapEntry} (hs : (es.map (·.key)).Nodup) {j : Nat} {e : MapEntry} (h : es[j]? = some e) (v : Value) : (es.modify j fun e => { e with val := v }).map (fun e => (e.key, e.val)) = mset (es.map fun e => (e.key, e.val)) e.key v := by
  unfold mset
  rw [mget_at hs h]
  simp only []
  have : ∀ (es : List MapEntry) (j : Nat), (es.map (·.key)).Nodup → es[j]? = some e → (es.modify j fun e => { e with val := v }).map (fun e => (e.key, e.val)) = (es.map fun e => (e.key, e.val)).map fun x => @ite _ (x.1 = e.key) (Classical.propDecidable _) (e.key, v) x := by
    intro es
    induction es with
    | nil => intro j _ h; simp at h
    | cons a es ih =>
      intro j hs h
      rw [List.map_cons, List.nodup_cons] at hs
      cases j with
      | zero =>
        simp at h
        subst h
        have hrest : (es.map fun e => (e.key, e.val)).map (fun x => @ite _ (x.1 = a.key) (Classical.propDecidable _) (a.key, v) x) = es.map fun e => (e.key, e.val) := by
          rw [List.map_map]
          refine List.map_congr_left fun x hx => ?_
          have : x.key ≠ a.key := fun e => hs.1 (by rw [← e]; exact List.mem_map.2 ⟨x, hx, rfl⟩)
          simp [this]
        rw [List.map_cons, List.map_cons, hrest]
        simp
      | succ j =>
        have hne : a.key ≠ e.key := fun e2 => hs.1 (by rw [e2]; exact List.mem_map.2 ⟨e, List.mem_of_getElem? (by simpa using h), rfl⟩)
        have := ih j hs.2 (by simpa using h)
        rw [List.map_cons, List.map_cons, ← this]
        simp [hne]
  exact this es j hs h
theorem mset_new {es : List MapEntry} {k : Value} (h : ∀ e ∈ es, e.key ≠ k) (v : Value) (b : Nat) : (es ++ [({ key := k, val := v, born := b } : MapEntry)]).map (fun e => (e.key, e.val)) = mset (es.map fun e => (e.key, e.val)) k v := by
  unfold mset
  rw [mget_none (by intro e he; obtain ⟨x, hx, rfl⟩ := List.mem_map.1 he; exact h x hx)]
  simp
theorem mdel_none {es : List MapEntry} {k : Value} (h : ∀ e ∈ es, e.key ≠ k) : es.map (fun e => (e.key, e.val)) = mdel (es.map fun e => (e.key, e.val)) k := by
  unfold mdel
  rw [List.filter_eq_self.2]
  intro e he
  obtain ⟨x, hx, rfl⟩ := List.mem_map.1 he
  simpa using h x hx
theorem mdel_at {es : List MapEntry} (hs : (es.map (·.key)).Nodup) {j : Nat} {e : MapEntry} (h : es[j]? = some e) : (es.eraseIdx j).map (fun e => (e.key, e.val)) = mdel (es.map fun e => (e.key, e.val)) e.key := by
  unfold mdel
  have : ∀ (es : List MapEntry) (j : Nat), (es.map (·.key)).Nodup → es[j]? = some e → (es.eraseIdx j).map (fun e => (e.key, e.val)) = (es.map fun e => (e.key, e.val)).filter fun x => @decide (x.1 ≠ e.key) (Classical.propDecidable _) := by
    intro es
    induction es with
    | nil => intro j _ h; simp at h
    | cons a es ih =>
      intro j hs h
      rw [List.map_cons, List.nodup_cons] at hs
      cases j with
      | zero =>
        simp at h
        subst h
        have hd : @decide (a.key ≠ a.key) (Classical.propDecidable _) = false := by simp
        rw [List.map_cons, List.filter_cons_of_neg (by simp), List.eraseIdx_cons_zero, List.filter_eq_self.2]
        intro x hx
        obtain ⟨y, hy, rfl⟩ := List.mem_map.1 hx
        have : y.key ≠ a.key := fun e => hs.1 (by rw [← e]; exact List.mem_map.2 ⟨y, hy, rfl⟩)
        simpa using this
      | succ j =>
        have hne : a.key ≠ e.key := fun e2 => hs.1 (by rw [e2]; exact List.mem_map.2 ⟨e, List.mem_of_getElem? (by simpa using h), rfl⟩)
        rw [List.map_cons, List.filter_cons_of_pos (by simpa using hne), List.eraseIdx_cons_succ, List.map_cons, ih j hs.2 (by simpa using h)]
  exact this es j hs h

theorem run_lookup {t kt et : TypeId} (hm : P.underlying t = some (.map kt et)) (ht : keyT P kt = true) {kv z v : Value} (hk : keyOk P kt kv = true) (hz : zeroT P et = some z) {w : World} {b : Nat} {o : Obj} {m : List (Value × Value)} (hb : w.heap[b]? = some o) (M : MapObj P kt o m) {c : Bool} (hl : LookOk m kv z v c) (ok : Bool) :
    (Instr.lookup t (.map (some b)) kv ok).run P w = .ok (cond ok (.tuple #[v, .bool c]) v) w := by
  obtain ⟨es, clock, rfl, rfl, hs, hes⟩ := M
  unfold Instr.lookup
  simp only [Sem.run_bind, run_underlying hm, Result.andThen_ok, MapKept.run_getObj_map hb, Sem.run_pure, run_check ht hk]
  rcases run_find ht hk w es.toList hes with ⟨h1, h2⟩ | ⟨j, e, h1, h2, h3⟩
  · have hn := mget_none (m := es.toList.map fun e => (e.key, e.val)) (k := kv) (fun e he => by obtain ⟨x, hx, rfl⟩ := List.mem_map.1 he; exact h2 x hx)
    rcases hl with ⟨_, hl⟩ | ⟨rfl, _, rfl⟩
    · rw [hn] at hl; cases hl
    · simp only [h1, Result.andThen_ok, Sem.run_bind, run_zero hz, Sem.run_pure]
      cases ok <;> rfl
  · subst h3
    have hn := mget_at (stamped_key hs) h2
    rcases hl with ⟨rfl, hl⟩ | ⟨_, hl, _⟩
    · rw [hn] at hl
      cases hl
      simp only [h1, Result.andThen_ok, Sem.run_bind, Sem.run_pure]
      cases ok <;> rfl
    · rw [hn] at hl; cases hl
theorem run_update {t kt et : TypeId} (hm : P.underlying t = some (.map kt et)) (ht : keyT P kt = true) {kv v : Value} (hk : keyOk P kt kv = true) {w : World} {b : Nat} {o : Obj} {m : List (Value × Value)} (hb : w.heap[b]? = some o) (M : MapObj P kt o m) :
    ∃ o', (Instr.mapUpdate t (.map (some b)) kv v).run P w = .ok () (w.setB b o') ∧ MapObj P kt o' (mset m kv v) := by
  obtain ⟨es, clock, rfl, rfl, hs, hes⟩ := M
  unfold Instr.mapUpdate
  simp only [Sem.run_bind, run_underlying hm, Result.andThen_ok, MapKept.run_getObj_map hb, run_check ht hk]
  rcases run_find ht hk w es.toList hes with ⟨h1, h2⟩ | ⟨j, e, h1, h2, h3⟩
  · refine ⟨.map (es.push { key := kv, val := v, born := clock }) (clock + 1), ?_, ⟨_, _, rfl, ?_, stamped_push hs h2, ?_⟩⟩
    · simp only [h1, Result.andThen_ok, MapKept.run_setObj_map _ hb]; rfl
    · rw [Array.toList_push]; exact mset_new h2 v clock
    · intro x hx
      rw [Array.toList_push, List.mem_append, List.mem_singleton] at hx
      rcases hx with hx | rfl
      · exact hes x hx
      · exact hk
  · subst h3
    have hj : es[j]? = some e := by rw [← Array.getElem?_toList]; exact h2
    have hkey : ((es[j]?).map (·.key)).getD e.key = e.key := by rw [hj]; rfl
    have hmod : (es.modify j fun x => { x with key := e.key, val := v }) = es.modify j fun x => { x with val := v } := by
      apply Array.ext
      · simp
      · intro i h1 h2
        rw [Array.getElem_modify, Array.getElem_modify]
        split
        · rename_i hij
          have : es[i]'(by simpa using h1) = e := by
            have := (Array.getElem?_eq_some_iff.1 hj).2
            subst hij; exact this
          rw [this]
        · rfl
    refine ⟨.map (es.modify j fun x => { x with val := v }) clock, ?_, ⟨_, _, rfl, ?_, ?_, ?_⟩⟩
    · simp only [h1, Result.andThen_ok, hkey, Sem.run_bind, run_stays hk, MapKept.run_setObj_map _ hb, hmod]; rfl
    · rw [Array.toList_modify]; exact mset_at (stamped_key hs) h2 v
    · obtain ⟨s1, s2, s3⟩ := hs
      have ek : ∀ (l : List MapEntry) (j : Nat), (l.modify j fun x => { x with val := v }).map (·.key) = l.map (·.key) := by
        intro l
        induction l with
        | nil => intro j; cases j <;> rfl
        | cons a l ih => intro j; cases j with
          | zero => rfl
          | succ j => simp [ih]
      have eb : ∀ (l : List MapEntry) (j : Nat), (l.modify j fun x => { x with val := v }).map (·.born) = l.map (·.born) := by
        intro l
        induction l with
        | nil => intro j; cases j <;> rfl
        | cons a l ih => intro j; cases j with
          | zero => rfl
          | succ j => simp [ih]
      refine ⟨fun x hx => ?_, ?_, ?_⟩
      · rw [Array.toList_modify] at hx
        have : x.born ∈ es.toList.map (·.born) := by rw [← eb _ j]; exact List.mem_map.2 ⟨x, hx, rfl⟩
        obtain ⟨y, hy, e⟩ := List.mem_map.1 this
        rw [← e]; exact s1 y hy
      · rw [Array.toList_modify, eb]; exact s2
      · rw [Array.toList_modify, ek]; exact s3
    · intro x hx
      rw [Array.toList_modify] at hx
      obtain ⟨i, hi⟩ := List.mem_iff_getElem?.1 hx
      rw [List.getElem?_modify] at hi
      cases hx' : es.toList[i]? with
      | none => rw [hx'] at hi; simp at hi
      | some y =>
        rw [hx'] at hi
        have hy := hes y (List.mem_of_getElem? hx')
        simp at hi
        split at hi
        · rw [← hi]; exact hy
        · rw [← hi]; exact hy
theorem run_delete {t kt et : TypeId} (hm : P.underlying t = some (.map kt et)) (ht : keyT P kt = true) {kv : Value} (hk : keyOk P kt kv = true) {w : World} {b : Nat} {o : Obj} {m : List (Value × Value)} (hb : w.heap[b]? = some o) (M : MapObj P kt o m) (ats : List TypeId) (args : List Value) (ty : TypeId) :
    ∃ o', (Builtin.delete_ (t :: ats).toArray ty (.map (some b) :: kv :: args).toArray).run P w = .ok (.tuple #[]) (w.setB b o') ∧ MapObj P kt o' (mdel m kv) := by
  obtain ⟨es, clock, rfl, rfl, hs, hes⟩ := M
  unfold Builtin.delete_
  simp only [List.getElem?_toArray, List.getElem?_cons_zero, List.getElem?_cons_succ, Sem.run_bind, run_underlying hm, Result.andThen_ok, MapKept.run_getObj_map hb, run_check ht hk]
  rcases run_find ht hk w es.toList hes with ⟨h1, h2⟩ | ⟨j, e, h1, h2, h3⟩
  · refine ⟨.map es clock, ?_, ⟨_, _, rfl, mdel_none h2, hs, hes⟩⟩
    simp only [h1, Result.andThen_ok, Sem.run_bind, MapKept.run_setObj_map _ hb, Sem.run_pure]; rfl
  · subst h3
    have hlt : j < es.size := by have := (List.getElem?_eq_some_iff.1 h2).1; simpa using this
    have ee : (es.eraseIdxIfInBounds j).toList = es.toList.eraseIdx j := by
      unfold Array.eraseIdxIfInBounds
      rw [dif_pos hlt, Array.toList_eraseIdx]
    obtain ⟨s1, s2, s3⟩ := hs
    have hsub : (es.toList.eraseIdx j).Sublist es.toList := List.eraseIdx_sublist _ _
    refine ⟨.map (es.eraseIdxIfInBounds j) clock, ?_, ⟨_, _, rfl, by rw [ee]; exact mdel_at s3 h2, ⟨fun x hx => s1 x ?_, ?_, ?_⟩, fun x hx => hes x ?_⟩⟩
    · simp only [h1, Result.andThen_ok, Sem.run_bind, MapKept.run_setObj_map _ hb, Sem.run_pure]; rfl
    · rw [ee] at hx; exact hsub.subset hx
    · rw [ee]; exact (hsub.map _).nodup s2
    · rw [ee]; exact (hsub.map _).nodup s3
    · rw [ee] at hx; exact hsub.subset hx
end Go.Gx
namespace Go.Gx

theorem maxInt_spec {P : Program} {k : IntKind} : ∀ {l : List Value} {x : Int} {F : Value → Prop}, maxInt k x l F → ∃ v, F v ∧ ∀ w, (l.foldlM Builtin.max2 (.int k x)).run P w = .ok v w
  | [], x, F, H => ⟨_, H, fun _ => rfl⟩
  | y :: l, x, F, H => by
    cases y <;> first | exact H.elim | skip
    rename_i k' y
    obtain ⟨v, h1, h2⟩ := maxInt_spec (l := l) H
    exact ⟨v, h1, fun w => by rw [List.foldlM_cons, Sem.run_bind]; exact h2 w⟩
theorem minInt_spec {P : Program} {k : IntKind} : ∀ {l : List Value} {x : Int} {F : Value → Prop}, minInt k x l F → ∃ v, F v ∧ ∀ w, (l.foldlM Builtin.min2 (.int k x)).run P w = .ok v w
  | [], x, F, H => ⟨_, H, fun _ => rfl⟩
  | y :: l, x, F, H => by
    cases y <;> first | exact H.elim | skip
    rename_i k' y
    obtain ⟨v, h1, h2⟩ := minInt_spec (l := l) H
    exact ⟨v, h1, fun w => by rw [List.foldlM_cons, Sem.run_bind]; exact h2 w⟩
theorem first_string {P : Program} (s : ByteArray) (len sz : Nat) (w : World) : (Builtin.firstCells sz (Nat.min s.size len) (.string s)).run P w = .ok (cpyV s len).toArray w := by
  simp only [Builtin.firstCells, Sem.run_pure]
  congr 1
  apply Array.ext'
  unfold cpyV bytesV
  have hlen : s.data.toList.length = s.size := by rw [Array.length_toList]; rfl
  have e : (s.extract 0 (Nat.min s.size len)).data.toList = s.data.toList.take len := by
    rw [ByteArray.data_extract, Array.toList_extract, List.extract_eq_take_drop, List.drop_zero, Nat.sub_zero]
    by_cases h : s.size ≤ len
    · rw [List.take_of_length_le (by rw [hlen]; exact Nat.le_min.2 ⟨Nat.le_refl _, h⟩), List.take_of_length_le (by omega)]
    · have : Nat.min s.size len = len := Nat.min_eq_right (by omega)
      rw [this]
  rw [Array.toList_map, e, List.map_take]
theorem builtinW_spec {P : Program} {b : Builtin} {ats : Array TypeId} {t : TypeId} {cs : Array Bool} {args : List Value} {h : Hp} {F : Value → Hp → Prop} (H : builtinW P b ats.toList args h F)
    {w0 : World} {h0 : Hp} {ρ : Nat → Nat} {st : St} {w : World} (hh : HeapR w0 h0 ρ st h w) : ∃ v w' h', F v h' ∧ (builtin b ats t cs args.toArray).run P w = .ok (.value v) w' ∧ HeapR w0 h0 ρ st h' w' := by
  obtain ⟨ats⟩ := ats
  simp only [] at H
  unfold builtinW at H
  split at H
  · -- len
    split at H
    · rename_i t0 ts x xs
      split at H
      · rename_i e; exact ⟨_, w, h, H, run_v (by simp [Builtin.len_, run_under (tdesc_some e (by simp)), goInt]), hh⟩
      · rename_i e; exact ⟨_, w, h, H, run_v (by simp [Builtin.len_, run_under (tdesc_some e (by simp)), goInt]), hh⟩
      · rename_i e; exact ⟨_, w, h, H, run_v (by simp [Builtin.len_, run_under (tdesc_some e (by simp)), goInt]), hh⟩
      · rename_i e
        obtain ⟨b, o, m, rfl, hb, ⟨es, clock, rfl, hm, _⟩, H⟩ := H
        refine ⟨_, w, h, H, run_v ?_, hh⟩
        have hg := hh.holds _ _ hb
        have hl : m.length = es.size := by rw [← hm]; simp
        simp [Builtin.len_, run_under (tdesc_some e (by simp)), goInt, getObj, Sem.run, hg, mlen, hl]
      · exact H.elim
    · exact H.elim
  · -- append
    split at H
    · rename_i t0 u ts a len cap x
      split at H
      · rename_i e1 e2
        obtain ⟨xs, hs, H⟩ := H
        obtain ⟨v, w', h', h1, h2, h3⟩ := appendW_spec (x := .slice _ _ _) (ty := t) (rest := ts) (tdesc_some e1 (by simp)) (tdesc_some e2 (by simp)) (fun k h => by cases h) H hh rfl (fun w' hw' => run_first_slice hw' hs)
        exact ⟨v, w', h', h1, run_v h2, h3⟩
      · rename_i s e1 e2
        obtain ⟨v, w', h', h1, h2, h3⟩ := appendW_spec (x := .string s) (ty := t) (rest := ts) (tdesc_some e1 (by simp)) (tdesc_some e2 (by simp)) (fun k h => by cases h) H hh rfl (fun w' hw' => by
          have : s.extract 0 s.size = s := by
            apply ByteArray.ext; simp
          simp only [Builtin.firstCells, this, Sem.run_pure]
          congr 1
          apply Array.ext'
          simp [bytesV])
        exact ⟨v, w', h', h1, run_v h2, h3⟩
      · rename_i k ik l e1 e2
        obtain ⟨g0, g1, H⟩ := H
        obtain ⟨z, hz, hzl, H⟩ := zeroCs_spec H
        obtain ⟨J, hJ, hC⟩ := H
        obtain ⟨v, w', h', ⟨a', c', rfl, hj⟩, h2, h3⟩ := appendZ_spec (ty := t) (rest := ts) (tdesc_some e1 (by simp)) (tdesc_some e2 (by simp)) g0 g1 hz hzl hC hh
        exact ⟨_, w', h', hJ a' c' h' hj, run_v h2, h3⟩
      · exact H.elim
    · exact H.elim
  · -- delete
    split at H
    · rename_i t0 ts r k rest
      split at H
      · rename_i kt et e
        cases ek : keyT P kt && keyOk P kt k with
        | false => rw [ek] at H; exact H.elim
        | true =>
          rw [ek] at H
          rw [Bool.and_eq_true] at ek
          obtain ⟨b, o, m, rfl, hb, M, H⟩ := H
          obtain ⟨o', h1, h2⟩ := run_delete (tdesc_some e (by simp)) ek.1 ek.2 (hh.holds _ _ hb) M ts rest t
          exact ⟨_, _, _, H o' h2, run_v h1, hh.setB hb o'⟩
      · exact H.elim
    · exact H.elim
  · -- copy
    split at H
    · rename_i t0 ts a len cap x
      split at H
      · rename_i e s et
        cases eo : okT P e && Nat.beq (szT P e) 1 with
        | false => rw [eo] at H; exact H.elim
        | true =>
          rw [eo] at H
          simp only [cond_true] at H
          obtain ⟨o1, o2⟩ := Bool.and_eq_true_iff.1 eo
          have hb : ∀ w' : World, (Builtin.lenOf (.string s)).run P w' = .ok s.size w' := fun _ => rfl
          obtain ⟨J, HJ, H⟩ := H
          rcases H with ⟨e0, H⟩ | ⟨b, o, rfl, hp, H⟩
          · refine ⟨_, w, h, HJ _ H, run_v ?_, hh⟩
            have hf := first_string (P := P) s len (szT P e) w
            rw [e0] at hf
            unfold Builtin.copy_
            simp only [List.getElem?_toArray, List.getElem?_cons_zero, List.getElem?_cons_succ, Sem.run_bind, run_under (tdesc_some et (by simp)), Result.andThen_ok, hb, run_size o1, hf]
            cases a with
            | none => rfl
            | some ad => simp [storeCells, goInt, cpyN]
          · obtain ⟨cs', t', lo, hi, g1, g2, g3, H⟩ := storeH_elim H
            refine ⟨_, _, _, HJ _ H, run_v ?_, hh.setB g1 _⟩
            have hf := first_string (P := P) s len (szT P e) w
            unfold Builtin.copy_
            simp only [List.getElem?_toArray, List.getElem?_cons_zero, List.getElem?_cons_succ, Sem.run_bind, run_under (tdesc_some et (by simp)), Result.andThen_ok, hb, run_size o1, hf]
            rw [run_storeCells (cpyV s len) 0 w cs' (hh.holds _ _ g1) (by simpa using g2) (by simpa using g3) hp]
            rfl
      · rename_i e xa n xcap et
        cases eo : okT P e && Nat.beq (szT P e) 1 with
        | false => rw [eo] at H; exact H.elim
        | true =>
          rw [eo] at H
          simp only [cond_true] at H
          obtain ⟨o1, o2⟩ := Bool.and_eq_true_iff.1 eo
          have o3 : szT P e = 1 := Nat.eq_of_beq_eq_true o2
          have hb : ∀ w' : World, (Builtin.lenOf (.slice xa n xcap)).run P w' = .ok n w' := fun _ => rfl
          obtain ⟨xs, hs, J, HJ, H⟩ := H
          have hf : (Builtin.firstCells (szT P e) (Nat.min n len) (.slice xa n xcap)).run P w = .ok xs.toArray w := by
            refine run_first_slice hh.holds ?_
            rw [o3, Nat.mul_one]; exact hs
          rcases H with ⟨e0, H⟩ | ⟨b, o, rfl, hp, H⟩
          · refine ⟨_, w, h, HJ _ H, run_v ?_, hh⟩
            rw [e0] at hf
            unfold Builtin.copy_
            simp only [List.getElem?_toArray, List.getElem?_cons_zero, List.getElem?_cons_succ, Sem.run_bind, run_under (tdesc_some et (by simp)), Result.andThen_ok, hb, run_size o1, hf]
            cases a with
            | none => rfl
            | some ad => simp [storeCells, goInt, cpyI, cpyM]
          · obtain ⟨cs', t', lo, hi, g1, g2, g3, H⟩ := storeH_elim H
            refine ⟨_, _, _, HJ _ H, run_v ?_, hh.setB g1 _⟩
            unfold Builtin.copy_
            simp only [List.getElem?_toArray, List.getElem?_cons_zero, List.getElem?_cons_succ, Sem.run_bind, run_under (tdesc_some et (by simp)), Result.andThen_ok, hb, run_size o1, hf]
            rw [run_storeCells xs 0 w cs' (hh.holds _ _ g1) (by simpa using g2) (by simpa using g3) hp]
            rfl
      · exact H.elim
    · exact H.elim
  · -- max
    split at H
    · obtain ⟨v, h1, h2⟩ := maxInt_spec (P := P) H
      exact ⟨v, w, h, h1, run_v (by simpa [Builtin.max_] using h2 w), hh⟩
    · exact H.elim
  · split at H
    · obtain ⟨v, h1, h2⟩ := minInt_spec (P := P) H
      exact ⟨v, w, h, h1, run_v (by simpa [Builtin.min_] using h2 w), hh⟩
    · exact H.elim
  · exact H.elim
theorem HeapR.call {w0 : World} {h0 : Hp} {ρ : Nat → Nat} {st : St} {h h' : Hp} {w w' : World} (H : HeapR w0 h0 ρ st h w) (hh : Holds h' w') (hk : Kept h w h' w') : HeapR w0 h0 ρ st h' w' := by
  refine ⟨hh, H.kept.trans hk, fun l cs t hl => ?_, H.inj, H.top⟩
  obtain ⟨a, b, c⟩ := H.loc l cs t hl
  obtain ⟨x, y⟩ := hk.block _ _ a b
  exact ⟨x, y, c⟩
theorem run_callFunc {P : Program} {g : FuncId} (hg : funcOk P g = true) (args : Array Value) (w : World) : (callFunc g args).run P w = .ok (.enter g args) w := by
  unfold funcOk at hg
  unfold callFunc
  simp only [Sem.run_bind, run_program, Result.andThen_ok]
  cases e : P.funcs[g]? with
  | none => rw [e] at hg; cases hg
  | some fn =>
    rw [e] at hg
    obtain ⟨h1, h2⟩ := Bool.and_eq_true_iff.1 hg
    have h3 : (fn.name == "runtime.NumGoroutine") = false := by simpa using h2
    have h4 : fn.body.isNone = false := by cases hb : fn.body <;> simp_all
    simp [h3, h4]
theorem callW_spec {P : Program} {o : Oper} {a : Act} {w : World} {next : Act → World → Prop} {Q : Exit → Act → World → Prop} {t : TypeId} {g : FuncId} {args : List Value} {h : Hp} {K : SV → St → Hp → Prop}
    {w0 : World} {h0 : Hp} {ρ : Nat → Nat} {st : St} (H : callW P t g args h fun v h' => K (.val v) st h') (hh : HeapR w0 h0 ρ st h w) (hn : Nx w0 h0 ρ st a o.dst K next)
    (hr : (execOp a.eval o).run P w = .ok (.enter g args.toArray) w) : o.wp P a w next Q := by
  refine wp_enter hr (H w hh.holds) fun e w'' ⟨v, h', he, hq, hh', hk⟩ => ⟨v, he, ?_⟩
  obtain ⟨v', rfl, hq⟩ := Vt.ex_spec hq
  exact hn.pure hq rfl (hh.call hh' hk)
theorem add64_row (fn : Func) (h1 : fn.name = "math/bits.Add64") (h2 : fn.origin = "") : Extern.findNext fn = none ∧ Extern.find fn = some add64Entry := by
  constructor
  · unfold Extern.findNext
    rw [h1, h2]
    kernel_rfl
  · unfold Extern.find
    rw [h1, h2]
    kernel_rfl
theorem externW_spec {P : Program} {g : FuncId} {args : List Value} {F : Value → Prop} (H : externW P g args F) :
    ∃ v, F v ∧ ∀ w, (callFunc g args.toArray).run P w = .ok (.value v) w := by
  unfold externW at H
  cases e : isAdd64 P g with
  | false => rw [e] at H; exact H.elim
  | true =>
    rw [e] at H
    simp only [cond_true] at H
    unfold isAdd64 at e
    split at e
    · rename_i fn hf
      obtain ⟨e1, e2⟩ := Bool.and_eq_true_iff.1 e
      obtain ⟨e3, e4⟩ := Bool.and_eq_true_iff.1 e1
      have hn : fn.name = "math/bits.Add64" := by simpa using e4
      have ho : fn.origin = "" := by simpa using e2
      obtain ⟨r1, r2⟩ := add64_row fn hn ho
      split at H
      · rename_i x y c
        obtain ⟨hx, hy, hc0, hc1, H⟩ := H
        refine ⟨_, H, fun w => ?_⟩
        have hx : 0 ≤ x := hx
        have hy : 0 ≤ y := hy
        have hc0 : 0 ≤ c := hc0
        rw [run_callFunc_extern hf (by rw [hn]; decide) e3 r1 r2, run_add64 x y c hx hy hc0 hc1]
        simp only [Result.andThen, itmod, itdiv, iadd]
        rw [Int.tmod_eq_emod_of_nonneg (by omega), Int.tdiv_eq_ediv_of_nonneg (by omega)]
      · exact H.elim
    · cases e
theorem depth_pos (P : Program) : ∃ n, P.types.size + Made.depth = n + 1 := ⟨P.types.size + Made.depth - 1, by
  have : 0 < Made.depth := by decide
  omega⟩
theorem methodW_spec {P : Program} {u : TypeId} {name : String} {F : FuncId → Prop} (H : methodW P u name F) (p : Option Addr) (args : Array Value) (w : World) :
    ∃ f, F f ∧ (callMethod (.iface u (.pointer p)) name args).run P w = .ok (.enter f (#[.pointer p] ++ args)) w := by
  unfold methodW at H
  cases e1 : (tinfo P u).methods.find? (·.name == name) with
  | none => rw [e1] at H; exact H.elim
  | some m =>
    rw [e1] at H
    simp only [] at H
    cases e2 : m.func with
    | none => rw [e2] at H; exact H.elim
    | some fp =>
      obtain ⟨f, b⟩ := fp
      rw [e2] at H
      cases b with
      | false => exact H.elim
      | true =>
        simp only [] at H
        cases e3 : P.underlying u with
        | none => rw [e3] at H; exact H.elim
        | some d =>
          rw [e3] at H
          cases d <;> first | exact H.elim | skip
          rename_i el
          simp only [] at H
          cases e4 : (m.path.isEmpty && (P.info? u).isSome && funcOk P f) with
          | false => rw [e4] at H; exact H.elim
          | true =>
            rw [e4] at H
            simp only [cond_true] at H
            obtain ⟨e5, e6⟩ := Bool.and_eq_true_iff.1 e4
            obtain ⟨e7, e8⟩ := Bool.and_eq_true_iff.1 e5
            have hp : m.path.toList = [] := by simpa using e7
            obtain ⟨n, hn⟩ := depth_pos P
            refine ⟨f, H, ?_⟩
            unfold callMethod
            simp only [Sem.run_bind, run_program, Result.andThen_ok, hn]
            have hm : (method (n + 1) u (.pointer p) name).run P w = .ok (f, .pointer p) w := by
              unfold method
              simp only [Sem.run_bind, run_info (show okT P u = true from e8), Result.andThen_ok, e1, hp, follow, Sem.run_pure, e2, receiverAt, run_under e3, Place.get]
            rw [hm]
            exact run_callFunc e6 _ w
end Go.Gx
namespace Go.Gx

section
variable {P : Program} {H : Hints} {st : St} {h hl : Hp} {K : SV → St → Hp → Prop} {a : Act} {w : World} {next : Act → World → Prop} {Q : Exit → Act → World → Prop} {w0 : World} {h0 : Hp} {ρ : Nat → Nat}
  {dst : Option Tmp} {ty : TypeId} {pos : String} {after : Array Edge} {guard : Option (Nat × Bool)}

theorem idxW_spec {x : Operand} {v : Value} {len : Nat} {F : Nat → Prop} (H : idxW x v len F) : ∃ k n, v = .int k n ∧ 0 ≤ n ∧ n < len ∧ F n.toNat := by
  unfold idxW at H
  split at H
  · rename_i k n
    split at H
    · cases e : (decide (0 ≤ n) && Nat.blt n.toNat len) with
      | false => rw [e] at H; exact H.elim
      | true =>
        rw [e] at H
        obtain ⟨e1, e2⟩ := Bool.and_eq_true_iff.1 e
        have h1 : 0 ≤ n := of_decide_eq_true e1
        have h2 : n.toNat < len := Nat.le_of_ble_eq_true e2
        exact ⟨k, n, rfl, h1, by omega, H⟩
    · exact ⟨k, n, rfl, H.1, H.2.1, H.2.2⟩
  · exact H.elim
theorem boundW_spec {x : Option Operand} {d top : Nat} {F : Nat → Prop} (he : EnvR ρ st a.tmps) (H : boundW st x d top F) :
    ∃ n, F n ∧ ((x = none ∧ n = d) ∨ ∃ (o : Operand) (k : IntKind) (i : Int), x = some o ∧ a.eval o = .int k i ∧ 0 ≤ i ∧ i ≤ top ∧ n = i.toNat) := by
  unfold boundW at H
  split at H
  · exact ⟨d, H, .inl ⟨rfl, rfl⟩⟩
  · rename_i o
    have H := evV_spec he H
    split at H
    · rename_i k i e
      exact ⟨_, H.2.2, .inr ⟨o, k, i, rfl, e, H.1, H.2.1, rfl⟩⟩
    · exact H.elim
theorem setL_eq : ∀ (vs cs : List Value) (o : Nat), setCells cs.toArray o vs = (setL cs o vs).toArray
  | [], _, _ => rfl
  | v :: vs, cs, o => by
    simp only [setCells, setL]
    rw [show cs.toArray.setIfInBounds o v = (cs.set o v).toArray by simp]
    exact setL_eq vs _ _
theorem fold_setL (off : Nat) : ∀ (vs : List Value) (cs : Array Value) (j : Nat), (vs.zipIdx j).foldl (fun cs (x : Value × Nat) => cs.setIfInBounds (off + x.2) x.1) cs = setCells cs (off + j) vs
  | [], _, _ => rfl
  | v :: vs, cs, j => by
    simp only [List.zipIdx_cons, List.foldl_cons, setCells]
    exact fold_setL off vs _ (j + 1)
theorem partsW_spec (he : EnvR ρ st a.tmps) {place : Nat → Option (Nat × Nat)} : ∀ {ps : List (Nat × Operand)} {cells : List Value} {F : List Value → Prop}, partsW P st place cells ps F →
    ∃ cs, F cs ∧ Instr.fill place cells.toArray (ps.map fun (i, x) => (i, a.eval x)) = some cs.toArray
  | [], cells, F, H => ⟨cells, H, rfl⟩
  | (i, x) :: ps, cells, F, H => by
    unfold partsW at H
    split at H
    · rename_i off size e
      have H := evV_spec he H
      cases e2 : (Nat.beq (cellsOfV (a.eval x)).length size && Nat.ble (off + size) cells.length) with
      | false => rw [e2] at H; exact H.elim
      | true =>
        rw [e2] at H
        obtain ⟨e3, e4⟩ := Bool.and_eq_true_iff.1 e2
        have e3 := Nat.eq_of_beq_eq_true e3
        have e4 := Nat.le_of_ble_eq_true e4
        obtain ⟨cs, h1, h2⟩ := partsW_spec he (ps := ps) H
        refine ⟨cs, h1, ?_⟩
        simp only [List.map_cons, Instr.fill, e]
        have hsz : (a.eval x).cells.size = (cellsOfV (a.eval x)).length := by rw [← cells_toList]; simp
        rw [if_neg (by rw [hsz]; simp; omega), ← h2]
        congr 1
        rw [← setL_eq]
        have := fold_setL off (cellsOfV (a.eval x)) cells.toArray 0
        rw [Nat.add_zero] at this
        rw [← this, ← cells_toList, ← Array.foldl_toList, Array.toList_zipIdx]
    · exact H.elim
theorem ev_val (he : EnvR ρ st a.tmps) {x : Operand} {v : Value} (h : st.ev x = .val v) : a.eval x = v := by
  have := ev_spec he x; rw [h] at this; exact this

def LocR (ρ : Nat → Nat) (st : St) (w : World) : Prop := ∀ l cs t, st.L l = some (cs, t) → w.heap[ρ l]? = some (.cells cs.toArray t (0, 0))
def QSpec (P : Program) (o : Oper) (st : St) (h hl : Hp) (K : SV → St → Hp → Prop) (a : Act) (ρ : Nat → Nat) : Prop :=
  ∃ sv v, K sv st h ∧ SVr ρ st.n sv v ∧ ∀ w, Holds hl w → LocR ρ st w → (execOp a.eval o).run P w = .ok (.value v) w
theorem HeapR.locR (hh : HeapR w0 h0 ρ st h w) : LocR ρ st w := fun l cs t e => (hh.loc l cs t e).1
theorem QSpec.wp {o : Oper} (hq : QSpec P o st h hl K a ρ) (hh : HeapR w0 h0 ρ st h w) (hl' : Holds hl w) (hn : Nx w0 h0 ρ st a o.dst K next) : o.wp P a w next Q := by
  obtain ⟨sv, v, hk, hs, hr⟩ := hq
  exact wp_value (hr w hl' hh.locR) (hn.pure hk hs hh)
theorem op_pick {c x y : Operand} (hW : opW P H ⟨dst, .pick c x y, ty, pos, after, guard⟩ st h hl K) (he : EnvR ρ st a.tmps) : QSpec P ⟨dst, (.pick c x y), ty, pos, after, guard⟩ st h hl K a ρ := by
  simp only [opW] at hW
  have hW := evV_spec he hW
  split at hW
  · rename_i cv ec
    have hrun : ∀ w, (execOp a.eval ⟨dst, .pick c x y, ty, pos, after, guard⟩).run P w = .ok (.value (if cv = true then a.eval x else a.eval y)) w := fun w => by
      simp only [execOp, Sem.run_bind, ec, asBool, Sem.run_pure, Result.andThen_ok]
    split at hW
    · rename_i bx bye e1 e2
      refine ⟨_, _, hW, ?_, fun w _ _ => hrun w⟩
      rw [ev_val he e1, ev_val he e2]
      cases cv <;> rfl
    · cases cv
      · exact ⟨_, _, hW, ev_spec he y, fun w _ _ => hrun w⟩
      · exact ⟨_, _, hW, ev_spec he x, fun w _ _ => hrun w⟩
  · exact hW.elim
theorem zeroL_spec {P : Program} {t : TypeId} (h : zeroLOk P t = true) : ∃ v, zeroT P t = some v ∧ zeroL P t = cellsOfV v ∧ (cellsOfV v).length = szT P t := by
  unfold zeroLOk at h
  unfold zeroL
  cases e : zeroT P t with
  | none => rw [e] at h; cases h
  | some v => rw [e] at h; exact ⟨v, rfl, rfl, Nat.eq_of_beq_eq_true h⟩
theorem setL_length : ∀ (us vs : List Value) (o : Nat), (setL vs o us).length = vs.length
  | [], _, _ => rfl
  | u :: us, vs, o => by rw [setL, setL_length us]; simp
theorem partsB_spec (he : EnvR ρ st a.tmps) {n : Nat} {place : Nat → Option (Nat × Nat)} : ∀ {ps : List (Nat × Operand)} {cells : List Value} {F : List Value → Prop}, cells.length = n → partsB P st n place cells ps F →
    ∃ cs, F cs ∧ Instr.fill place cells.toArray (ps.map fun (i, x) => (i, a.eval x)) = some cs.toArray
  | [], cells, F, _, H => ⟨cells, H, rfl⟩
  | (i, x) :: ps, cells, F, hl, H => by
    unfold partsB at H
    split at H
    · rename_i off size e
      have H := evV_spec he H
      cases e4 : Nat.ble (off + size) n with
      | false => rw [e4] at H; exact H.elim
      | true =>
        rw [e4] at H
        obtain ⟨e3, H⟩ := H
        have e4 := Nat.le_of_ble_eq_true e4
        have hlen : (setL cells off (cellsOfV (a.eval x))).length = n := by rw [setL_length]; exact hl
        obtain ⟨cs, h1, h2⟩ := partsB_spec he (ps := ps) hlen H
        refine ⟨cs, h1, ?_⟩
        simp only [List.map_cons, Instr.fill, e]
        have hsz : (a.eval x).cells.size = (cellsOfV (a.eval x)).length := by rw [← cells_toList]; simp
        rw [if_neg (by rw [hsz]; simp; omega), ← h2]
        congr 1
        rw [← setL_eq]
        have := fold_setL off (cellsOfV (a.eval x)) cells.toArray 0
        rw [Nat.add_zero] at this
        rw [← this, ← cells_toList, ← Array.foldl_toList, Array.toList_zipIdx]
    · exact H.elim
theorem op_alloc {e : TypeId} (hW : opW P H ⟨dst, .alloc e, ty, pos, after, guard⟩ st h hl K) (hh : HeapR w0 h0 ρ st h w) (hn : Nx w0 h0 ρ st a dst K next) : (Oper.mk dst (.alloc e) ty pos after guard).wp P a w next Q := by
  simp only [opW] at hW
  cases eb : bigT P e with
  | some nk =>
    obtain ⟨n, k⟩ := nk
    rw [eb] at hW
    simp only [] at hW
    cases ez : zeroBig P e n k with
    | false => rw [ez] at hW; exact hW.elim
    | true =>
      rw [ez] at hW
      have hW : newH h (.cells (bigV k (List.replicate n 0)).toArray e (0, 0)) fun b h' => K (.ptr b 0) st h' := hW
      unfold zeroBig at ez
      split at ez
      · rename_i z hz
        obtain ⟨e1, e2⟩ := Bool.and_eq_true_iff.1 ez
        obtain ⟨e3, e4⟩ := Bool.and_eq_true_iff.1 e1
        have e5 := isZeros_eq e2
        rw [Nat.eq_of_beq_eq_true e4] at e5
        rw [← e5] at hW
        have hrun : (execOp a.eval ⟨dst, .alloc e, ty, pos, after, guard⟩).run P w = .ok (.value (.pointer (some ⟨w.heap.size, 0, none⟩))) { w with heap := w.heap.push (.cells (cellsOfV z).toArray e (0, 0)) } := by
          refine run_v ?_
          simp only [Instr.alloc, Sem.run_bind, run_zero hz, Result.andThen_ok, newVar, newRow, run_newObj, Sem.run_pure, ← cells_toList]
        refine wp_value hrun ?_
        exact hn _ _ _ _ _ ρ (hW w.heap.size (hh.holds.fresh (Nat.le_refl _))) rfl (hh.push rfl rfl rfl rfl) (Ext.refl _ _) rfl
      · cases ez
  | none =>
  rw [eb] at hW
  simp only [] at hW
  cases eB : blobT P e with
  | true =>
    rw [eB] at hW
    simp only [cond_true] at hW
    cases ez : zeroLOk P e with
    | false => rw [ez] at hW; exact hW.elim
    | true =>
      rw [ez] at hW
      simp only [cond_true] at hW
      obtain ⟨z, hz, e1, _⟩ := zeroL_spec ez
      rw [e1] at hW
      have hrun : (execOp a.eval ⟨dst, .alloc e, ty, pos, after, guard⟩).run P w = .ok (.value (.pointer (some ⟨w.heap.size, 0, none⟩))) { w with heap := w.heap.push (.cells (cellsOfV z).toArray e (0, 0)) } := by
        refine run_v ?_
        simp only [Instr.alloc, Sem.run_bind, run_zero hz, Result.andThen_ok, newVar, newRow, run_newObj, Sem.run_pure, ← cells_toList]
      refine wp_value hrun ?_
      exact hn _ _ _ _ _ ρ (hW w.heap.size (hh.holds.fresh (Nat.le_refl _))) rfl (hh.push rfl rfl rfl rfl) (Ext.refl _ _) rfl
  | false =>
  rw [eB] at hW
  simp only [cond_false] at hW
  obtain ⟨z, hz, _, hW⟩ := zeroCs_spec hW
  have hrun : (execOp a.eval ⟨dst, .alloc e, ty, pos, after, guard⟩).run P w = .ok (.value (.pointer (some ⟨w.heap.size, 0, none⟩))) { w with heap := w.heap.push (.cells (cellsOfV z).toArray e (0, 0)) } := by
    refine run_v ?_
    simp only [Instr.alloc, Sem.run_bind, run_zero hz, Result.andThen_ok, newVar, newRow, run_newObj, Sem.run_pure, ← cells_toList]
  refine wp_value hrun ?_
  cases dst with
  | none => exact hW.elim
  | some d =>
    simp only [] at hW
    cases hd : H.loc d with
    | true =>
      rw [hd] at hW
      exact hn _ _ _ _ _ _ hW ⟨by simp [St.newL], by simp⟩ (hh.newL _ _) (Ext.newL _ _ _ _) rfl
    | false =>
      rw [hd] at hW
      exact hn _ _ _ _ _ ρ (hW w.heap.size (hh.holds.fresh (Nat.le_refl _))) rfl (hh.push rfl rfl rfl rfl) (Ext.refl _ _) rfl
theorem op_box {e : TypeId} {x : Operand} (hW : opW P H ⟨dst, .box e x, ty, pos, after, guard⟩ st h hl K) (he : EnvR ρ st a.tmps) (hh : HeapR w0 h0 ρ st h w) (hn : Nx w0 h0 ρ st a dst K next) : (Oper.mk dst (.box e x) ty pos after guard).wp P a w next Q := by
  simp only [opW] at hW
  have hW := evV_spec he hW
  have hrun : (execOp a.eval ⟨dst, .box e x, ty, pos, after, guard⟩).run P w = .ok (.value (.pointer (some ⟨w.heap.size, 0, none⟩))) { w with heap := w.heap.push (.cells (cellsOfV (a.eval x)).toArray e (0, 0)) } := by
    refine run_v ?_
    simp only [Instr.box, Sem.run_bind, Result.andThen_ok, newVar, newRow, run_newObj, Sem.run_pure, ← cells_toList]
  refine wp_value hrun ?_
  cases dst with
  | none => exact hW.elim
  | some d =>
    simp only [] at hW
    cases hd : H.loc d with
    | true =>
      rw [hd] at hW
      exact hn _ _ _ _ _ _ hW ⟨by simp [St.newL], by simp⟩ (hh.newL _ _) (Ext.newL _ _ _ _) rfl
    | false =>
      rw [hd] at hW
      exact hn _ _ _ _ _ ρ (hW w.heap.size (hh.holds.fresh (Nat.le_refl _))) rfl (hh.push rfl rfl rfl rfl) (Ext.refl _ _) rfl
theorem mapM_places {P : Program} : ∀ (fs : List Field), (fs.all fun f => okT P f.type) = true → fs.mapM (fun f => (P.info? f.type).map fun i => (f.offset, i.size)) = some (fs.map fun f => (f.offset, szT P f.type))
  | [], _ => rfl
  | f :: fs, h => by
    simp only [List.all_cons, Bool.and_eq_true] at h
    simp only [List.mapM_cons, okT_some h.1, mapM_places fs h.2, Option.map_some]
    rfl
theorem op_build {t : TypeId} {ps : Array (Nat × Operand)} (hW : opW P H ⟨dst, .build t ps, ty, pos, after, guard⟩ st h hl K) (he : EnvR ρ st a.tmps) : QSpec P ⟨dst, (.build t ps), ty, pos, after, guard⟩ st h hl K a ρ := by
  simp only [opW] at hW
  cases eB : blobT P t with
  | true =>
    rw [eB] at hW
    simp only [cond_true] at hW
    cases ez : zeroLOk P t with
    | false => rw [ez] at hW; exact hW.elim
    | true =>
    rw [ez] at hW
    simp only [Bool.not_true, cond_false] at hW
    obtain ⟨z, hz, e1, e2⟩ := zeroL_spec ez
    have hI := okT_some (okT_of_zero hz)
    have hz' : (tinfo P t).zero = some z := hz
    have hmap : (ps.map fun (i, x) => (i, a.eval x)).toList = ps.toList.map fun (i, x) => (i, a.eval x) := by simp
    have hzc : z.cells = (cellsOfV z).toArray := by rw [← cells_toList]
    split at hW
    · rename_i fs e
      cases e3 : (fs.toList.all fun f => okT P f.type) with
      | false => rw [e3] at hW; exact hW.elim
      | true =>
        rw [e3] at hW
        simp only [Bool.not_true, cond_false] at hW
        obtain ⟨cs, h1, h2⟩ := partsB_spec he (by rw [e1]; exact e2) hW
        refine ⟨_, _, h1, rfl, fun w _ _ => run_v (run_build w t _ cs.toArray ?_)⟩
        unfold Program.built
        rw [hI, tdesc_some e (by simp)]
        simp only [hz', mapM_places _ e3, hmap, hzc]
        rw [← h2, e1]
        congr 1
        funext i
        simp
    · rename_i n e' e
      cases e3 : okT P e' with
      | false => rw [e3] at hW; exact hW.elim
      | true =>
        rw [e3] at hW
        simp only [Bool.not_true, cond_false] at hW
        obtain ⟨cs, h1, h2⟩ := partsB_spec he (by rw [e1]; exact e2) hW
        refine ⟨_, _, h1, rfl, fun w _ _ => run_v (run_build w t _ cs.toArray ?_)⟩
        unfold Program.built
        rw [hI, tdesc_some e (by simp)]
        simp only [hz', okT_some e3, hmap, hzc]
        rw [e1] at h2; exact h2
    · exact hW.elim
  | false =>
  rw [eB] at hW
  simp only [cond_false] at hW
  obtain ⟨z, hz, _, hW⟩ := zeroCs_spec hW
  have hI := okT_some (okT_of_zero hz)
  have hz' : (tinfo P t).zero = some z := hz
  have hmap : (ps.map fun (i, x) => (i, a.eval x)).toList = ps.toList.map fun (i, x) => (i, a.eval x) := by simp
  have hzc : z.cells = (cellsOfV z).toArray := by rw [← cells_toList]
  split at hW
  · rename_i fs e
    cases e2 : (fs.toList.all fun f => okT P f.type) with
    | false => rw [e2] at hW; exact hW.elim
    | true =>
      rw [e2] at hW
      simp only [Bool.not_true, cond_false] at hW
      obtain ⟨cs, h1, h2⟩ := partsW_spec he hW
      refine ⟨_, _, h1, rfl, fun w _ _ => run_v (run_build w t _ cs.toArray ?_)⟩
      unfold Program.built
      rw [hI, tdesc_some e (by simp)]
      simp only [hz', mapM_places _ e2, hmap, hzc]
      rw [← h2]
      congr 1
      funext i
      simp
  · rename_i n e' e
    cases e2 : okT P e' with
    | false => rw [e2] at hW; exact hW.elim
    | true =>
      rw [e2] at hW
      simp only [Bool.not_true, cond_false] at hW
      obtain ⟨cs, h1, h2⟩ := partsW_spec he hW
      refine ⟨_, _, h1, rfl, fun w _ _ => run_v (run_build w t _ cs.toArray ?_)⟩
      unfold Program.built
      rw [hI, tdesc_some e (by simp)]
      simp only [hz', okT_some e2, hmap, hzc]
      exact h2
  · exact hW.elim
theorem flat_get {z : List Value} {m : Nat} (hz : z.length = m) : ∀ len, ((Array.range (len * m)).map (fun i => z.toArray[i % z.toArray.size]!)) = (List.replicate len z).flatten.toArray := by
  intro len
  have := zeroCells_list z.toArray len
  apply Array.ext'
  rw [← this]
  simp [Builtin.zeroCells, hz]
theorem op_buildSlice {t : TypeId} {len : Nat} {ps : Array (Nat × Operand)} (hW : opW P H ⟨dst, .buildSlice t len ps, ty, pos, after, guard⟩ st h hl K) (he : EnvR ρ st a.tmps) (hh : HeapR w0 h0 ρ st h w) (hn : Nx w0 h0 ρ st a dst K next) : (Oper.mk dst (.buildSlice t len ps) ty pos after guard).wp P a w next Q := by
  simp only [opW] at hW
  split at hW
  · rename_i e hd
    cases e2 : (Nat.blt (len * szT P e) 16777216 && Nat.blt 0 (szT P e)) with
    | false => simp only [e2] at hW; exact hW.elim
    | true =>
      simp only [e2, cond_true] at hW
      obtain ⟨e3, e4⟩ := Bool.and_eq_true_iff.1 e2
      have e3 : len * szT P e < 16777216 := Nat.le_of_ble_eq_true e3
      have e4 : 0 < szT P e := Nat.le_of_ble_eq_true e4
      have hW : ∃ z, zeroT P e = some z ∧ (cellsOfV z).length = szT P e ∧ ∃ cs : List Value, (newH h (.cells cs.toArray e (0, 0)) fun b h' => K (.val (.slice (some ⟨b, 0, none⟩) len len)) st h') ∧
          Instr.fill (fun i => some (i * szT P e, szT P e)) (List.replicate len (cellsOfV z)).flatten.toArray (ps.toList.map fun (i, x) => (i, a.eval x)) = some cs.toArray := by
        cases eB : blobT P e with
        | true =>
          rw [eB] at hW
          simp only [cond_true] at hW
          cases ez : zeroLOk P e with
          | false => rw [ez] at hW; exact hW.elim
          | true =>
            rw [ez] at hW
            simp only [Bool.not_true, cond_false] at hW
            obtain ⟨z, hz, f1, f2⟩ := zeroL_spec ez
            have hln : (zeroRow P e len).length = len * szT P e := by
              unfold zeroRow; rw [f1]; simp [f2]
            obtain ⟨cs, h1, h2⟩ := partsB_spec he hln hW
            refine ⟨z, hz, f2, cs, h1, ?_⟩
            unfold zeroRow at h2; rw [f1] at h2; exact h2
        | false =>
          rw [eB] at hW
          simp only [cond_false] at hW
          obtain ⟨z, hz, hzl, hW⟩ := zeroCs_spec hW
          obtain ⟨cs, h1, h2⟩ := partsW_spec he hW
          exact ⟨z, hz, hzl, cs, h1, h2⟩
      obtain ⟨z, hz, hzl, cs, h1, h2⟩ := hW
      have hmap : (ps.map fun (i, x) => (i, a.eval x)).toList = ps.toList.map fun (i, x) => (i, a.eval x) := by simp
      have hzc : z.cells = (cellsOfV z).toArray := by rw [← cells_toList]
      have hrun : (execOp a.eval ⟨dst, .buildSlice t len ps, ty, pos, after, guard⟩).run P w = .ok (.value (.slice (some ⟨w.heap.size, 0, none⟩) len len)) { w with heap := w.heap.push (.cells cs.toArray e (0, 0)) } := by
        refine run_v ?_
        unfold Instr.buildSlice
        simp only [Sem.run_bind, run_under (tdesc_some hd (by simp)), Result.andThen_ok, run_size (okT_of_zero hz)]
        rw [if_neg (by omega)]
        by_cases h0 : len * szT P e = 0
        · have hlen : len = 0 := by
            rcases Nat.mul_eq_zero.1 h0 with h | h
            · exact h
            · omega
          have hfill : (Array.range (len * szT P e)).map (fun x => (#[] : Array Value)[x % (#[] : Array Value).size]!) = (List.replicate len (cellsOfV z)).flatten.toArray := by
            rw [hlen]; simp
          rw [if_pos h0]
          simp only [Sem.run_bind, Sem.run_pure, Result.andThen_ok, hfill, hmap, h2, newRow, run_newObj]
        · have hfill : (Array.range (len * szT P e)).map (fun x => z.cells[x % z.cells.size]!) = (List.replicate len (cellsOfV z)).flatten.toArray := by
            rw [hzc]; exact flat_get hzl len
          rw [if_neg h0]
          simp only [Sem.run_bind, run_zero hz, Sem.run_pure, Result.andThen_ok, hfill, hmap, h2, newRow, run_newObj]
      refine wp_value hrun ?_
      exact hn _ _ _ _ _ ρ (h1 w.heap.size (hh.holds.fresh (Nat.le_refl _))) rfl (hh.push rfl rfl rfl rfl) (Ext.refl _ _) rfl
  · exact hW.elim
theorem op_load {t : TypeId} {x : Operand} (hW : opW P H ⟨dst, .load t x, ty, pos, after, guard⟩ st h hl K) (he : EnvR ρ st a.tmps) : QSpec P ⟨dst, (.load t x), ty, pos, after, guard⟩ st h hl K a ρ := by
  simp only [opW] at hW
  rcases at_spec hW (ev_spec he x) with ⟨l, o, e1, e2, e3, hW⟩ | ⟨b, o, e3, hW⟩
  · simp only [] at hW
    split at hW
    · rename_i cs u e4
      obtain ⟨v, hW, hr⟩ := loadL_spec (b := ρ l) (u := u) hW
      refine ⟨_, v, hW, rfl, fun w _ hlr => run_v ?_⟩
      rw [e3]; exact hr w (hlr l cs u e4)
    · exact hW.elim
  · have hW : loadH P t hl b o fun v => K (.val v) st h := by
      simp only [] at hW
      cases ei : (ifcT P t && !Nat.beq H.ifc 0) with
      | false => rw [ei] at hW; exact hW
      | true =>
        rw [ei] at hW
        obtain ⟨ad, e4, hk⟩ := hW
        have hi := (Bool.and_eq_true_iff.1 ei).1
        unfold ifcT at hi
        split at hi
        · rename_i ms ed
          have e5 : aggT P t = false := by unfold aggT; rw [ed]
          have e6 : okU P t = true := by unfold okU; rw [tdesc_some ed (by simp)]; rfl
          have e7 : bigT P t = none := by unfold bigT; rw [ed]
          have e8 : blobT P t = false := by unfold blobT; rw [e5]; rfl
          unfold loadH
          rw [e7]
          simp only []
          rw [e8, e5, e6]
          simp only [cond_true, cond_false]
          rw [ed]
          exact ⟨_, e4, hk⟩
        · cases hi
    obtain ⟨v, hW, hr⟩ := loadH_spec hW
    refine ⟨_, v, hW, rfl, fun w hw _ => run_v ?_⟩
    rw [e3]; exact hr w hw
theorem run_u {P : Program} {s : Sem Unit} {w w' : World} (h : s.run P w = .ok () w') : (do s; pure Next.skip : Sem Next).run P w = .ok .skip w' := by
  rw [Sem.run_bind, h]; rfl
theorem op_store {t : TypeId} {y x : Operand} (hW : opW P H ⟨dst, .store t y x, ty, pos, after, guard⟩ st h hl K) (he : EnvR ρ st a.tmps) (hh : HeapR w0 h0 ρ st h w) (hn : Nx w0 h0 ρ st a dst K next) : (Oper.mk dst (.store t y x) ty pos after guard).wp P a w next Q := by
  simp only [opW] at hW
  have hW := evV_spec he hW
  cases eb : (bif blobT P t then some (0, IntKind.u8) else bigT P t) with
  | some nk =>
    rw [eb] at hW
    simp only [] at hW
    cases g1 : okT P t with
    | false => rw [g1] at hW; exact hW.elim
    | true =>
      rw [g1] at hW
      obtain ⟨g2, hp, hW⟩ := hW
      rcases at_spec hW (ev_spec he y) with ⟨l, o, e1, e2, e3, hW⟩ | ⟨b, o, e3, hW⟩
      · exact hW.elim
      · simp only [] at hW
        obtain ⟨cs, u, lo, hi, k1, k2, k3, hW⟩ := storeH_elim hW
        refine wp_unit (run_u ?_) (hn _ _ _ _ _ ρ hW rfl (hh.setB k1 _) (Ext.refl _ _) rfl)
        rw [e3]
        exact run_storeVar g1 g2 (hh.holds _ _ k1) k2 k3 hp
  | none =>
  rw [eb] at hW
  simp only [] at hW
  cases e0 : (okT P t && Nat.beq (cellsOfV (a.eval x)).length (szT P t)) with
  | false => rw [e0] at hW; exact hW.elim
  | true =>
    rw [e0] at hW
    simp only [cond_true] at hW
    obtain ⟨g1, g2⟩ := Bool.and_eq_true_iff.1 e0
    have g2 := Nat.eq_of_beq_eq_true g2
    rcases at_spec hW (ev_spec he y) with ⟨l, o, e1, e2, e3, hW⟩ | ⟨b, o, e3, hW⟩
    · simp only [] at hW
      split at hW
      · rename_i cs u e4
        cases e5 : Nat.ble (o + (cellsOfV (a.eval x)).length) cs.length with
        | false => rw [e5] at hW; exact hW.elim
        | true =>
          rw [e5] at hW
          have e5 := Nat.le_of_ble_eq_true e5
          obtain ⟨hp, hW⟩ := plainW_spec hW
          refine wp_unit (w' := w.setB (ρ l) (.cells (setL cs o (cellsOfV (a.eval x))).toArray u (0, 0))) (run_u ?_) (hn _ _ _ _ _ ρ hW rfl (hh.setL e4) Ext.setL rfl)
          rw [e3]
          rw [← setL_eq]
          exact run_storeVar g1 g2 (hh.loc l cs u e4).1 (by simpa using e5) (.inl (Nat.zero_le _)) hp
      · exact hW.elim
    · simp only [] at hW
      obtain ⟨hp, hW⟩ := plainW_spec hW
      obtain ⟨cs, u, lo, hi, k1, k2, k3, hW⟩ := storeH_elim hW
      refine wp_unit (run_u ?_) (hn _ _ _ _ _ ρ hW rfl (hh.setB k1 _) (Ext.refl _ _) rfl)
      rw [e3]
      exact run_storeVar g1 g2 (hh.holds _ _ k1) k2 k3 hp
theorem op_nilCheck {x : Operand} (hW : opW P H ⟨dst, .nilCheck x, ty, pos, after, guard⟩ st h hl K) (he : EnvR ρ st a.tmps) : QSpec P ⟨dst, (.nilCheck x), ty, pos, after, guard⟩ st h hl K a ρ := by
  simp only [opW] at hW
  have hx := ev_spec he x
  split at hW
  · rename_i b off e
    rw [e] at hx
    have hx : a.eval x = _ := hx
    exact ⟨_, a.eval x, hW, hx, fun w _ _ => by simp only [execOp, hx]; rfl⟩
  · rename_i l off e
    rw [e] at hx
    exact ⟨_, a.eval x, hW, hx, fun w _ _ => by simp only [execOp, hx.2]; rfl⟩
  · rename_i p e
    rw [e] at hx
    have hx : a.eval x = _ := hx
    obtain ⟨b, off, rfl, hW⟩ := hW
    exact ⟨_, a.eval x, hW, hx, fun w _ _ => by simp only [execOp, hx]; rfl⟩
  · rename_i t v e
    rw [e] at hx
    have hx : a.eval x = _ := hx
    exact ⟨_, a.eval x, hW, hx, fun w _ _ => by simp only [execOp, hx]; rfl⟩
  · rename_i f fst cap e
    rw [e] at hx
    have hx : a.eval x = _ := hx
    exact ⟨_, a.eval x, hW, hx, fun w _ _ => by simp only [execOp, hx]; rfl⟩
  · exact hW.elim
theorem op_makeFunc {fn : _root_.Go.Fn} {first captured : Array Operand} (hW : opW P H ⟨dst, .makeFunc fn first captured, ty, pos, after, guard⟩ st h hl K) (he : EnvR ρ st a.tmps) : QSpec P ⟨dst, (.makeFunc fn first captured), ty, pos, after, guard⟩ st h hl K a ρ := by
  simp only [opW] at hW
  cases fn with
  | func f =>
    have hW := evVs_spec he hW
    have hW := evVs_spec he hW
    refine ⟨_, _, hW, rfl, fun w _ _ => run_v ?_⟩
    unfold Instr.makeFunc
    have e : ∀ xs : Array Operand, xs.map a.eval = (xs.toList.map a.eval).toArray := fun xs => by apply Array.toList_inj.1; rw [Array.toList_map]
    rw [e first, e captured]
    rfl
  | _ => exact hW.elim
theorem op_makeInterface {t : TypeId} {x : Operand} (hW : opW P H ⟨dst, .makeInterface t x, ty, pos, after, guard⟩ st h hl K) (he : EnvR ρ st a.tmps) : QSpec P ⟨dst, (.makeInterface t x), ty, pos, after, guard⟩ st h hl K a ρ := by
  simp only [opW] at hW
  split at hW
  · exact hW.elim
  · exact hW.elim
  · rename_i h1 h2
    have hW := evV_spec he hW
    have hu : P.underlying t = some (tdesc P t) := tdesc_some rfl h2
    refine ⟨_, _, hW, rfl, fun w _ _ => run_v ?_⟩
    unfold Instr.makeInterface
    rw [Sem.run_bind, run_under hu]
    simp only [Result.andThen_ok]
    cases e : tdesc P t <;> first | rfl | exact absurd e (h1 _)
theorem at_place {s : SV} {v : Value} {F : Pl → Prop} (hW : s.at F) (r : SVr ρ st.n s v) : ∃ pl, F pl ∧ ∃ b o, v = .pointer (some ⟨b, o, none⟩) ∧ ∀ n, SVr ρ st.n (pl.sv n) (.pointer (some ⟨b, o + n, none⟩)) := by
  rcases at_spec hW r with ⟨l, o, _, e2, e3, hW⟩ | ⟨b, o, e3, hW⟩
  · exact ⟨_, hW, ρ l, o, e3, fun n => ⟨e2, rfl⟩⟩
  · exact ⟨_, hW, b, o, e3, fun n => rfl⟩
theorem op_fieldAddr {s : TypeId} {x : Operand} {f : Nat} (hW : opW P H ⟨dst, .fieldAddr s x f, ty, pos, after, guard⟩ st h hl K) (he : EnvR ρ st a.tmps) : QSpec P ⟨dst, (.fieldAddr s x f), ty, pos, after, guard⟩ st h hl K a ρ := by
  simp only [opW] at hW
  split at hW
  · rename_i fs e
    split at hW
    · rename_i fd e1
      cases e2 : Nat.beq (szT P fd.type) 0 with
      | true => rw [e2] at hW; exact hW.elim
      | false =>
        rw [e2] at hW
        simp only [cond_false] at hW
        have hz : szT P fd.type ≠ 0 := fun h => by rw [h] at e2; cases e2
        obtain ⟨pl, hW, b, o, e3, e4⟩ := at_place hW (ev_spec he x)
        have hf : fs[f]? = some fd := by simpa using e1
        refine ⟨_, _, hW, e4 _, fun w _ _ => run_v ?_⟩
        simp only [Instr.fieldAt, Sem.run_bind, run_under (tdesc_some e (by simp)), Result.andThen_ok, hf, e3, Instr.sureAddr, Sem.run_pure, fieldPlace, run_size (okT_of_sz hz), if_neg hz, add_mk]
    · exact hW.elim
  · exact hW.elim
theorem op_indexAddr {t : TypeId} {x i : Operand} (hW : opW P H ⟨dst, .indexAddr t x i, ty, pos, after, guard⟩ st h hl K) (he : EnvR ρ st a.tmps) : QSpec P ⟨dst, (.indexAddr t x i), ty, pos, after, guard⟩ st h hl K a ρ := by
  simp only [opW] at hW
  have hW := evV_spec he hW
  split at hW
  · rename_i e ed
    cases e1 : okT P e with
    | false => rw [e1] at hW; exact hW.elim
    | true =>
      rw [e1] at hW
      have hW := evV_spec he hW
      split at hW
      · rename_i ad len cap ex
        obtain ⟨k, n, ei, h1, h2, b, off, hx, hK⟩ := idxW_spec hW
        subst hx
        refine ⟨_, _, hK, rfl, fun w _ _ => run_v ?_⟩
        simp [Instr.indexAt, asIntOf, ei, ex, run_under (tdesc_some ed (by simp)), h1, h2, run_size e1, add_mk]
      · exact hW.elim
  · rename_i len e ed
    cases e1 : okT P e with
    | false => rw [e1] at hW; exact hW.elim
    | true =>
      rw [e1] at hW
      simp only [cond_true] at hW
      obtain ⟨k, n, ei, h1, h2, hW⟩ := idxW_spec hW
      rw [idxMul_eq] at hW
      obtain ⟨pl, hW, b, o, e3, e4⟩ := at_place hW (ev_spec he x)
      refine ⟨_, _, hW, e4 _, fun w _ _ => run_v ?_⟩
      simp [Instr.indexAt, asIntOf, ei, e3, Instr.sureAddr, run_under (tdesc_some ed (by simp)), h1, h2, run_size e1, add_mk]
  · exact hW.elim
theorem byteAt_get {s : ByteArray} {n : Nat} (h : n < s.size) : ∃ b : UInt8, s[n]? = some b ∧ byteAt s n = (b.toNat : Nat) := by
  refine ⟨s[n], by simp [h], ?_⟩
  have h' : n < s.data.toList.length := by simpa using h
  unfold byteAt
  rw [List.getElem?_eq_getElem h']
  rfl
theorem part_cells {t : TypeId} {cs : Array Value} {o : Nat} {F : Value → Prop} (H : loadL P t cs.toList o F) : ∃ v, F v ∧ ∀ w : World, (part t cs o).run P w = .ok v w := by
  unfold loadL at H
  cases e : aggT P t with
  | true =>
    rw [e] at H; simp only [cond_true] at H
    cases e2 : Nat.ble (o + szT P t) cs.toList.length with
    | false => rw [e2] at H; exact H.elim
    | true =>
      rw [e2] at H; simp only [cond_true] at H
      have hu : ∃ d, P.underlying t = some d := by
        unfold aggT at e
        cases hd : tdesc P t <;> rw [hd] at e <;> first | (cases e; done) | exact ⟨_, tdesc_some hd (by simp)⟩
      obtain ⟨d, hu⟩ := hu
      refine ⟨_, H, fun w => ?_⟩
      unfold part
      rw [Sem.run_bind, run_agg hu, e]
      simp only [Result.andThen_ok, if_true, Sem.run_bind, run_size (okT_of_under hu), Sem.run_pure]
      congr 2
      apply Array.toList_inj.1
      rw [Array.toList_extract, List.toList_toArray, List.extract_eq_take_drop]
      congr 1; omega
  | false =>
    rw [e] at H; simp only [cond_false] at H
    cases e2 : okU P t with
    | false => rw [e2] at H; exact H.elim
    | true =>
      rw [e2] at H; simp only [cond_true] at H
      split at H
      · rename_i v ev
        refine ⟨_, H, fun w => ?_⟩
        have hv : cs[o]? = some v := by simpa using ev
        simp [part, run_agg (okU_some e2), e, hv]
      · exact H.elim
theorem cellsKs_spec {cs : List Value} : ∀ {ks : List Kd} {o : Nat} {F : List Value → Prop}, cellsKs cs o ks F → ∃ vs, vs.length = ks.length ∧ (∀ j (hj : j < vs.length), cs[o + j]? = some vs[j]) ∧ F vs
  | [], _, _, H => ⟨[], rfl, fun j hj => by simp at hj, H⟩
  | _ :: _, o, _, H => by
    obtain ⟨v, hv, H⟩ := Kd.ex_spec H
    obtain ⟨vs, e, hc, H⟩ := cellsKs_spec H
    refine ⟨v :: vs, by simp [e], fun j hj => ?_, H⟩
    cases j with
    | zero => simpa [lget] using hv
    | succ j => rw [show o + (j + 1) = o + 1 + j by omega]; simpa using hc j (by simpa using hj)
theorem part_take {P : Program} {t : TypeId} (e : aggT P t = true) (cs : Array Value) (o : Nat) (w : World) : (part t cs o).run P w = .ok (.agg ((cs.toList.drop o).take (szT P t)).toArray) w := by
  have hu : ∃ d, P.underlying t = some d := by
    unfold aggT at e
    cases hd : tdesc P t <;> rw [hd] at e <;> first | (cases e; done) | exact ⟨_, tdesc_some hd (by simp)⟩
  obtain ⟨d, hu⟩ := hu
  unfold part
  rw [Sem.run_bind, run_agg hu, e]
  simp only [Result.andThen_ok, if_true, Sem.run_bind, run_size (okT_of_under hu), Sem.run_pure]
  congr 2
  apply Array.toList_inj.1
  rw [Array.toList_extract, List.toList_toArray, List.extract_eq_take_drop]
  congr 1; omega
theorem fieldB_spec {t : TypeId} {n : Nat} {cs : Array Value} {o : Nat} {F : Value → Prop} (H : fieldB P t n cs.toList o F) : ∃ v, F v ∧ ∀ w : World, (part t cs o).run P w = .ok v w := by
  unfold fieldB at H
  cases e1 : Nat.ble (o + szT P t) n with
  | false => rw [e1] at H; exact H.elim
  | true =>
  rw [e1] at H
  simp only [Bool.not_true, cond_false] at H
  have e1 := Nat.le_of_ble_eq_true e1
  obtain ⟨hn, H⟩ := H
  split at H
  · rename_i m k eb
    have ea : aggT P t = true := by
      unfold bigT at eb
      unfold aggT
      split at eb
      · rename_i hd; rw [hd]
      · cases eb
    cases e2 : Nat.beq m (szT P t) with
    | false => rw [e2] at H; exact H.elim
    | true =>
      rw [e2] at H
      obtain ⟨ns, _, e3, H⟩ := H
      have e2 := Nat.eq_of_beq_eq_true e2
      subst e2
      refine ⟨_, H, fun w => ?_⟩
      rw [part_take ea, e3]
  · cases eB : blobT P t with
    | true =>
      rw [eB] at H
      have ea : aggT P t = true := by
        unfold blobT at eB
        exact (Bool.and_eq_true_iff.1 (Bool.and_eq_true_iff.1 eB).1).1
      exact ⟨_, H, fun w => part_take ea cs o w⟩
    | false =>
      rw [eB] at H
      simp only [cond_false] at H
      cases e : aggT P t with
      | true =>
        rw [e] at H; simp only [cond_true] at H
        cases e2 : Nat.beq (kds P t).length (szT P t) with
        | false => rw [e2] at H; exact H.elim
        | true =>
          rw [e2] at H; simp only [cond_true] at H
          obtain ⟨vs, hl, hc, H⟩ := cellsKs_spec H
          refine ⟨_, H, fun w => ?_⟩
          rw [part_take e]
          have e2 := Nat.eq_of_beq_eq_true e2
          have : (cs.toList.drop o).take (szT P t) = vs := by
            refine List.ext_getElem? fun j => ?_
            by_cases hj : j < vs.length
            · rw [List.getElem?_take_of_lt (by omega), List.getElem?_drop, hc j hj, List.getElem?_eq_getElem hj]
            · rw [List.getElem?_eq_none (by simp; omega), List.getElem?_eq_none (by omega)]
          rw [this]
      | false =>
        rw [e] at H; simp only [cond_false] at H
        cases e2 : okU P t with
        | false => rw [e2] at H; exact H.elim
        | true =>
          rw [e2] at H; simp only [cond_true] at H
          obtain ⟨v, hv, H⟩ := Kd.ex_spec H
          refine ⟨_, H, fun w => ?_⟩
          have hv : cs[o]? = some v := by simpa [lget] using hv
          simp [part, run_agg (okU_some e2), e, hv]
theorem op_field {t : TypeId} {x : Operand} {f : Nat} (hW : opW P H ⟨dst, .field t x f, ty, pos, after, guard⟩ st h hl K) (he : EnvR ρ st a.tmps) : QSpec P ⟨dst, (.field t x f), ty, pos, after, guard⟩ st h hl K a ρ := by
  simp only [opW] at hW
  split at hW
  · rename_i fs ed
    split at hW
    · rename_i fd ef
      have hW := evV_spec he hW
      split at hW
      · rename_i cs ex
        have hW : ∃ v, K (.val v) st h ∧ ∀ w : World, (part fd.type cs fd.offset).run P w = .ok v w := by
          cases eB : blobT P t with
          | true => rw [eB] at hW; exact fieldB_spec hW
          | false => rw [eB] at hW; exact part_cells hW
        obtain ⟨v, hk, hr⟩ := hW
        refine ⟨_, v, hk, rfl, fun w _ _ => run_v ?_⟩
        have hf : fs[f]? = some fd := by simpa using ef
        simp only [Instr.field, Sem.run_bind, run_under (tdesc_some ed (by simp)), Result.andThen_ok, hf, ex, asAgg, Sem.run_pure, hr w]
      · exact hW.elim
    · exact hW.elim
  · exact hW.elim
theorem op_index {t : TypeId} {x i : Operand} (hW : opW P H ⟨dst, .index t x i, ty, pos, after, guard⟩ st h hl K) (he : EnvR ρ st a.tmps) : QSpec P ⟨dst, (.index t x i), ty, pos, after, guard⟩ st h hl K a ρ := by
  simp only [opW] at hW
  have hW := evV_spec he hW
  have hW := evV_spec he hW
  split at hW
  · rename_i s ed ex
    obtain ⟨k, n, ei, h1, h2, hW⟩ := idxW_spec hW
    have h2 : n < (s.size : Int) := h2
    obtain ⟨b, hb1, hb2⟩ := byteAt_get (s := s) (n := n.toNat) (by omega)
    refine ⟨_, _, hW, rfl, fun w _ _ => run_v ?_⟩
    simp [Instr.index, asIntOf, ei, ex, run_under (tdesc_some ed (by simp)), h1, hb1, hb2]
  · rename_i len e cs ed ex
    cases e1 : (aggT P e || !okU P e || !okT P e) with
    | true => rw [e1] at hW; exact hW.elim
    | false =>
      rw [e1] at hW
      simp only [cond_false] at hW
      have e2 : aggT P e = false := by cases h : aggT P e <;> simp_all
      have e3 : okU P e = true := by cases h : okU P e <;> simp_all
      have e4 : okT P e = true := by cases h : okT P e <;> simp_all
      obtain ⟨k, n, ei, h1, h2, hW⟩ := idxW_spec hW
      rw [idxMul_eq] at hW
      obtain ⟨v, ev, hW⟩ := Kd.ex_spec hW
      have hv : cs[n.toNat * szT P e]? = some v := by simpa [lget] using ev
      refine ⟨_, _, hW, rfl, fun w _ _ => run_v ?_⟩
      simp [Instr.index, asIntOf, ei, ex, run_under (tdesc_some ed (by simp)), h1, h2, run_size e4, part, run_agg (okU_some e3), e2, hv]
  · exact hW.elim
end
end Go.Gx
namespace Go.Gx

section
variable {P : Program} {H : Hints} {st : St} {h hl : Hp} {K : SV → St → Hp → Prop} {a : Act} {w : World} {next : Act → World → Prop} {Q : Exit → Act → World → Prop} {w0 : World} {h0 : Hp} {ρ : Nat → Nat}
  {dst : Option Tmp} {ty : TypeId} {pos : String} {after : Array Edge} {guard : Option (Nat × Bool)}

theorem run_sliceBound {v : Value} {top : Nat} {k : IntKind} {i : Int} (h : v = .int k i) (h0 : 0 ≤ i) (h1 : i ≤ top) (c : BoundsCode) : (Instr.sliceBound v top c).run P w = .ok i.toNat w := by
  subst h
  simp [Instr.sliceBound, asIntOf, h0, h1]
theorem run_sliceBounds {s : Bool} {len cap m n l : Nat} {lo hi mx : Option Operand}
    (hm : (mx = none ∧ m = cap) ∨ ∃ (o : Operand) (k : IntKind) (i : Int), mx = some o ∧ a.eval o = .int k i ∧ 0 ≤ i ∧ i ≤ cap ∧ m = i.toNat)
    (hh : (hi = none ∧ n = len) ∨ ∃ (o : Operand) (k : IntKind) (i : Int), hi = some o ∧ a.eval o = .int k i ∧ 0 ≤ i ∧ i ≤ m ∧ n = i.toNat)
    (hl : (lo = none ∧ l = 0) ∨ ∃ (o : Operand) (k : IntKind) (i : Int), lo = some o ∧ a.eval o = .int k i ∧ 0 ≤ i ∧ i ≤ n ∧ l = i.toNat)
    (hx : mx.isNone = true ∨ hi.isSome = true) : (Instr.sliceBounds s len cap (lo.map a.eval) (hi.map a.eval) (mx.map a.eval)).run P w = .ok (l, n, m) w := by
  unfold Instr.sliceBounds
  rcases hm with ⟨rfl, rfl⟩ | ⟨om, km, im, rfl, em, m0, m1, rfl⟩
  · rcases hh with ⟨rfl, rfl⟩ | ⟨oh, kh, ih, rfl, eh, h0, h1, rfl⟩
    · rcases hl with ⟨rfl, rfl⟩ | ⟨ol, kl, il, rfl, el, l0, l1, rfl⟩
      · rfl
      · simp only [Option.map_none, Option.map_some, Sem.run_bind, Sem.run_pure, Result.andThen_ok]
        rw [run_sliceBound el l0 l1]; rfl
    · rcases hl with ⟨rfl, rfl⟩ | ⟨ol, kl, il, rfl, el, l0, l1, rfl⟩
      · simp only [Option.map_none, Option.map_some, Sem.run_bind, Sem.run_pure, Result.andThen_ok]
        rw [run_sliceBound eh h0 h1]; rfl
      · simp only [Option.map_none, Option.map_some, Sem.run_bind, Sem.run_pure, Result.andThen_ok]
        rw [run_sliceBound eh h0 h1]
        simp only [Result.andThen_ok]
        rw [run_sliceBound el l0 l1]; rfl
  · rcases hh with ⟨rfl, rfl⟩ | ⟨oh, kh, ih, rfl, eh, h0, h1, rfl⟩
    · simp at hx
    · rcases hl with ⟨rfl, rfl⟩ | ⟨ol, kl, il, rfl, el, l0, l1, rfl⟩
      · simp only [Option.map_none, Option.map_some, Sem.run_bind, Sem.run_pure, Result.andThen_ok]
        rw [run_sliceBound em m0 m1]
        simp only [Result.andThen_ok]
        rw [run_sliceBound eh h0 h1]; rfl
      · simp only [Option.map_some, Sem.run_bind, Sem.run_pure]
        rw [run_sliceBound em m0 m1]
        simp only [Result.andThen_ok]
        rw [run_sliceBound eh h0 h1]
        simp only [Result.andThen_ok]
        rw [run_sliceBound el l0 l1]; rfl
theorem op_slice {t : TypeId} {x : Operand} {lo hi mx : Option Operand} (hW : opW P H ⟨dst, .slice t x lo hi mx, ty, pos, after, guard⟩ st h hl K) (he : EnvR ρ st a.tmps) : QSpec P ⟨dst, (.slice t x lo hi mx), ty, pos, after, guard⟩ st h hl K a ρ := by
  simp only [opW] at hW
  have hW := evV_spec he hW
  have goArr : ∀ (w : World) d, P.underlying t = some d → (∀ n e, d ≠ .array n e) → (Instr.slice t (a.eval x) (lo.map a.eval) (hi.map a.eval) (mx.map a.eval)).run P w = (Instr.sliceAt t (a.eval x) (lo.map a.eval) (hi.map a.eval) (mx.map a.eval)).run P w := fun w d hd ha => by
    unfold Instr.sliceAt
    rw [Sem.run_bind, run_under hd]
    simp only [Result.andThen_ok]
  split at hW
  · rename_i s ed ex
    split at hW
    · obtain ⟨n, hW, e1⟩ := boundW_spec he hW
      obtain ⟨l, hW, e2⟩ := boundW_spec he hW
      refine ⟨_, _, hW, rfl, fun w _ _ => run_v ?_⟩
      have hu := tdesc_some ed (by simp)
      rw [← goArr w _ hu (fun _ _ h => by cases h)]
      unfold Instr.slice
      simp only [Sem.run_bind, run_under hu, Result.andThen_ok, ex]
      have := run_sliceBounds (P := P) (w := w) (s := false) (a := a) (mx := none) (cap := s.size) (.inl ⟨rfl, rfl⟩) e1 e2 (.inl rfl)
      simp only [Option.map_none] at this ⊢
      simp only [Option.isSome_none, Bool.false_eq_true, if_false, Sem.run_bind, this, Result.andThen_ok, Sem.run_pure]
    · exact hW.elim
  · rename_i e ad len cap ed ex
    cases e0 : (okT P e && (mx.isNone || hi.isSome)) with
    | false => rw [e0] at hW; exact hW.elim
    | true =>
      rw [e0] at hW
      simp only [cond_true] at hW
      obtain ⟨g1, g2⟩ := Bool.and_eq_true_iff.1 e0
      obtain ⟨m, hW, e1⟩ := boundW_spec he hW
      obtain ⟨n, hW, e2⟩ := boundW_spec he hW
      obtain ⟨l, hW, e3⟩ := boundW_spec he hW
      refine ⟨_, _, hW, rfl, fun w _ _ => run_v ?_⟩
      have hu := tdesc_some ed (by simp)
      rw [← goArr w _ hu (fun _ _ h => by cases h)]
      unfold Instr.slice
      simp only [Sem.run_bind, run_under hu, Result.andThen_ok, ex, run_sliceBounds e1 e2 e3 (by simpa using g2), run_size g1, Sem.run_pure]
  · rename_i n e p ed ex
    cases e0 : (okT P e && mx.isNone) with
    | false => rw [e0] at hW; exact hW.elim
    | true =>
      rw [e0] at hW
      simp only [cond_true] at hW
      obtain ⟨g1, g2⟩ := Bool.and_eq_true_iff.1 e0
      have hX := hW
      obtain rfl : mx = none := by simpa using g2
      obtain ⟨b, o, rfl, hX⟩ := hX
      obtain ⟨n2, hX, e2⟩ := boundW_spec he hX
      obtain ⟨l, hX, e3⟩ := boundW_spec he hX
      refine ⟨_, _, hX, rfl, fun w _ _ => run_v ?_⟩
      have hu := tdesc_some ed (by simp)
      have := run_sliceBounds (P := P) (w := w) (s := false) (a := a) (mx := none) (cap := n) (.inl ⟨rfl, rfl⟩) e2 e3 (.inl rfl)
      simp only [Option.map_none] at this ⊢
      unfold Instr.sliceAt
      simp only [Sem.run_bind, run_under hu, Result.andThen_ok, ex, Instr.sureAddr, this, run_size g1, Sem.run_pure]
      simp only [slA]
      by_cases h0 : n = l
      · simp only [if_pos h0]
      · simp only [if_neg h0]; rfl
  · exact hW.elim
theorem quietB_spec {b : Builtin} {ats : Array TypeId} {t : TypeId} {cs : Array Bool} {args : List Value} {F : Value → Hp → Prop} (hq : quietB P b ats.toList = true) (H : builtinW P b ats.toList args h F) :
    ∃ v, F v h ∧ ∀ w, (builtin b ats t cs args.toArray).run P w = .ok (.value v) w := by
  obtain ⟨ats⟩ := ats
  simp only [] at H hq
  cases b with
  | len =>
    unfold builtinW at H
    simp only [] at H
    split at H
    · rename_i t0 ts x xs
      split at H
      · rename_i e; exact ⟨_, H, fun w => run_v (by simp [Builtin.len_, run_under (tdesc_some e (by simp)), goInt])⟩
      · rename_i e; exact ⟨_, H, fun w => run_v (by simp [Builtin.len_, run_under (tdesc_some e (by simp)), goInt])⟩
      · rename_i e; exact ⟨_, H, fun w => run_v (by simp [Builtin.len_, run_under (tdesc_some e (by simp)), goInt])⟩
      · rename_i e
        simp only [quietB, e] at hq
        cases hq
      · exact H.elim
    · exact H.elim
  | max =>
    unfold builtinW at H
    simp only [] at H
    split at H
    · rename_i k x l
      obtain ⟨v, h1, h2⟩ := maxInt_spec (P := P) H
      exact ⟨v, h1, fun w => run_v (by simpa [Builtin.max_] using h2 w)⟩
    · exact H.elim
  | min =>
    unfold builtinW at H
    simp only [] at H
    split at H
    · obtain ⟨v, h1, h2⟩ := minInt_spec (P := P) H
      exact ⟨v, h1, fun w => run_v (by simpa [Builtin.min_] using h2 w)⟩
    · exact H.elim
  | _ => cases hq
theorem quiet_spec {o : Oper} (hq : quietOp P o.op = true) (hW : opW P H o st h hl K) (he : EnvR ρ st a.tmps) : QSpec P o st h hl K a ρ := by
  obtain ⟨dst, op, ty, pos, after, guard⟩ := o
  cases op with
  | move x => exact ⟨_, a.eval x, hW, ev_spec he x, fun w _ _ => rfl⟩
  | assign x => exact ⟨_, a.eval x, hW, ev_spec he x, fun w _ _ => rfl⟩
  | pick c x y => exact op_pick hW he
  | build t ps => exact op_build hW he
  | load t x => exact op_load hW he
  | nilCheck x => exact op_nilCheck hW he
  | makeInterface t x => exact op_makeInterface hW he
  | makeFunc fn first captured => exact op_makeFunc hW he
  | fieldAddr s x f => exact op_fieldAddr hW he
  | field t x f => exact op_field hW he
  | indexAddr t x i => exact op_indexAddr hW he
  | index t x i => exact op_index hW he
  | slice t x lo hi mx => exact op_slice hW he
  | binOp op t x y yt =>
    simp only [opW] at hW
    have hW := evV_spec he hW
    have hW := evV_spec he hW
    obtain ⟨v, h1, h2⟩ := binW_spec (P := P) hW
    exact ⟨_, v, h1, rfl, fun w _ _ => run_v (h2 w)⟩
  | unOp op t x =>
    simp only [opW] at hW
    have hW := evV_spec he hW
    obtain ⟨v, h1, h2⟩ := unW_spec (P := P) hW
    exact ⟨_, v, h1, rfl, fun w _ _ => run_v (h2 w)⟩
  | convert src dst' x =>
    simp only [opW] at hW
    cases e : okU P src with
    | false => rw [e] at hW; exact hW.elim
    | true =>
      rw [e] at hW
      have hs := okU_some e
      have hW := evV_spec he hW
      simp only [quietOp] at hq
      split at hq
      · rename_i e1 e2
        unfold convW at hW
        split at hW
        · rename_i kk n ex
          rw [e2] at hW
          refine ⟨_, _, hW, rfl, fun w _ _ => run_v ?_⟩
          simp only [ex, convert, Sem.run_bind, run_under hs, run_under (tdesc_some e2 (by simp)), Result.andThen_ok, e1]
          rfl
        · rw [e2] at hW; exact hW.elim
        · rw [e1] at hW; exact hW.elim
        · exact hW.elim
      · rename_i e1 e2
        unfold convW at hW
        split at hW
        · rw [e2] at hW; exact hW.elim
        · rename_i s ex
          rw [e2] at hW
          refine ⟨_, _, hW, rfl, fun w _ _ => run_v ?_⟩
          simp only [ex, convert, Sem.run_bind, run_under hs, run_under (tdesc_some e2 (by simp)), Result.andThen_ok, e1]
          rfl
        · rw [e1] at hW; exact hW.elim
        · exact hW.elim
      · cases hq
  | extract x i =>
    simp only [opW] at hW
    have hW := evV_spec he hW
    split at hW
    · rename_i vs ex
      split at hW
      · rename_i v ev
        have ev' : vs[i]? = some v := by simpa using ev
        refine ⟨_, v, hW, rfl, fun w _ _ => run_v ?_⟩
        simp only [Instr.extract, ex, ev']; rfl
      · exact hW.elim
    · exact hW.elim
  | call c =>
    simp only [opW] at hW
    have hW := evVs_spec he hW
    have hargs : c.args.map a.eval = (c.args.toList.map a.eval).toArray := by
      apply Array.ext'
      simp
    simp only [quietOp] at hq
    cases hc : c.callee with
    | value f => rw [hc] at hq; cases hq
    | invoke r name => rw [hc] at hq; cases hq
    | builtin b =>
      rw [hc] at hW hq
      obtain ⟨v, h1, h2⟩ := quietB_spec (t := ty) (cs := c.args.map fun | .const _ => true | _ => false) hq hW
      refine ⟨_, v, h1, rfl, fun w _ _ => ?_⟩
      simp only [execOp, Sem.run_bind, resolve, hc, Sem.run_pure, Result.andThen_ok, invoke]
      rw [hargs]
      exact h2 w
  | _ => cases hq
theorem made_one (z : Array Value) (h : z.size = 1) (n : Nat) : madeCells z n = (repV n z.toList).toArray := by
  apply Array.ext'
  unfold madeCells repV
  obtain ⟨v, rfl⟩ : ∃ v, z = #[v] := by
    obtain ⟨l⟩ := z
    match l, h with
    | [v], _ => exact ⟨v, rfl⟩
  simp only [Array.toList_map, Array.toList_range]
  induction n with
  | zero => rfl
  | succ n ih => rw [List.range_succ, List.map_append, ih, List.replicate_succ', List.flatten_append]; simp [Nat.mod_one]
theorem op_makeSlice {t : TypeId} {l c : Operand} (hW : opW P H ⟨dst, .makeSlice t l c, ty, pos, after, guard⟩ st h hl K) (he : EnvR ρ st a.tmps) (hh : HeapR w0 h0 ρ st h w) (hn : Nx w0 h0 ρ st a dst K next) : (Oper.mk dst (.makeSlice t l c) ty pos after guard).wp P a w next Q := by
  simp only [opW] at hW
  have hW := evV_spec he hW
  have hW := evV_spec he hW
  split at hW
  · rename_i e kl l' kc c' e1 e2 e3
    have hW : (cond (okT P e && Nat.beq (szT P e) 1) (match zeroT P e with
      | some z => bif !Nat.beq (cellsOfV z).length 1 then False else 0 ≤ l' ∧ l' ≤ c' ∧ imul (Int.ofNat (byT P e)) c' ≤ 281474976710656 ∧ c' ≤ 9223372036854775807 ∧ newH h (.cells (repV c'.toNat (cellsOfV z)).toArray e (0, 0)) fun b h' => K (.val (.slice (some ⟨b, 0, none⟩) l'.toNat c'.toNat)) st h'
      | none => False) False) := hW
    cases eo : okT P e && Nat.beq (szT P e) 1 with
    | false => rw [eo] at hW; exact hW.elim
    | true =>
      rw [eo] at hW
      obtain ⟨o1, o2⟩ := Bool.and_eq_true_iff.1 eo
      have o2 := Nat.eq_of_beq_eq_true o2
      cases ez : zeroT P e with
      | none => rw [ez] at hW; exact hW.elim
      | some z =>
        rw [ez] at hW
        simp only [cond_true] at hW
        cases ezl : Nat.beq (cellsOfV z).length 1 with
        | false => rw [ezl] at hW; exact hW.elim
        | true =>
        rw [ezl] at hW
        have ezl := Nat.eq_of_beq_eq_true ezl
        obtain ⟨h1, h2, h3, h4, hW⟩ := hW
        have hu : P.underlying t = some (.slice e) := tdesc_some e1 (by simp)
        obtain ⟨i, hi⟩ := Option.isSome_iff_exists.1 o1
        have et : tinfo P e = i := by unfold tinfo; rw [hi]; rfl
        have hz : i.zero = some z := by rw [← et]; exact ez
        have hs : i.size = 1 := by rw [← et]; exact o2
        have hb : (i.bytes : Int) * c' ≤ 281474976710656 := by rw [← et]; exact h3
        have hrun := run_make (P := P) (w := w) t e i z hu hi hz kl kc l' c' h1 h2 hb h4
        have e9 : madeCells z.cells (c'.toNat * i.size) = (repV c'.toNat (cellsOfV z)).toArray := by
          rw [hs, Nat.mul_one, made_one z.cells (by rw [← Array.length_toList, cells_toList]; exact ezl), cells_toList]
        rw [e9] at hrun
        refine wp_value (run_v (s := Instr.makeSlice t (a.eval l) (a.eval c)) (by rw [e2, e3]; exact hrun)) ?_
        exact hn _ _ _ _ _ ρ (hW w.heap.size (hh.holds.fresh (Nat.le_refl _))) rfl (hh.push rfl rfl rfl rfl) (Ext.refl _ _) rfl
  · exact hW.elim
theorem op_makeMap {t : TypeId} {r : Option Operand} (hW : opW P H ⟨dst, .makeMap t r, ty, pos, after, guard⟩ st h hl K) (hh : HeapR w0 h0 ρ st h w) (hn : Nx w0 h0 ρ st a dst K next) : (Oper.mk dst (.makeMap t r) ty pos after guard).wp P a w next Q := by
  simp only [opW] at hW
  split at hW
  · rename_i kt et e
    cases ek : keyT P kt && r.isNone with
    | false => rw [ek] at hW; exact hW.elim
    | true =>
      rw [ek] at hW
      rw [Bool.and_eq_true] at ek
      have hr : r = none := by simpa using ek.2
      subst hr
      have hrun : (execOp a.eval ⟨dst, .makeMap t none, ty, pos, after, guard⟩).run P w = .ok (.value (.map (some w.heap.size))) { w with heap := w.heap.push (.map #[] 0) } := by
        refine run_v ?_
        simp only [Instr.makeMap, Option.map_none, Sem.run_bind, run_newObj, Result.andThen_ok, Sem.run_pure]
      exact wp_value hrun (hn _ _ _ _ _ ρ (hW w.heap.size (hh.holds.fresh (Nat.le_refl _)) (.map #[] 0) ⟨#[], 0, rfl, rfl, MapKept.stamped_empty 0, fun x hx => by simp at hx⟩) rfl (hh.push rfl rfl rfl rfl) (Ext.refl _ _) rfl)
  · exact hW.elim
theorem op_lookup {t : TypeId} {x k : Operand} {ok : Bool} (hW : opW P H ⟨dst, .lookup t x k ok, ty, pos, after, guard⟩ st h hl K) (he : EnvR ρ st a.tmps) (hh : HeapR w0 h0 ρ st h w) (hn : Nx w0 h0 ρ st a dst K next) : (Oper.mk dst (.lookup t x k ok) ty pos after guard).wp P a w next Q := by
  simp only [opW] at hW
  split at hW
  · rename_i kt et e
    cases ek : keyT P kt with
    | false => rw [ek] at hW; exact hW.elim
    | true =>
      rw [ek] at hW
      have hW := evV_spec he hW
      have hW := evV_spec he hW
      cases eo : keyOk P kt (a.eval k) with
      | false => rw [eo] at hW; exact hW.elim
      | true =>
        rw [eo] at hW
        simp only [cond_true] at hW
        split at hW
        · rename_i z r ez ex
          obtain ⟨b, o, m, rfl, hb, M, hW⟩ := hW
          obtain ⟨v, c, hl', hW⟩ := Vt.ex_spec hW
          refine wp_value (run_v ?_) (hn.pure hW rfl hh)
          rw [ex]
          exact run_lookup (tdesc_some e (by simp)) ek eo ez (hh.holds _ _ hb) M hl' ok
        · exact hW.elim
  · exact hW.elim
theorem op_mapUpdate {t : TypeId} {x k y : Operand} (hW : opW P H ⟨dst, .mapUpdate t x k y, ty, pos, after, guard⟩ st h hl K) (he : EnvR ρ st a.tmps) (hh : HeapR w0 h0 ρ st h w) (hn : Nx w0 h0 ρ st a dst K next) : (Oper.mk dst (.mapUpdate t x k y) ty pos after guard).wp P a w next Q := by
  simp only [opW] at hW
  split at hW
  · rename_i kt et e
    cases ek : keyT P kt with
    | false => rw [ek] at hW; exact hW.elim
    | true =>
      rw [ek] at hW
      have hW := evV_spec he hW
      have hW := evV_spec he hW
      have hW := evV_spec he hW
      cases eo : keyOk P kt (a.eval k) with
      | false => rw [eo] at hW; exact hW.elim
      | true =>
        rw [eo] at hW
        simp only [cond_true] at hW
        split at hW
        · rename_i r ex
          obtain ⟨b, o, m, rfl, hb, M, hW⟩ := hW
          obtain ⟨o', h1, h2⟩ := run_update (v := a.eval y) (tdesc_some e (by simp)) ek eo (hh.holds _ _ hb) M
          refine wp_unit (run_u ?_) (hn _ _ _ _ _ ρ (hW o' h2) rfl (hh.setB hb o') (Ext.refl _ _) rfl)
          rw [ex]
          exact h1
        · exact hW.elim
  · exact hW.elim
theorem opW_sound {o : Oper} (hW : opW P H o st h hl K) (he : EnvR ρ st a.tmps) (hh : HeapR w0 h0 ρ st h w) (hl' : Holds hl w) (hn : Nx w0 h0 ρ st a o.dst K next) : o.wp P a w next Q := by
  obtain ⟨dst, op, ty, pos, after, guard⟩ := o
  cases op with
  | move x => exact wp_value (v := a.eval x) rfl (hn.pure hW (ev_spec he x) hh)
  | assign x => exact wp_value (v := a.eval x) rfl (hn.pure hW (ev_spec he x) hh)
  | pick c x y => exact (op_pick hW he).wp hh hl' hn
  | alloc e => exact op_alloc hW hh hn
  | box e x => exact op_box hW he hh hn
  | build t ps => exact (op_build hW he).wp hh hl' hn
  | buildSlice t len ps => exact op_buildSlice hW he hh hn
  | load t x => exact (op_load hW he).wp hh hl' hn
  | store t x y => exact op_store hW he hh hn
  | nilCheck x => exact (op_nilCheck hW he).wp hh hl' hn
  | makeInterface t x => exact (op_makeInterface hW he).wp hh hl' hn
  | makeFunc fn first captured => exact (op_makeFunc hW he).wp hh hl' hn
  | fieldAddr s x f => exact (op_fieldAddr hW he).wp hh hl' hn
  | field t x f => exact (op_field hW he).wp hh hl' hn
  | indexAddr t x i => exact (op_indexAddr hW he).wp hh hl' hn
  | index t x i => exact (op_index hW he).wp hh hl' hn
  | slice t x lo hi mx => exact (op_slice hW he).wp hh hl' hn
  | binOp op t x y yt => exact (quiet_spec rfl hW he).wp hh hl' hn
  | unOp op t x => exact (quiet_spec rfl hW he).wp hh hl' hn
  | convert src dst' x =>
    simp only [opW] at hW
    cases e : okU P src with
    | false => rw [e] at hW; exact hW.elim
    | true =>
      rw [e] at hW
      have hW := evV_spec he hW
      obtain ⟨v, w', h', h1, h2, h3⟩ := convW_spec hW e hh
      exact wp_value (run_v h2) (hn _ _ _ _ _ ρ h1 rfl h3 (Ext.refl _ _) rfl)
  | extract x i => exact (quiet_spec rfl hW he).wp hh hl' hn
  | makeMap t r => exact op_makeMap hW hh hn
  | makeSlice t l c => exact op_makeSlice hW he hh hn
  | lookup t x k ok => exact op_lookup hW he hh hn
  | mapUpdate t x k y => exact op_mapUpdate hW he hh hn
  | call c =>
    simp only [opW] at hW
    have hW := evVs_spec he hW
    have hargs : c.args.map a.eval = (c.args.toList.map a.eval).toArray := by
      apply Array.ext'
      simp
    cases hc : c.callee with
    | value f =>
      rw [hc] at hW
      simp only [] at hW
      cases hcl : H.clo with
      | true =>
        rw [hcl] at hW
        simp only [cond_true] at hW
        have hW := evV_spec he hW
        obtain ⟨g, fst, cap, ef, e, hW⟩ := hW
        refine callW_spec (t := ty) (g := g) (args := fst ++ c.args.toList.map a.eval ++ cap) hW hh hn ?_
        simp only [execOp, Sem.run_bind, resolve, hc, ef, Deferred.ofValue, Sem.run_pure, Result.andThen_ok, invoke]
        rw [run_callFunc e]
        congr 2
        apply Array.ext'
        simp
      | false =>
      rw [hcl] at hW
      simp only [cond_false] at hW
      have hW := evV_spec he hW
      split at hW
      · rename_i g fst cap ef
        cases e : funcOk P g with
        | false =>
          rw [e] at hW
          have hW : externW P g (fst.toList ++ List.map a.eval c.args.toList ++ cap.toList) (fun v => K (.val v) st h) := hW
          obtain ⟨v, hv, hr⟩ := externW_spec hW
          refine wp_value (v := v) (w' := w) ?_ (hn.pure (sv := .val v) hv rfl hh)
          simp only [execOp, Sem.run_bind, resolve, hc, ef, Deferred.ofValue, Sem.run_pure, Result.andThen_ok, invoke]
          refine Eq.trans ?_ (hr w)
          congr 2
          apply Array.ext'
          simp
        | true =>
          rw [e] at hW
          refine callW_spec hW hh hn ?_
          simp only [execOp, Sem.run_bind, resolve, hc, ef, Deferred.ofValue, Sem.run_pure, Result.andThen_ok, invoke]
          rw [run_callFunc e]
          congr 2
          apply Array.ext'
          simp
      · exact hW.elim
    | invoke r name =>
      rw [hc] at hW
      simp only [] at hW
      have hW := evV_spec he hW
      obtain ⟨p, er, hW⟩ := hW
      generalize H.ifc = u at er hW
      obtain ⟨f, hW, hr⟩ := methodW_spec hW p (c.args.map a.eval) w
      refine callW_spec hW hh hn ?_
      simp only [execOp, Sem.run_bind, resolve, hc, er, Sem.run_pure, Result.andThen_ok, invoke]
      have h1 : (#[Value.iface u (.pointer p)] ++ c.args.map a.eval)[0]? = some (.iface u (.pointer p)) := by
        rw [Array.getElem?_append_left (by simp)]; rfl
      have h2 : (#[Value.iface u (.pointer p)] ++ c.args.map a.eval).extract 1 (#[Value.iface u (.pointer p)] ++ c.args.map a.eval).size = c.args.map a.eval := by
        apply Array.ext'
        simp
        exact List.take_of_length_le (by simp)
      simp only [h1, h2, hr]
      congr 2
      apply Array.ext'
      simp
    | builtin b =>
      rw [hc] at hW
      simp only [] at hW
      obtain ⟨v, w', h', h1, h2, h3⟩ := builtinW_spec (t := ty) (cs := c.args.map fun | .const _ => true | _ => false) hW hh
      refine wp_value (v := v) (w' := w') ?_ (hn _ _ _ _ _ ρ h1 rfl h3 (Ext.refl _ _) rfl)
      simp only [execOp, Sem.run_bind, resolve, hc, Sem.run_pure, Result.andThen_ok, invoke]
      rw [hargs]
      exact h2
  | _ => exact hW.elim
end
end Go.Gx
