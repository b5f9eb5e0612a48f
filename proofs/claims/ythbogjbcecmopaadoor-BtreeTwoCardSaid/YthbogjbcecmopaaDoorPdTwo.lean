/- The core of BtreeEmpty. Conditions: the operations, and the order, lie in rows. The core of BtreeTwo. Conditions: the operations lie in rows. BtreeEmpty and BtreeTwo over rows that are handed in. Condition: none beyond the reading. The statement BtreeTwo: for every input the law returns true and leaves its arguments as they were. Conditions: none beyond the statement's own. -/
import Derived.Test.YthbogjbcecmopaaDoorPd06
import Derived.Test.YthbogjbcecmopaaDoorRows
import Derived.WalkKit
import Derived.ProofKit
import Derived.OpenShut
import Derived.ShutString
import Derived.ChangeOld
import Derived.Below
import Derived.SizedLaws
import Derived.Test.YthbogjbcecmopaaDoorTie
import Derived.Test.YthbogjbcecmopaaDoorCards
import Derived.LaidMore
import Derived.Lay
import Derived.SevenTiedAt
import Derived.Stop.Joined
namespace Go.Proofs.YthbogjbcecmopaaDoor
open Go.Gx
set_option maxRecDepth 100000
set_option linter.unusedVariables false
variable {h h0 x x' : Hp} {K : Value → Hp → Prop} {n m tb pb jb db : Nat} {S : Nat → Prop} {D : Dk} {P P' : Pg} {L L' : List KV}
structure EmB (h0 x : Hp) (S : Nat → Prop) (tb pb jb db : Nat) (D : Dk) (P : Pg) (L : List KV) : Prop where
  e : PgAt x pb jb db S 24 D P
  t : TrAt x tb pb 1
  nt : ¬ S tb
  sub : Sub h0 x
  new : ∀ c, S c → h0 c = none
  tr : ∃ hg I, TreeS (P.pgs D 24) (P.now.r 1) hg L I ∧ P.freeN 24 + I.length = 23
  rt : ∀ t, t < 4 → t ≠ 1 → P.now.r t = 0
theorem EmB.subs (B : EmB h0 x S tb pb jb db D P L) (s : Sub x x') : EmB h0 x' S tb pb jb db D P L := ⟨B.e.sub s, Blk.sub B.t s, B.nt, B.sub.trans s, B.new, B.tr, B.rt⟩
theorem EmB.set {hg' : Nat} {I I' : List Nat} (B : EmB h0 x S tb pb jb db D P L) (hI : P.freeN 24 + I.length = 23) (k : Keep S x x') (E' : PgAt x' pb jb db S 24 D P') (M : MvT 24 D 1 P P' I I') (TT : TreeS (P'.pgs D 24) (P'.now.r 1) hg' L' I') : EmB h0 x' S tb pb jb db D P' L' :=
  ⟨E', Blk.keep B.t k B.nt, B.nt, k.sub B.sub B.new, B.new, ⟨hg', I', TT, by rw [M.free]; exact hI⟩, fun t ht h1 => (M.roots t h1).trans (B.rt t ht h1)⟩
theorem EmB.iff (B : EmB h0 x S tb pb jb db D P L) : L = [] ↔ P.freeN 24 = 23 := by
  obtain ⟨hg, I, TT, hI⟩ := B.tr
  constructor
  · rintro rfl
    obtain ⟨_, _, rfl⟩ := TT.nil
    simpa using hI
  · intro e
    have hi : I.length = 0 := by omega
    have hh := TT.high
    have h0 : hg = 0 := by omega
    subst h0
    exact TT.2.1
theorem kvAt_of {L : List KV} (hs : kvSorted L) {k : Nat} {p : KV} (hp : L[k]? = some p) : kvIs p.1 L = true ∧ kvDrop p.1 L = L.take k ++ L.drop (k + 1) := by
  have hi : kvIs p.1 L = true := (kvIs_iff hs p.1).2 ⟨p.2, List.mem_of_getElem? hp⟩
  refine ⟨hi, ?_⟩
  obtain ⟨w, _, e⟩ := kvIs_split hi
  have ek : kvAt p.1 L = k := by
    rcases Nat.lt_trichotomy (kvAt p.1 L) k with h | h | h
    · have := sorted_lt hs e hp h
      rw [blt_irrefl] at this; cases this
    · exact h
    · have := sorted_lt hs hp e h
      rw [blt_irrefl] at this; cases this
  unfold kvDrop
  rw [if_pos hi, ek]
structure LsV (x : Hp) (S : Nat → Prop) (a : Option Addr) (c : Nat) (L : List KV) : Prop where
  v : VwR kvC 2 x 41 a c L
  nS : ∀ b, blkOf a b → ¬ S b
theorem LsV.keep {a : Option Addr} {c : Nat} (A : LsV x S a c L) (k : Keep S x x') : LsV x' S a c L := ⟨A.v.keep k A.nS, A.nS⟩
theorem LsV.sl {a : Option Addr} {c : Nat} (A : LsV x S a c L) : SliceAt x a (L.length * 2) (kvCells L) := A.v.row
theorem LsV.sub {a : Option Addr} {c : Nat} (A : LsV x S a c L) (k : Sub x x') : LsV x' S a c L := A.keep (k.keep _)
set_option maxHeartbeats 4000000 in
theorem bempty_core {h : Hp} (oa : Option Addr) (oc : Nat) (os : List Op6) (ho : RowAt op6C 6 h oa os) (ra : Option Addr) (rc : Nat) (rs : List Int) (hr : RowAt intvC 1 h ra rs) :
    CallsH Tryd.prog law15_BtreeEmpty.id #[.slice oa os.length oc, .slice ra rs.length rc] h fun v h' => v = .bool true ∧ Sub h h' := by
  apply law15_BtreeEmpty.calls
  unfold law15_BtreeEmpty.W
  have live : ∀ x, Sub h x → CallsH Tryd.prog law15_lives.id #[] x fun v h' => ∃ b : Bool, v = .bool b ∧ (Value.bool b = .bool true ∧ Sub h h') := fun x s => lives_spec fun h' s' => ⟨_, rfl, rfl, s.trans s'⟩
  refine opened_spec 24 (by decide) (by decide) fun h2 tb pb jb db S s2 E fr T n2 nt => ⟨_, _, _, rfl, ?_⟩
  have f0 : newPg.freeN 24 = 23 := by decide
  have B0 : EmB h h2 S tb pb jb db (Dk.new (8 * 24 + 1)) newPg [] := ⟨E, T, nt, s2, fr, ⟨0, [], newPg_tree 24 _ 1, f0⟩, fun t _ _ => rfl⟩
  clear E T n2 nt f0
  generalize Dk.new (8 * 24 + 1) = D at B0 ⊢
  generalize newPg = P0 at B0
  refine split_cond (fun e => by cases e) fun _ => ⟨fun y => ∃ (P : Pg) (L : List KV), EmB h y S tb pb jb db D P L, ?_, fun i y m => ∃ (j : Nat) (P : Pg) (L : List KV), i = (j : Int) ∧ j ≤ 80 ∧ m = 80 - j ∧ EmB h y S tb pb jb db D P L, ⟨_, 0, _, _, rfl, by decide, rfl, B0⟩, ?_⟩
  · clear B0
    rintro y ⟨P, L, B⟩
    obtain ⟨hg, I, TT, hI⟩ := B.tr
    refine all_spec B.e B.t (by decide) TT.tree fun h9 a c N => ⟨_, _, _, rfl, ?_⟩
    have few := TT.tree.few (n := 24) (pgs_ok B.e) fun i hi => (pgs_lt hi).2
    refine ⟨fun a k c n z m => ∃ (j : Nat) (P : Pg) (L : List KV), n = (j : Int) ∧ k = L.length ∧ m = L.length ∧ j + L.length ≤ 24 * 256 ∧ EmB h z S tb pb jb db D P L ∧ LsV z S a c L,
      ⟨_, 0, P, L, rfl, rfl, rfl, by omega, B.subs N.sub, own_vw N.own, fun b hb => S_out B.e (N.new b hb)⟩, ?_⟩
    clear few N hI TT B
    rintro a k c n z m ⟨j, P, L, rfl, rfl, rfl, hj, B, A⟩
    obtain ⟨hg, I, TT, hI⟩ := B.tr
    have nr : ∀ t, t < 4 → t ≠ 1 → P.now.r t ∉ I := fun t ht h1 hi => by rw [B.rt t ht h1] at hi; exact root0 TT hi
    have hs := (TT.tree.small (pgs_ok B.e)).2
    refine split_dec (fun g => ?_) fun g => ?_
    · have g : ((L.length : Nat) : Int) > 0 := g
      refine ⟨fun i w => w = z ∧ 0 ≤ i ∧ i < ((L.length : Nat) : Int), ?_, ?_⟩
      · rintro i w ⟨rfl, hi1, hi2⟩
        obtain ⟨k, rfl⟩ : ∃ k : Nat, i = (k : Int) := ⟨i.toNat, by omega⟩
        obtain ⟨p, hp⟩ : ∃ p, L[k]? = some p := ⟨_, List.getElem?_eq_getElem (by omega)⟩
        obtain ⟨b1, o1, e1, c1, c2⟩ := kv_cell A.sl hp
        obtain ⟨q1, q2⟩ := kvAt_of hs hp
        refine ⟨hi1, hi2, b1, o1, e1, _, by rw [Int.toNat_natCast]; exact c1, ?_⟩
        refine drop_spec B.e B.t B.nt (by decide) TT nr p.1 (fun e => by rw [q1] at e; cases e) fun _ h' P' hg' I' E' kp TT' M fr => ⟨_, rfl, split_not (fun e => by cases e) fun _ => ?_⟩
        have B' := B.set hI kp E' M TT'
        have A' := A.keep kp
        rw [q2] at B' TT'
        refine check_spec E' B'.t (by decide) fun h31 v s31 hv => ⟨_, rfl, ?_⟩
        rcases hv with ⟨rfl, _⟩ | ⟨_, no⟩
        · have next : IntKind.i64.wrap ((k : Int) + 1) = ((k + 1 : Nat) : Int) := by rw [wid (by omega) (by omega)]; omega
          have nextj : IntKind.i64.wrap ((j : Int) + 1) = ((j + 1 : Nat) : Int) := by rw [wid (by omega) (by omega)]; omega
          have A3 := A'.sub s31
          have B3 := B'.subs s31
          have hle := A3.v.le
          rw [next, nextj]
          refine split_ne (fun e => absurd rfl e) fun _ => ⟨by omega, by show ((k : Nat) : Int) ≤ ((c : Nat) : Int); omega, by omega, by show ((k : Nat) : Int) ≤ ((k : Nat) : Int); omega, by omega, by show ((k + 1 : Nat) : Int) ≤ ((L.length : Nat) : Int); omega, ?_⟩
          rw [Int.toNat_natCast, Int.toNat_natCast]
          have pt := A3.v.row.part kvC_len (i := k + 1) (n := L.length - (k + 1)) A3.v.le (by omega)
          have ed : (L.drop (k + 1)).take (L.length - (k + 1)) = L.drop (k + 1) := List.take_of_length_le (by rw [List.length_drop]; omega)
          rw [ed] at pt
          unfold RowAt at pt
          rw [List.length_drop] at pt
          refine ⟨rowC kvC (L.drop (k + 1)), pt, fun a' c' w' => EmB h w' S tb pb jb db D P' (L.take k ++ L.drop (k + 1)) ∧ LsV w' S a' c' (L.take k ++ L.drop (k + 1)), ?_, ?_⟩
          · rintro a' c' w' ⟨g1, g2⟩
            have el : k + (L.length - (k + 1)) = (L.take k ++ L.drop (k + 1)).length := by rw [List.length_append, List.length_take, List.length_drop]; omega
            exact ⟨L.length - 1, by omega, j + 1, P', _, rfl, el, by omega, by omega, g1, g2⟩
          · rw [slA_zero]
            refine append_cap appTKV kvC_len kvC_plain (M := L.drop (k + 1)) A3.v (by omega) (by rw [List.length_drop]) rfl (by rw [List.length_drop]; omega) fun a' c' w' s V nb _ => ⟨B3.subs s, V, fun b hb => ?_⟩
            rcases nb b hb with h1 | h1
            · exact A3.nS b h1
            · exact S_out B3.e h1
        · exact absurd ⟨_, _, _, TT'.tree⟩ no
      · have zero : ∀ {p : Prop}, z = z ∧ (0 : Int) ≤ 0 ∧ (0 : Int) < ((L.length : Nat) : Int) := ⟨rfl, by omega, by omega⟩
        refine split_dec (fun gj => ?_) fun _ => ⟨rfl, by omega, by omega⟩
        have gj : ((j : Nat) : Int) < ((rs.length : Nat) : Int) := gj
        have hq : rs[j]? = some (rs[j]'(by omega)) := List.getElem?_eq_getElem (by omega)
        generalize rs[j]'(by omega) = q at hq
        obtain ⟨b, oo, ea, hc⟩ := (hr.sub B.sub).get intvC_len (by decide) hq
        have hc' : z.cell b (oo + ((j : Nat) : Int).toNat * 1) = some (.int .i64 q) := by rw [Int.toNat_natCast]; exact hc 0 _ rfl
        refine ⟨by omega, gj, b, oo, ea, q, hc', split_dec (fun gq => ?_) fun _ => ⟨rfl, by omega, by omega⟩⟩
        refine ⟨by omega, gj, b, oo, ea, q, hc', fun e => ?_, rfl, ?_, ?_⟩
        · have e : ((L.length : Nat) : Int) = 0 := e
          omega
        · exact Int.tmod_nonneg _ (by omega)
        · exact Int.tmod_lt_of_pos _ g
    · have hL : L = [] := List.length_eq_zero_iff.1 (by have g : ¬ ((L.length : Nat) : Int) > 0 := g; omega)
      subst hL
      have hf := B.iff.1 rfl
      obtain ⟨rfl, r0, rfl⟩ := TT.nil
      refine height_spec B.e B.t (by decide) TT.tree (by decide) fun h46 s46 => ⟨_, rfl, split_eq (fun _ => ?_) fun e => absurd rfl e⟩
      have B4 := B.subs s46
      refine len_spec B4.e B4.t (by decide) TT.tree fun h49 s49 => ⟨_, rfl, split_eq (fun _ => ?_) fun e => absurd rfl e⟩
      have B5 := B4.subs s49
      refine free_spec B5.e ⟨_, rfl, split_eq (fun _ => ?_) fun e => absurd (by rw [hf]; rfl) e⟩
      refine root_spec B5.e (k := 1) (by decide) ⟨_, rfl, split_eq (fun _ => live _ B5.sub) fun e => absurd (by rw [r0]; rfl) e⟩
  · clear B0
    rintro i y m ⟨j, P, L, rfl, hj, rfl, B⟩
    refine split_dec (fun gj => split_dec (fun g40 => ?_) fun _ => ⟨P, L, B⟩) fun _ => ⟨P, L, B⟩
    have gj : ((j : Nat) : Int) < ((os.length : Nat) : Int) := gj
    have g40 : ((j : Nat) : Int) < 80 := g40
    have hq' : os[j]? = some (os[j]'(by omega)) := List.getElem?_eq_getElem (by omega)
    generalize os[j]'(by omega) = o at hq'
    obtain ⟨b, oo, ea, hc⟩ := (ho.sub B.sub).get op6C_len (by decide) hq'
    have hc' : ∀ k v, (op6C o)[k]? = some v → y.cell b (oo + ((j : Nat) : Int).toNat * 6 + k) = some v := fun k v e => by rw [Int.toNat_natCast]; exact hc k v e
    have nextj : IntKind.i64.wrap ((j : Int) + 1) = ((j + 1 : Nat) : Int) := by rw [wid (by omega) (by omega)]; omega
    refine ⟨by omega, gj, b, oo, ea, _, hc' 0 _ rfl, _, hc' 1 _ rfl, _, hc' 2 _ rfl, _, hc' 3 _ rfl, _, hc' 4 _ rfl, _, hc' 5 _ rfl, ?_⟩
    refine light_spec o.a o.b o.c o.x o.y o.z ⟨_, rfl, split_not (fun _ => live y B.sub) fun e => by cases e⟩ fun hx hy hz => ⟨_, rfl, split_not (fun e => by cases e) fun _ => ?_⟩
    obtain ⟨hg, I, TT, hI⟩ := B.tr
    have nr : ∀ t, t < 4 → t ≠ 1 → P.now.r t ∉ I := fun t ht h1 hi => by rw [B.rt t ht h1] at hi; exact root0 TT hi
    refine ⟨fun w => ∃ (P : Pg) (L : List KV), EmB h w S tb pb jb db D P L, ?_, by omega, gj, b, oo, ea, _, hc' 0 _ rfl, split_eq (fun _ => ?_) fun _ => ?_⟩
    · rintro w ⟨P, L, B⟩
      obtain ⟨hg, I, TT, hI⟩ := B.tr
      refine len_spec B.e B.t (by decide) TT.tree fun h49 s49 => ⟨_, rfl, free_spec (B.subs s49).e ⟨_, rfl, ?_⟩⟩
      have ev : (hb (((L.length : Nat) : Int) == 0) == hb (((P.freeN 24 : Nat) : Int) == 23)) = true := by
        rw [hb_eq, hb_eq, beq_iff_eq]
        by_cases hL : L = []
        · have := B.iff.1 hL
          rw [this, hL]; rfl
        · have h1 : ¬ P.freeN 24 = 23 := fun e => hL (B.iff.2 e)
          have h2 : ¬ L.length = 0 := fun e => hL (List.length_eq_zero_iff.1 e)
          rw [beq_eq_false_iff_ne.2 (by omega), beq_eq_false_iff_ne.2 (by omega)]
      rw [ev]
      exact split_not (fun e => by cases e) fun _ => ⟨80 - (j + 1), by omega, j + 1, P, L, nextj, by omega, rfl, B.subs s49⟩
    · refine ⟨by omega, gj, b, oo, ea, _, hc' 3 _ rfl, ?_⟩
      exact drop_spec B.e B.t B.nt (by decide) TT nr o.x (fun _ h' s => ⟨_, rfl, P, L, B.subs s⟩) fun _ h' P' hg' I' E' kp TT' M fr => ⟨_, rfl, P', _, B.set hI kp E' M TT'⟩
    · refine ⟨by omega, gj, b, oo, ea, _, hc' 3 _ rfl, by omega, gj, b, oo, ea, _, hc' 0 _ rfl, _, hc' 1 _ rfl, _, hc' 2 _ rfl, _, hc' 3 _ rfl, _, hc' 4 _ rfl, _, hc' 5 _ rfl, ?_⟩
      refine value_spec o.a o.b o.c o.x o.y o.z hz fun h59 sv s59 hsv => ⟨_, rfl, s59, ?_⟩
      have B5 := B.subs s59
      exact put_spec B5.e B5.t B5.nt (by decide) TT o.x sv (fun _ => ⟨_, rfl, P, L, B5⟩) (fun _ _ h' s => ⟨_, rfl, P, L, B5.subs s⟩) fun _ _ h' P' hg' I' E' kp TT' M _ => ⟨_, rfl, P', _, B5.set hI kp E' M TT'⟩
end Go.Proofs.YthbogjbcecmopaaDoor
namespace Go.Proofs.YthbogjbcecmopaaDoor
open Go.Gx
set_option maxRecDepth 100000
set_option linter.unusedVariables false
variable {h h0 x x' : Hp} {K : Value → Hp → Prop} {tb ub pb jb db k k' : Nat} {S : Nat → Prop} {D : Dk} {P P' : Pg} {L L' M : List KV}
structure Tw (h0 x : Hp) (S : Nat → Prop) (k k' tb ub pb jb db : Nat) (D : Dk) (P : Pg) (L M : List KV) : Prop where
  e : PgAt x pb jb db S 24 D P
  k4 : k < 4 ∧ k' < 4 ∧ k ≠ k'
  t : TrAt x tb pb k
  u : TrAt x ub pb k'
  nt : ¬ S tb
  nu : ¬ S ub
  sub : Sub h0 x
  new : ∀ c, S c → h0 c = none
  tr : ∃ hg I hj J, TreeS (P.pgs D 24) (P.now.r k) hg L I ∧ TreeS (P.pgs D 24) (P.now.r k') hj M J ∧ (∀ i ∈ I, i ∉ J) ∧ P.freeN 24 + I.length + J.length = 23
  rt : ∀ t, t < 4 → t ≠ k → t ≠ k' → P.now.r t = 0
theorem Tw.swap (B : Tw h0 x S k k' tb ub pb jb db D P L M) : Tw h0 x S k' k ub tb pb jb db D P M L := by
  obtain ⟨hg, I, hj, J, TI, TJ, dis, fr⟩ := B.tr
  exact ⟨B.e, ⟨B.k4.2.1, B.k4.1, fun e => B.k4.2.2 e.symm⟩, B.u, B.t, B.nu, B.nt, B.sub, B.new, ⟨hj, J, hg, I, TJ, TI, fun i h1 h2 => dis i h2 h1, by omega⟩, fun t ht h1 h2 => B.rt t ht h2 h1⟩
theorem Tw.subs (B : Tw h0 x S k k' tb ub pb jb db D P L M) (s : Sub x x') : Tw h0 x' S k k' tb ub pb jb db D P L M := ⟨B.e.sub s, B.k4, Blk.sub B.t s, Blk.sub B.u s, B.nt, B.nu, B.sub.trans s, B.new, B.tr, B.rt⟩
theorem root_in {pg : Nat → Option Nd} {root hg : Nat} {L : List KV} {I : List Nat} (T : TreeS pg root hg L I) : root = 0 ∨ root ∈ I := by
  cases hg with
  | zero => exact .inl T.1
  | succ m =>
    right
    rw [T.2.2.2.1]
    exact ids_self
theorem tw_nr {hg hj : Nat} {I J : List Nat} (B : Tw h0 x S k k' tb ub pb jb db D P L M) (TI : TreeS (P.pgs D 24) (P.now.r k) hg L I) (TJ : TreeS (P.pgs D 24) (P.now.r k') hj M J) (dis : ∀ i ∈ I, i ∉ J) : ∀ t, t < 4 → t ≠ k → P.now.r t ∉ I := fun t ht h1 hi => by
  by_cases h2 : t = k'
  · subst h2
    rcases root_in TJ with h3 | h3
    · rw [h3] at hi; exact root0 TI hi
    · exact dis _ hi h3
  · rw [B.rt t ht h1 h2] at hi; exact root0 TI hi
theorem Tw.set {hg hj hg' : Nat} {I J I' : List Nat} (B : Tw h0 x S k k' tb ub pb jb db D P L M) (TI : TreeS (P.pgs D 24) (P.now.r k) hg L I) (TJ : TreeS (P.pgs D 24) (P.now.r k') hj M J) (dis : ∀ i ∈ I, i ∉ J) (fr : P.freeN 24 + I.length + J.length = 23)
    (kp : Keep S x x') (E' : PgAt x' pb jb db S 24 D P') (Mv : MvT 24 D k P P' I I') (TT : TreeS (P'.pgs D 24) (P'.now.r k) hg' L' I') : Tw h0 x' S k k' tb ub pb jb db D P' L' M := by
  obtain ⟨a1, a2⟩ := Mv.apart (R := J) fun i hi => ⟨TJ.used i hi, fun h1 => dis i h1 hi⟩
  have f2 := Mv.free
  refine ⟨E', B.k4, Blk.keep B.t kp B.nt, Blk.keep B.u kp B.nu, B.nt, B.nu, kp.sub B.sub B.new, B.new, ⟨hg', I', hj, J, TT, ?_, fun i h1 h2 => a2 i h2 h1, by omega⟩, fun t ht h1 h2 => (Mv.roots t h1).trans (B.rt t ht h1 h2)⟩
  rw [Mv.roots k' fun e => B.k4.2.2 e.symm]
  exact TJ.frame a1
theorem Tw.few (B : Tw h0 x S k k' tb ub pb jb db D P L M) : L.length < 4294967296 := by
  obtain ⟨hg, I, hj, J, TI, TJ, dis, fr⟩ := B.tr
  have := TI.tree.few (n := 24) (pgs_ok B.e) fun i hi => (pgs_lt hi).2
  omega
theorem tw_all (B : Tw h0 x S k k' tb ub pb jb db D P L M) (hK : ∀ h' a c, NewR kvC 2 41 x h' a c L → K (.slice a L.length c) h') : CallsH Tryd.prog law15_all.id #[.pointer (some ⟨tb, 0, none⟩)] x K := by
  obtain ⟨hg, I, hj, J, TI, TJ, dis, fr⟩ := B.tr
  exact all_spec B.e B.t B.k4.1 TI.tree hK
theorem tw_drop (B : Tw h0 x S k k' tb ub pb jb db D P L M) (key : ByteArray) (hK : ∀ b h' P', Keep S x h' → Tw h0 h' S k k' tb ub pb jb db D P' (kvDrop key L) M → K (.bool b) h') : CallsH Tryd.prog btree_Tree_Drop.id #[.pointer (some ⟨tb, 0, none⟩), .string key] x K := by
  obtain ⟨hg, I, hj, J, TI, TJ, dis, fr⟩ := B.tr
  refine drop_spec B.e B.t B.nt B.k4.1 TI (tw_nr B TI TJ dis) key (fun e h' s => hK _ h' P (s.keep S) ?_) fun _ h' P' hg' I' E' kp TT' M _ => hK _ h' P' kp (B.set TI TJ dis fr kp E' M TT')
  have : kvDrop key L = L := by unfold kvDrop; rw [e]; exact if_neg (by decide)
  rw [this]
  exact B.subs s
theorem tw_put (B : Tw h0 x S k k' tb ub pb jb db D P L M) {a : Option Addr} {c : Nat} (A : LsAt x S a c L) (key v : ByteArray) (hK : ∀ h1 h' P' L' a' c', Keep S x h1 → Sub h1 h' → Tw h0 h' S k k' tb ub pb jb db D P' L' M → LsAt h' S a' c' L' → K (.tuple #[.slice a' L'.length c', .bool true]) h') :
    CallsH Tryd.prog law15_put.id #[.pointer (some ⟨pb, 0, none⟩), .pointer (some ⟨tb, 0, none⟩), .slice a L.length c, .string key, .string v] x K := by
  have few := B.few
  obtain ⟨hg, I, hj, J, TI, TJ, dis, fr⟩ := B.tr
  exact lawput_spec B.e B.t B.nt B.k4.1 TI A.own.row A.own.le few A.nS key v (fun h' s => hK x h' P L a c ((Sub.refl x).keep S) s (B.subs s) (A.step (Step.sub s))) fun h1 h' P' hg' I' a' c' E' kp TT' M N => hK h1 h' P' _ a' c' kp N.1 ((B.set TI TJ dis fr kp E' M TT').subs N.1) (LsAt.new E' N)
theorem tw_ldrop (B : Tw h0 x S k k' tb ub pb jb db D P L' M) {a : Option Addr} {c : Nat} (A : LsAt x S a c L) (hL : L.length < 4294967296) (key : ByteArray) (hK : ∀ b h' a' c', Sub x h' → LsAt h' S a' c' (kvDrop key L) → K (.tuple #[.slice a' (kvDrop key L).length c', .bool b]) h') : CallsH Tryd.prog ref08_Drop.id #[.slice a L.length c, .string key] x K := by
  refine kvDrop_spec A.own.row A.own.le hL key (fun e => ?_) fun _ h' a' c' N => hK _ h' a' c' N.1 (LsAt.new B.e N)
  have : kvDrop key L = L := by unfold kvDrop; rw [e]; exact if_neg (by decide)
  rw [this] at hK
  exact hK _ x a c (Sub.refl x) A
theorem tw_clear (B : Tw h0 x S k k' tb ub pb jb db D P L M) (hK : ∀ h' P', Keep S x h' → Tw h0 h' S k k' tb ub pb jb db D P' [] M → K (.tuple #[]) h') : CallsH Tryd.prog btree_Tree_Clear.id #[.pointer (some ⟨tb, 0, none⟩)] x K := by
  obtain ⟨hg, I, hj, J, TI, TJ, dis, fr⟩ := B.tr
  exact clear_spec B.e B.t B.nt B.k4.1 TI (tw_nr B TI TJ dis) fun h' P' E' kp r0 M => hK h' P' kp (B.set TI TJ dis fr kp E' M (hg' := 0) (L' := []) ⟨r0, rfl, rfl⟩)
set_option maxHeartbeats 8000000 in
theorem btwo_core {h : Hp} (oa : Option Addr) (oc : Nat) (os : List Op6) (ho : RowAt op6C 6 h oa os) (ma : Option Addr) (mc : Nat) (ms : List Op6) (hm : RowAt op6C 6 h ma ms) :
    CallsH Tryd.prog law15_BtreeTwo.id #[.slice oa os.length oc, .slice ma ms.length mc] h fun v h' => v = .bool true ∧ Sub h h' := by
  apply law15_BtreeTwo.calls
  unfold law15_BtreeTwo.W
  have live : ∀ x, Sub h x → CallsH Tryd.prog law15_lives.id #[] x fun v h' => ∃ b : Bool, v = .bool b ∧ (Value.bool b = .bool true ∧ Sub h h') := fun x s => lives_spec fun h' s' => ⟨_, rfl, rfl, s.trans s'⟩
  refine opened_spec 24 (by decide) (by decide) fun h2 tb pb jb db S s2 E fr T n2 nt => ⟨_, _, _, rfl, ?_⟩
  have t0 : TreeS (newPg.pgs (Dk.new (8 * 24 + 1)) 24) (newPg.now.r 1) 0 [] [] := newPg_tree 24 _ 1
  have t3 : TreeS (newPg.pgs (Dk.new (8 * 24 + 1)) 24) (newPg.now.r 3) 0 [] [] := newPg_tree 24 _ 3
  have f0 : newPg.freeN 24 = 23 := by decide
  have rz : ∀ t, newPg.now.r t = 0 := fun t => rfl
  generalize Dk.new (8 * 24 + 1) = D at E t0 t3 ⊢
  generalize newPg = P0 at E t0 t3 f0 rz
  refine open_spec E (k := 3) (by decide) (fun h7 ub s7 n7 U _ => ⟨_, _, rfl, split_cond (fun e => by cases e) fun _ => split_ne (fun e => absurd rfl e) fun _ => ?_⟩) fun no => absurd ⟨_, _, _, t3.tree⟩ no
  have B0 : Tw h h7 S 1 3 tb ub pb jb db D P0 [] [] := ⟨E.sub s7, by decide, Blk.sub T s7, U, nt, S_out E n7, s2.trans s7, fr, ⟨0, [], 0, [], t0, t3, fun i h => absurd h List.not_mem_nil, f0⟩, fun t _ _ _ => rz t⟩
  clear E T t0 t3 f0 rz s2 n2 nt U s7 n7 fr
  refine ⟨fun a k c y => ∃ (P : Pg) (L M : List KV), k = M.length ∧ Tw h y S 1 3 tb ub pb jb db D P L M ∧ LsAt y S a c M, ?_,
    fun la lk lc ma mk mc n y m => ∃ (j : Nat) (P : Pg) (L M : List KV), n = (j : Int) ∧ j ≤ 60 ∧ m = 60 - j ∧ lk = L.length ∧ mk = M.length ∧ Tw h y S 1 3 tb ub pb jb db D P L M ∧ LsAt y S la lc L ∧ LsAt y S ma mc M,
    ⟨_, 0, P0, [], [], rfl, by decide, rfl, rfl, rfl, B0, LsAt.nil _ _, LsAt.nil _ _⟩, ?_⟩
  · rintro a q c y ⟨P, L, M, rfl, B, A⟩
    refine tw_clear B fun h16 P1 kp1 B1 => ⟨rfl, ?_⟩
    have A1 := A.step ⟨kp1, fun _ h => .inl h⟩
    refine tw_all B1.swap fun h18 xa xc N => ⟨_, _, _, rfl, ?_⟩
    have A2 := A1.step (Step.sub N.sub)
    have B2 := B1.subs N.sub
    refine same_spec N.own.row A2.own.row B1.swap.few rfl ⟨_, rfl, split_not (fun e => by cases e) fun _ => ?_⟩
    refine tw_clear B2.swap fun h26 P3 kp3 B3 => ⟨rfl, free_spec B3.e ⟨_, rfl, split_eq (fun _ => live _ B3.sub) fun e => absurd ?_ e⟩⟩
    obtain ⟨hg, I, hj, J, TI, TJ, dis, fr⟩ := B3.tr
    obtain ⟨_, _, rfl⟩ := TI.nil
    obtain ⟨_, _, rfl⟩ := TJ.nil
    have : P3.freeN 24 = 23 := by simpa using fr
    rw [this]; rfl
  · clear B0
    rintro la lk lc na nk nc n y m ⟨j, P, L, M, rfl, hj, rfl, rfl, rfl, B, A, C⟩
    have nextj : j < 60 → IntKind.i64.wrap ((j : Int) + 1) = ((j + 1 : Nat) : Int) := fun _ => by rw [wid (by omega) (by omega)]; omega
    have fewL := B.few
    have fewM := B.swap.few
    have ejn : ((j : Nat) : Int).toNat = j := Int.toNat_natCast j
    refine ⟨fun z => z = y ∧ j < 60, ?_, split_dec (fun g60 => split_dec (fun _ => ⟨rfl, by have g60 : ((j : Nat) : Int) < 60 := g60; omega⟩) fun _ => split_dec (fun _ => ⟨rfl, by have g60 : ((j : Nat) : Int) < 60 := g60; omega⟩) fun _ => ⟨P, L, M, rfl, B, C⟩) fun _ => ⟨P, L, M, rfl, B, C⟩⟩
    rintro z ⟨rfl, g60⟩
    have nextj := nextj g60
    refine ⟨fun la' lk' lc' ok w => ok = true ∧ ∃ (P : Pg) (L : List KV), lk' = L.length ∧ Tw h w S 1 3 tb ub pb jb db D P L M ∧ LsAt w S la' lc' L ∧ LsAt w S na nc M, ?_, ?_⟩
    · clear B A fewL
      rintro la lk lc ok w ⟨rfl, P, L, rfl, B, A, C⟩
      refine ⟨fun ma' mk' mc' is v => is = true ∧ ∃ (P : Pg) (M : List KV), mk' = M.length ∧ Tw h v S 1 3 tb ub pb jb db D P L M ∧ LsAt v S la lc L ∧ LsAt v S ma' mc' M, ?_, ?_⟩
      · clear B A C fewM
        rintro na nk nc is v ⟨rfl, P, M, rfl, B, A, C⟩
        refine split_not (fun e => by cases e) fun _ => split_not (fun e => by cases e) fun _ => ?_
        refine tw_all B fun h59 xa xc N => ⟨_, _, _, rfl, ?_⟩
        have B2 := B.subs N.sub
        have A2 := A.step (Step.sub N.sub)
        have C2 := C.step (Step.sub N.sub)
        refine same_spec N.own.row A2.own.row B.few rfl ⟨_, rfl, split_not (fun e => by cases e) fun _ => ?_⟩
        refine tw_all B2.swap fun h67 ya yc N2 => ⟨_, _, _, rfl, ?_⟩
        have C3 := C2.step (Step.sub N2.sub)
        refine same_spec N2.own.row C3.own.row B.swap.few rfl ⟨_, rfl, split_not (fun e => by cases e) fun _ => ?_⟩
        exact ⟨60 - (j + 1), by omega, j + 1, P, L, M, nextj, by omega, rfl, rfl, rfl, B2.subs N2.sub, A2.step (Step.sub N2.sub), C3⟩
      · refine split_dec (fun gj => ?_) fun _ => ⟨rfl, P, M, rfl, B, A, C⟩
        have gj : ((j : Nat) : Int) < ((ms.length : Nat) : Int) := gj
        have hq' : ms[j]? = some (ms[j]'(by omega)) := List.getElem?_eq_getElem (by omega)
        generalize ms[j]'(by omega) = o at hq'
        obtain ⟨b, oo, ea, hc⟩ := (hm.sub B.sub).get op6C_len (by decide) hq'
        have hc' : ∀ k v, (op6C o)[k]? = some v → w.cell b (oo + ((j : Nat) : Int).toNat * 6 + k) = some v := fun k v e => by rw [ejn]; exact hc k v e
        refine ⟨by omega, gj, b, oo, ea, _, hc' 0 _ rfl, _, hc' 1 _ rfl, _, hc' 2 _ rfl, _, hc' 3 _ rfl, _, hc' 4 _ rfl, _, hc' 5 _ rfl, ?_⟩
        refine light_spec o.a o.b o.c o.x o.y o.z ⟨_, rfl, split_not (fun _ => live w B.sub) fun e => by cases e⟩ fun hx hy hz => ⟨_, rfl, split_not (fun e => by cases e) fun _ => ?_⟩
        refine ⟨by omega, gj, b, oo, ea, _, hc' 0 _ rfl, split_eq (fun _ => ?_) fun _ => ?_⟩
        · refine ⟨by omega, gj, b, oo, ea, _, hc' 3 _ rfl, tw_drop B.swap o.x fun r h96 P' kp B' => ⟨_, rfl, by omega, gj, b, oo, ea, o.x, ?_, ?_⟩⟩
          · obtain ⟨b2, oo2, ea2, hc2⟩ := (hm.sub B'.sub).get op6C_len (by decide) hq'
            rw [ea] at ea2; cases ea2
            rw [ejn]; exact hc2 3 _ rfl
          · exact tw_ldrop B' (C.step ⟨kp, fun _ h => .inl h⟩) fewM o.x fun r2 h102 a' c' s C' => ⟨_, _, _, _, rfl, rfl, P', _, rfl, (B'.subs s).swap, (A.step ⟨kp, fun _ h => .inl h⟩).step (Step.sub s), C'⟩
        · refine ⟨by omega, gj, b, oo, ea, _, hc' 3 _ rfl, by omega, gj, b, oo, ea, _, hc' 0 _ rfl, _, hc' 1 _ rfl, _, hc' 2 _ rfl, _, hc' 3 _ rfl, _, hc' 4 _ rfl, _, hc' 5 _ rfl, ?_⟩
          refine value_spec o.a o.b o.c o.x o.y o.z hz fun h59 sv s59 hsv => ⟨_, rfl, s59, ?_⟩
          exact tw_put (B.swap.subs s59) (C.step (Step.sub s59)) o.x sv fun h1 h' P' L' a' c' kp s B' C' => ⟨_, _, _, _, rfl, rfl, P', L', rfl, B'.swap, ((A.step (Step.sub s59)).step ⟨kp, fun _ h => .inl h⟩).step (Step.sub s), C'⟩
    · refine split_dec (fun gj => ?_) fun _ => ⟨rfl, P, L, rfl, B, A, C⟩
      have gj : ((j : Nat) : Int) < ((os.length : Nat) : Int) := gj
      have hq' : os[j]? = some (os[j]'(by omega)) := List.getElem?_eq_getElem (by omega)
      generalize os[j]'(by omega) = o at hq'
      obtain ⟨b, oo, ea, hc⟩ := (ho.sub B.sub).get op6C_len (by decide) hq'
      have hc' : ∀ k v, (op6C o)[k]? = some v → z.cell b (oo + ((j : Nat) : Int).toNat * 6 + k) = some v := fun k v e => by rw [ejn]; exact hc k v e
      refine ⟨by omega, gj, b, oo, ea, _, hc' 0 _ rfl, _, hc' 1 _ rfl, _, hc' 2 _ rfl, _, hc' 3 _ rfl, _, hc' 4 _ rfl, _, hc' 5 _ rfl, ?_⟩
      refine light_spec o.a o.b o.c o.x o.y o.z ⟨_, rfl, split_not (fun _ => live z B.sub) fun e => by cases e⟩ fun hx hy hz => ⟨_, rfl, split_not (fun e => by cases e) fun _ => ?_⟩
      refine ⟨by omega, gj, b, oo, ea, _, hc' 0 _ rfl, split_eq (fun _ => ?_) fun _ => ?_⟩
      · refine ⟨by omega, gj, b, oo, ea, _, hc' 3 _ rfl, tw_drop B o.x fun r h96 P' kp B' => ⟨_, rfl, by omega, gj, b, oo, ea, o.x, ?_, ?_⟩⟩
        · obtain ⟨b2, oo2, ea2, hc2⟩ := (ho.sub B'.sub).get op6C_len (by decide) hq'
          rw [ea] at ea2; cases ea2
          rw [ejn]; exact hc2 3 _ rfl
        · exact tw_ldrop B' (A.step ⟨kp, fun _ h => .inl h⟩) fewL o.x fun r2 h102 a' c' s A' => ⟨_, _, _, _, rfl, rfl, P', _, rfl, B'.subs s, A', (C.step ⟨kp, fun _ h => .inl h⟩).step (Step.sub s)⟩
      · refine ⟨by omega, gj, b, oo, ea, _, hc' 3 _ rfl, by omega, gj, b, oo, ea, _, hc' 0 _ rfl, _, hc' 1 _ rfl, _, hc' 2 _ rfl, _, hc' 3 _ rfl, _, hc' 4 _ rfl, _, hc' 5 _ rfl, ?_⟩
        refine value_spec o.a o.b o.c o.x o.y o.z hz fun h59 sv s59 hsv => ⟨_, rfl, s59, ?_⟩
        exact tw_put (B.subs s59) (A.step (Step.sub s59)) o.x sv fun h1 h' P' L' a' c' kp s B' A' => ⟨_, _, _, _, rfl, rfl, P', L', rfl, B', A', ((C.step (Step.sub s59)).step ⟨kp, fun _ h => .inl h⟩).step (Step.sub s)⟩
end Go.Proofs.YthbogjbcecmopaaDoor
namespace Go.Proofs.YthbogjbcecmopaaDoor
open Go.Gx
set_option maxRecDepth 100000
set_option linter.unusedVariables false
theorem bempty_all (W : World) (a : Option Addr) (l c : Nat) (hr : RowOk Tryd.prog W 31 a l ∧ l ≤ c ∧ c ≤ maxLen ∧ (a = none → l = 0 ∧ c = 0)) (a2 : Option Addr) (l2 c2 : Nat) (hr2 : RowOk Tryd.prog W 3 a2 l2 ∧ l2 ≤ c2 ∧ c2 ≤ maxLen ∧ (a2 = none → l2 = 0 ∧ c2 = 0)) :
    CallsH Tryd.prog law15_BtreeEmpty.id #[.slice a l c, .slice a2 l2 c2] (heapOf W) fun v h' => v = .bool true ∧ Sub (heapOf W) h' := by
  obtain ⟨os, rfl, ho⟩ := op6_row hr.1
  obtain ⟨rs, rfl, hrs⟩ := intv_row hr2.1
  exact bempty_core a c os ho a2 c2 rs hrs
theorem btwo_all (W : World) (a : Option Addr) (l c : Nat) (hr : RowOk Tryd.prog W 31 a l ∧ l ≤ c ∧ c ≤ maxLen ∧ (a = none → l = 0 ∧ c = 0)) (a2 : Option Addr) (l2 c2 : Nat) (hr2 : RowOk Tryd.prog W 31 a2 l2 ∧ l2 ≤ c2 ∧ c2 ≤ maxLen ∧ (a2 = none → l2 = 0 ∧ c2 = 0)) :
    CallsH Tryd.prog law15_BtreeTwo.id #[.slice a l c, .slice a2 l2 c2] (heapOf W) fun v h' => v = .bool true ∧ Sub (heapOf W) h' := by
  obtain ⟨os, rfl, ho⟩ := op6_row hr.1
  obtain ⟨ms, rfl, hm⟩ := op6_row hr2.1
  exact btwo_core a c os ho a2 c2 ms hm
end Go.Proofs.YthbogjbcecmopaaDoor
namespace Go.Proofs.YthbogjbcecmopaaDoor.btreeTwo
open Go.ChangeShapes Go.WideShapes Go.ChangeAt Go.RowKit Go.Gx
open Go.ChangeMaps (open_string shut_string)
set_option linter.unusedVariables false
theorem own : ownKnob Tryd.prog.godebug = none := by kernel_rfl
theorem laidOut : laidOutB Tryd.prog = true := by kernel_rfl
set_option maxRecDepth 100000 in
theorem lifted (os : Os) (started : os.Started) (H : Type) (enc : TypeId × Value → H) :
    ReturnsInHanded {} Tryd.checked os 4 .any (fun w args => (Rows.btreeTwoSpec.pre enc Tryd.prog Tryd.f4 Rows.btreeTwoRow.domain false w args ∧ laidMetH Tryd.prog Rows.btreeTwoRow.laid w) ∧ sizedMet enc Tryd.prog Tryd.f4 (OpenSpec.ofChange Rows.btreeTwoSpec) false w args) (Rows.btreeTwoSpec.post enc Tryd.prog Tryd.f4 false true false false) := by
  refine returnsInHanded_of_change_and (C := Tryd.checked) (X := fun w _ => laidMetH Tryd.prog Rows.btreeTwoRow.laid w) (fun _ _ _ hh h => h.of_heap hh) own started (by kernel_rfl) Tryd.func4
    (ChangeSpec.witness_shaped (enc := enc) (C := Tryd.checked) (os := os) (X := fun w _ => laidMetH Tryd.prog Rows.btreeTwoRow.laid w) false (World.laidAll Tryd.prog os Rows.btreeTwoRow.laid) #[.slice none 0 0, .slice none 0 0] 8 (World.laidAll_os _ _ _)
      (World.shaped_of_ZipB (by kernel_rfl) (by kernel_rfl)) (by kernel_rfl) (by kernel_rfl) (by kernel_rfl)
      (by rw [MakeChecks.laidMetH_plain _ _ _ (by kernel_rfl)]; exact laidMet_laidAll _ (by kernel_rfl) (by kernel_rfl))) ?_
  intro W base args ds gs before hval0 hW hcnd hz _ _
  have hval : ∀ (j : Nat) t v, Tryd.f4.params[j]? = some t → args[j]? = some v → Value.okWide Tryd.prog W .any base t v := hval0
  have hW' := hW
  obtain ⟨p, q, hA0, hV, rfl, hfz, hnd⟩ := hW
  have hA : DataW.TrodAll enc Tryd.prog W 0 (fun _ => true) true Tryd.f4.params.toList args.toList ds p := hA0
  rw [Tryd.params4] at hA hval
  obtain ⟨v0, vs0, d0, ds0, p0, q0, hargs, rfl, rfl, h0, r0⟩ := trodAll_cons hA
  obtain ⟨v1, vs1, d1, ds1, p1, q1, rfl, rfl, rfl, h1, r1⟩ := trodAll_cons r0
  obtain ⟨rfl, rfl, rfl⟩ := trodAll_nil r1
  obtain rfl : args = #[v0, v1] := by cases args; simp_all
  obtain ⟨rfl, rfl⟩ := trodVars_none hV
  have k0 := h0
  have lt0 : ∀ x ∈ p0, x.block < W.heap.size := by obtain ⟨m, hm⟩ := k0; exact DataW.trod_lt m _ _ _ hm
  obtain ⟨a0, l0, c0, rfl⟩ := okWide_slice Tryd.underlying22 (hval 0 22 v0 rfl rfl)
  have w0 := row_ok Tryd.underlying22 (by kernel_rfl) (by kernel_rfl) rfl h0
  have k1 := h1
  have lt1 : ∀ x ∈ p1, x.block < W.heap.size := by obtain ⟨m, hm⟩ := k1; exact DataW.trod_lt m _ _ _ hm
  obtain ⟨a1, l1, c1, rfl⟩ := okWide_slice Tryd.underlying22 (hval 1 22 v1 rfl rfl)
  have w1 := row_ok Tryd.underlying22 (by kernel_rfl) (by kernel_rfl) rfl h1
  clear hA0 hval0
  refine (calls_below (btwo_all W a0 l0 c0 w0 a1 l1 c1 w1)).mono fun e W' ⟨he, bel⟩ => ?_
  subst he
  exact ⟨_, rfl, _, _, _, [], _, [], hW', trodAll_mk1 (shut_bool Tryd.underlying4 _), (trodAll_cons_mk (Below.trod laidOut (by kernel_rfl) (of_decide_eq_true (by kernel_rfl)) k0 bel lt0) (trodAll_cons_mk (Below.trod laidOut (by kernel_rfl) (of_decide_eq_true (by kernel_rfl)) k1 bel lt1) trodAll_mk0)), rfl, bel.frame _, fun h => by cases h⟩
theorem over : Rows.btreeTwoRow.holds Tryd.pinned (OpenSpec.ofChange Rows.btreeTwoSpec) :=
  OpenClaim.holds_of_wide 4 Tryd.f4 rfl rfl rfl rfl rfl rfl rfl ⟨rfl, rfl, rfl, rfl, rfl⟩ rfl rfl rfl rfl rfl (by kernel_rfl) Tryd.func4 (by kernel_rfl)
    (of_decide_eq_true (by kernel_rfl)) (by unfold Func.isWrapper; first | (rw [if_pos (by decide +kernel)]; kernel_rfl) | (rw [if_neg (by decide +kernel)]; exact ⟨rfl, rfl⟩))
    (fun os started H enc _ => lifted os started H enc)
theorem proved : Rows.BtreeTwoSaid := over
end Go.Proofs.YthbogjbcecmopaaDoor.btreeTwo
namespace Go.Proofs.YthbogjbcecmopaaDoor
theorem btreeTwo_holds : Rows.BtreeTwoCardSaid :=
  Claim7.holds_tied_plain_at .later [] [.data, .pinned] true (true, "d13a04189f45a636ff1ed914f98e24187893d9520986991d4f9b8db0ff89c484") false
    btreeTwo.proved (fun _ h => by cases h) (by kernel_rfl) (fun _ h => by cases h) btreeTwo_row_tie rfl ⟨rfl, rfl⟩ (by kernel_rfl) rfl
    (fun f fn hf hfn => by
      obtain rfl : f = 4 := Option.some.inj ((show Tryd.prog.funcNamed Rows.btreeTwoRow.func = some 4 by kernel_rfl).symm.trans hf) |>.symm
      obtain rfl : fn = Tryd.f4 := (Option.some.inj (Tryd.func4.symm.trans hfn)).symm
      exact ⟨by kernel_rfl, fun j t ht => by
        rw [Tryd.params4] at ht
        have hm : t ∈ [22, 22] := by simpa using Array.mem_of_getElem? ht
        have hall : ([22, 22].all fun u => !Tryd.prog.wantsStandIn u) = true := by kernel_rfl
        exact (show Tryd.prog.wantsStandIn t = false by simpa using List.all_eq_true.1 hall t hm)⟩)
    (by kernel_rfl)
#print axioms btreeTwo_holds
end Go.Proofs.YthbogjbcecmopaaDoor
