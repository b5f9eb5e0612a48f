/- The reference's new pager, what it says is changed, a commit of it; a pair of pagers in memory. Conditions: they lie as they are named. -/
import Derived.Test.YtagglohkipioiaaGreatP18
namespace Go.Proofs.YtagglohkipioiaaGreat
open Go.Gx
set_option maxRecDepth 100000
set_option linter.unusedVariables false

variable {h : Hp} {n : Nat} {K : Value → Hp → Prop}
/-- An append to a row that is new, beside what else stands. -/
theorem append_newR {α : Type} {f : α → List Value} {sz : Nat} {P : Program} {e : TypeId} {by_ : Nat} (T : AppT P e sz by_) (hf : ∀ x, (f x).length = sz) (hp : ∀ x, plainP (f x)) {h0 h : Hp} {a : Option Addr} {c : Nat} {L M : List α} {l n : Nat} {ys : List Value} {J : Option Addr → Nat → Hp → Prop} (N : NewR f sz e h0 h a c L)
    (hl : l = L.length) (hn : n = M.length) (hy : ys = rowC f M) (hb : (2 * (L.length + M.length) + 768) * by_ ≤ 281474976710656)
    (hJ : ∀ a' c' h', NewR f sz e h0 h' a' c' (L ++ M) → Keep (blkOf a) h h' → (∀ b, blkOf a' b → blkOf a b ∨ h b = none) → J a' c' h') : appendC P e a l c h ys n J :=
  append_ownR T hf hp N.own hl hn hy hb fun a' c' h' o1 o2 o3 => hJ a' c' h' ⟨o2.sub N.sub N.new, fun b hb => (o3 b hb).elim (N.new b) fun hn => N.sub.none hn, o1⟩ o2 o3
theorem NewR.keep {α : Type} {f : α → List Value} {sz : Nat} {e : TypeId} {h0 h h' : Hp} {a : Option Addr} {c : Nat} {L : List α} (N : NewR f sz e h0 h a c L) {S : Nat → Prop} (s : Keep S h h') (s0 : Sub h0 h') (hn : ∀ c, blkOf a c → ¬ S c) : NewR f sz e h0 h' a c L := ⟨s0, N.new, N.own.keep s hn⟩
/-- The cells of a pager of the reference's. -/
def rp15 (g w : RS) (pa : Option Addr) (pl pc : Nat) : List Value := [.slice g.ua g.us.length g.uc, .slice g.da g.ds.length g.dc, .int .i64 (g.r 0 : Nat), .int .i64 (g.r 1 : Nat), .int .i64 (g.r 2 : Nat), .int .i64 (g.r 3 : Nat), .int .u64 (g.s : Nat), .slice w.ua w.us.length w.uc, .slice w.da w.ds.length w.dc, .int .i64 (w.r 0 : Nat), .int .i64 (w.r 1 : Nat), .int .i64 (w.r 2 : Nat), .int .i64 (w.r 3 : Nat), .int .u64 (w.s : Nat), .slice pa pl pc]
set_option maxHeartbeats 1000000 in
theorem rnew_spec (hn : n ≤ 128) (hK : ∀ h' y, Sub h h' → RSOk h' n y → (∀ c, blkOf y.ua c → h c = none) → (∀ c, blkOf y.da c → h c = none) → K (.agg (rp15 y y none 0 0).toArray) h') : CallsH Tryz.prog ref14_New.id #[.int .i64 (n : Nat)] h K := by
  apply ref14_New.calls
  unfold ref14_New.W
  refine ⟨fun i a l c a' l' c' z1 z2 z3 z4 z5 x m => ∃ (j : Nat) (us : List Bool) (ds : List ByteArray), i = (j : Int) ∧ j ≤ n ∧ m = n - j ∧ us.length = j ∧ ds.length = j ∧ l = j ∧ l' = j ∧ z1 = 0 ∧ z2 = 0 ∧ z3 = 0 ∧ z4 = 0 ∧ z5 = 0 ∧ NewR boolC 1 4 h x a c us ∧ NewR strC 1 9 h x a' c' ds ∧ ∀ b, blkOf a b → ¬ blkOf a' b,
    ⟨_, 0, [], [], rfl, Nat.zero_le _, rfl, rfl, rfl, rfl, rfl, rfl, rfl, rfl, rfl, rfl, NewR.nil _ _, NewR.nil _ _, (by rintro c ⟨o, s, e⟩; cases e)⟩, ?_⟩
  rintro i a l c a' l' c' z1 z2 z3 z4 z5 x m ⟨j, us, ds, rfl, hj, rfl, hu, hd, rfl, rfl, rfl, rfl, rfl, rfl, rfl, Nu, Nd, dj⟩
  refine split_dec (fun g => ?_) fun g => ?_
  · have g : l' < n := by have : (l' : Int) < (n : Int) := g; omega
    intro k17 hk17
    have s17 := Sub.upd hk17 (.cells (boolC (hb (((l' : Nat) : Int) == 0))).toArray 4 (0, 0))
    have B17 := Blk.new x k17 4 (boolC (hb (((l' : Nat) : Int) == 0)))
    refine ⟨_, B17.slice rfl, fun a2 c2 y => NewR boolC 1 4 h y a2 c2 (us ++ [hb (((l' : Nat) : Int) == 0)]) ∧ NewR strC 1 9 h y a' c' ds ∧ ∀ b, blkOf a2 b → ¬ blkOf a' b, ?_, append_newR appTBool boolC_len boolC_plain (M := [hb (((l' : Nat) : Int) == 0)]) (Nu.upd s17) hu.symm rfl (rowC_one _).symm (by show (2 * (us.length + 1) + 768) * 1 ≤ _; omega) fun a2 c2 y N k nw => ⟨N, NewR.keep (Nd.upd s17) k N.sub fun c hc hc2 => dj c hc2 hc, fun b hb hb' => ?_⟩⟩
    rotate_left
    · exact (nw b hb).elim (fun h' => dj b h' hb') fun hn => Own.in_heap (Nd.upd s17).own hb' hn
    rintro a2 c2 y ⟨Nu2, Nd2, dj2⟩
    refine blank_spec fun z sz => ⟨_, rfl, sz, fun k26 hk26 => ?_⟩
    have s26 := Sub.upd hk26 (.cells (strC (zeroB 1024)).toArray 9 (0, 0))
    have B26 := Blk.new z k26 9 (strC (zeroB 1024))
    have Nu3 := (Nu2.upd sz).upd s26
    refine ⟨sz.trans s26, _, B26.slice rfl, fun a3 c3 w => NewR strC 1 9 h w a3 c3 (ds ++ [zeroB 1024]) ∧ NewR boolC 1 4 h w a2 c2 (us ++ [hb (((l' : Nat) : Int) == 0)]) ∧ ∀ b, blkOf a2 b → ¬ blkOf a3 b, ?_, append_newR appTStr strC_len strC_plain (M := [zeroB 1024]) ((Nd2.upd sz).upd s26) hd.symm rfl (rowC_one _).symm (by show (2 * (ds.length + 1) + 768) * 16 ≤ _; omega) fun a3 c3 w N k nw => ⟨N, NewR.keep Nu3 k N.sub fun c hc hc2 => dj2 c hc hc2, fun b hb hb' => ?_⟩⟩
    rotate_left
    · exact (nw b hb').elim (fun h' => dj2 b hb h') fun hn => Own.in_heap Nu3.own hb hn
    rintro a3 c3 w ⟨Nd4, Nu4, dj4⟩
    exact ⟨n - (l' + 1), by omega, l' + 1, _, _, by rw [wid (by omega) (by omega)]; omega, by omega, rfl, by rw [List.length_append, hu]; rfl, by rw [List.length_append, hd]; rfl, rfl, rfl, rfl, rfl, rfl, rfl, rfl, Nu4, Nd4, dj4⟩
  · have : l' = n := by
      have : ¬ (l' : Int) < (n : Int) := g
      omega
    subst this
    have := hK x ⟨a, c, a', c', us, ds, fun _ => 0, 0⟩ Nu.sub ⟨hu, hd, Nu.own.row, Nd.own.row, fun k _ => by show 0 < 128; decide⟩ Nu.new Nd.new
    unfold rp15 at this
    dsimp only at this
    rw [hu, hd] at this
    exact this
theorem root_lits {r : Nat → Nat} (hr : ∀ k, k < 4 → r k < 128) : LitsAre Tryz.prog 33 [.int .i64 (r 0 : Nat), .int .i64 (r 1 : Nat), .int .i64 (r 2 : Nat), .int .i64 (r 3 : Nat)] ((List.range 4).map fun k => Lit.int .i64 (r k : Nat)) := by
  show LitsAre Tryz.prog 33 (rootV r) _
  refine ⟨by rw [rootV_len]; kernel_rfl, 2, ?_⟩
  refine rowLits (d := 1) (e := 3) Tryz.underlying33 (rootV_len r) (by kernel_rfl) (by kernel_rfl) fun i hi => ?_
  have := hr i hi
  have wr : (Lit.int .i64 ((r i : Nat) : Int)).wf = true := by
    show (decide (IntKind.i64.min ≤ ((r i : Nat) : Int)) && decide (((r i : Nat) : Int) ≤ IntKind.i64.max)) = true
    have e3 : IntKind.i64.min = -9223372036854775808 := by decide
    have e4 : IntKind.i64.max = 9223372036854775807 := by decide
    rw [decide_eq_true (by omega), decide_eq_true (by omega)]; rfl
  rw [drop_take_one (rootV_get hi)]
  unfold Program.keyLits
  rw [Tryz.underlying3]
  simp only [wr, and_self, if_true]
set_option maxHeartbeats 1000000 in
theorem rchanged_spec {g w : RS} {pa : Option Addr} {pl pc : Nat} {oa : Option Addr} {oc : Nat} {old : List ByteArray} (G : RSOk h n g) (W : RSOk h n w) (O : RowAt strC 1 h oa old) (ho : old.length = n) (h1 : 1 ≤ n) (hn : n ≤ 128)
    (hK : ∀ h' a c L, NewR keyC 1 3 h h' a c L → (∀ p ∈ L, p < n) → L.length ≤ n → K (.slice a L.length c) h') :
    CallsH Tryz.prog ref14_Changed.id #[.agg (rp15 g w pa pl pc).toArray, .slice oa old.length oc] h K := by
  have glu := G.lu
  have wlu := W.lu
  have wld := W.ld
  apply ref14_Changed.calls
  unfold ref14_Changed.W
  refine ⟨_, _, root_lits W.rt, root_lits G.rt, fun b i x m => ∃ j : Nat, i = (j : Int) ∧ j ≤ n ∧ m = n - j ∧ x = h, ⟨_, 0, rfl, Nat.zero_le _, rfl, rfl⟩, ?_⟩
  rintro b i x m ⟨j, rfl, hj, rfl, rfl⟩
  have next : j < n → IntKind.i64.wrap ((j : Int) + 1) = ((j + 1 : Nat) : Int) := fun g => by rw [wid (by omega) (by omega)]; omega
  refine split_dec (fun gj => split_cond (fun _ => ?_) fun _ => ?_) fun gj => ?_
  · have gj : j < n := by have : (j : Int) < (w.us.length : Int) := gj; omega
    exact ⟨n - (j + 1), by omega, j + 1, next gj, by omega, rfl, rfl⟩
  · have gj : j < n := by have : (j : Int) < (w.us.length : Int) := gj; omega
    obtain ⟨b1, o1, e1, c1⟩ := W.ru.get boolC_len (by decide) (List.getElem?_eq_getElem (show j < w.us.length by omega))
    obtain ⟨b2, o2, e2, c2⟩ := G.ru.get boolC_len (by decide) (List.getElem?_eq_getElem (show j < g.us.length by omega))
    exact ⟨by omega, by show (j : Int) < (w.us.length : Int); omega, b1, o1, e1, _, by rw [Int.toNat_natCast]; exact c1 0 _ rfl, by omega, by show (j : Int) < (g.us.length : Int); omega, b2, o2, e2, _, by rw [Int.toNat_natCast]; exact c2 0 _ rfl, n - (j + 1), by omega, j + 1, next gj, by omega, rfl, rfl⟩
  clear gj next hj
  refine ⟨fun a l c y => ∃ L, NewR keyC 1 3 x y a c L ∧ l = L.length ∧ (∀ p ∈ L, p < n) ∧ L.length ≤ 1, ?_, split_cond (fun _ => fun k48 hk48 => ?_) fun _ => ⟨[], NewR.nil _ _, rfl, (fun p hp => by cases hp), by decide⟩⟩
  rotate_left
  · have s48 := Sub.upd hk48 (.cells (keyC 0).toArray 3 (0, 0))
    refine ⟨_, (Blk.new x k48 3 (keyC 0)).slice rfl, fun a c y => NewR keyC 1 3 x y a c [0], fun a c y N => ⟨[0], N, rfl, fun p hp => by rw [List.mem_singleton.1 hp]; omega, Nat.le_refl _⟩, append_row appTInt keyC_len keyC_plain (M := [0]) ((NewR.nil 3 x).upd s48) rfl rfl rfl (by decide) fun a c y N => N⟩
  rintro a l c y ⟨L, N, rfl, hL, hl1⟩
  refine ⟨fun a l c i z m => ∃ (j : Nat) (L : List Nat), i = (j : Int) ∧ 1 ≤ j ∧ j ≤ n ∧ m = n - j ∧ NewR keyC 1 3 x z a c L ∧ l = L.length ∧ (∀ p ∈ L, p < n) ∧ L.length ≤ j, ⟨_, 1, L, rfl, Nat.le_refl _, h1, rfl, N, rfl, hL, hl1⟩, ?_⟩
  clear N hL hl1
  rintro a l c i z m ⟨j, L, rfl, hj1, hj, rfl, N, rfl, hL, hl1⟩
  refine split_dec (fun gj => ?_) fun gj => hK z a c L N hL (by omega)
  have gj : j < n := by have : (j : Int) < (w.us.length : Int) := gj; omega
  have next : IntKind.i64.wrap ((j : Int) + 1) = ((j + 1 : Nat) : Int) := by rw [wid (by omega) (by omega)]; omega
  obtain ⟨b1, o1, e1, c1⟩ := (W.ru.sub N.sub).get boolC_len (by decide) (List.getElem?_eq_getElem (show j < w.us.length by omega))
  refine ⟨by omega, by show (j : Int) < (w.us.length : Int); omega, b1, o1, e1, _, by rw [Int.toNat_natCast]; exact c1 0 _ rfl, split_cond (fun _ => ?_) fun _ => ⟨n - (j + 1), by omega, j + 1, L, next, by omega, by omega, rfl, N, rfl, hL, by omega⟩⟩
  obtain ⟨b2, o2, e2, c2⟩ := (W.rd.sub N.sub).get strC_len (by decide) (List.getElem?_eq_getElem (show j < w.ds.length by omega))
  obtain ⟨b3, o3, e3, c3⟩ := (O.sub N.sub).get strC_len (by decide) (List.getElem?_eq_getElem (show j < old.length by omega))
  refine ⟨by omega, by show (j : Int) < (w.ds.length : Int); omega, b2, o2, e2, _, by rw [Int.toNat_natCast]; exact c2 0 _ rfl, by omega, by show (j : Int) < (old.length : Int); omega, b3, o3, e3, _, by rw [Int.toNat_natCast]; exact c3 0 _ rfl, split_not (fun _ => fun k39 hk39 => ?_) fun _ => ⟨n - (j + 1), by omega, j + 1, L, next, by omega, by omega, rfl, N, rfl, hL, by omega⟩⟩
  have s39 := Sub.upd hk39 (.cells (keyC j).toArray 3 (0, 0))
  refine ⟨_, (Blk.new z k39 3 (keyC j)).slice rfl, fun a c y => NewR keyC 1 3 x y a c (L ++ [j]), fun a c y N2 => ⟨n - (j + 1), by omega, j + 1, L ++ [j], next, by omega, by omega, rfl, N2, by rw [List.length_append]; rfl, fun p hp => ?_, by rw [List.length_append]; show L.length + 1 ≤ _; omega⟩, append_row appTInt keyC_len keyC_plain (M := [j]) (N.upd s39) rfl rfl (rowC_one _).symm (by show (2 * (L.length + 1) + 768) * 8 ≤ _; omega) fun a c y N => N⟩
  rcases List.mem_append.1 hp with h' | h'
  · exact hL p h'
  · rw [List.mem_singleton.1 h']; exact gj
/-! ### a pair in memory -/
structure Pr where
  g : RS
  w : RS
  pts : List RS
  pa : Option Addr
  pc : Nat
  oa : Option Addr
  oc : Nat
  old : List ByteArray
def prC (jp pp : Option Addr) (P : Pr) : List Value := [.pointer jp, .pointer pp, .slice P.g.ua P.g.us.length P.g.uc, .slice P.g.da P.g.ds.length P.g.dc, .int .i64 (P.g.r 0 : Nat), .int .i64 (P.g.r 1 : Nat), .int .i64 (P.g.r 2 : Nat), .int .i64 (P.g.r 3 : Nat), .int .u64 (P.g.s : Nat), .slice P.w.ua P.w.us.length P.w.uc, .slice P.w.da P.w.ds.length P.w.dc, .int .i64 (P.w.r 0 : Nat), .int .i64 (P.w.r 1 : Nat), .int .i64 (P.w.r 2 : Nat), .int .i64 (P.w.r 3 : Nat), .int .u64 (P.w.s : Nat), .slice P.pa P.pts.length P.pc, .slice P.oa P.old.length P.oc]
theorem prC_len {jp pp : Option Addr} {P : Pr} : (prC jp pp P).length = 18 := rfl
/-- What a slice has stands in memory, and is touched by nobody. -/
def Cl (h : Hp) (zb : Nat) (S : Nat → Prop) (a : Option Addr) : Prop := ∀ c, blkOf a c → h c ≠ none ∧ ¬ S c ∧ c ≠ zb
structure RSCl (h : Hp) (zb : Nat) (S : Nat → Prop) (n : Nat) (x : RS) : Prop where
  ok : RSOk h n x
  cu : Cl h zb S x.ua
  cd : Cl h zb S x.da
structure PairAt (h : Hp) (zb : Nat) (S : Nat → Prop) (n : Nat) (jp pp : Option Addr) (P : Pr) : Prop where
  blk : Blk h zb 41 (prC jp pp P)
  nz : ¬ S zb
  g : RSCl h zb S n P.g
  w : RSCl h zb S n P.w
  ps : ∀ x ∈ P.pts, RSCl h zb S n x
  pr : RowAt rsC 7 h P.pa P.pts
  cp : Cl h zb S P.pa
  od : RowAt strC 1 h P.oa P.old
  co : Cl h zb S P.oa
  ol : P.old.length = n
  few : P.pts.length ≤ 16
  cap : P.pts.length ≤ P.pc
variable {zb : Nat} {S : Nat → Prop} {jp pp : Option Addr} {P : Pr}
theorem Cl.keep {h h' : Hp} {S S' T : Nat → Prop} {a : Option Addr} (C : Cl h zb S a) (k : Keep T h h') (hT : ∀ c, blkOf a c → ¬ T c) (hS : ∀ c, S' c → S c ∨ h c = none) : Cl h' zb S' a := fun c hc => by
  obtain ⟨h1, h2, h3⟩ := C c hc
  refine ⟨fun e => ?_, fun hs => (hS c hs).elim h2 h1, h3⟩
  obtain ⟨o, ho⟩ := Option.ne_none_iff_exists'.1 h1
  rw [k c o ho (hT c hc)] at e; cases e
theorem Cl.none {h : Hp} {S : Nat → Prop} : Cl h zb S none := fun c hc => by obtain ⟨o, s, e⟩ := hc; cases e
theorem RSCl.keep {h h' : Hp} {S S' T : Nat → Prop} {x : RS} (R : RSCl h zb S n x) (k : Keep T h h') (hT : ∀ c, T c → S c ∨ c = zb) (hS : ∀ c, S' c → S c ∨ h c = none) : RSCl h' zb S' n x := by
  have nu : ∀ c, blkOf x.ua c → ¬ T c := fun c hc ht => (hT c ht).elim (R.cu c hc).2.1 (R.cu c hc).2.2
  have nd : ∀ c, blkOf x.da c → ¬ T c := fun c hc ht => (hT c ht).elim (R.cd c hc).2.1 (R.cd c hc).2.2
  exact ⟨R.ok.keep k nu nd, R.cu.keep k nu hS, R.cd.keep k nd hS⟩
/-- A pair behind what changes only the pager's blocks, and the pair's own. -/
theorem PairAt.keep {h' : Hp} {S' T : Nat → Prop} {jp' pp' : Option Addr} (A : PairAt h zb S n jp pp P) (k : Keep T h h') (hT : ∀ c, T c → S c ∨ c = zb) (hS : ∀ c, S' c → S c ∨ h c = none) (B : Blk h' zb 41 (prC jp' pp' P)) : PairAt h' zb S' n jp' pp' P := by
  have np : ∀ c, blkOf P.pa c → ¬ T c := fun c hc ht => (hT c ht).elim (A.cp c hc).2.1 (A.cp c hc).2.2
  have no : ∀ c, blkOf P.oa c → ¬ T c := fun c hc ht => (hT c ht).elim (A.co c hc).2.1 (A.co c hc).2.2
  refine ⟨B, fun hs => (hS _ hs).elim A.nz fun e => ?_, A.g.keep k hT hS, A.w.keep k hT hS, fun x hx => (A.ps x hx).keep k hT hS, A.pr.keep k np, A.cp.keep k np hS, A.od.keep k no, A.co.keep k no hS, A.ol, A.few, A.cap⟩
  have := A.blk
  unfold Blk at this
  rw [this] at e; cases e
theorem PairAt.step {h' : Hp} {S' : Nat → Prop} (A : PairAt h zb S n jp pp P) (st : Step S h S' h') : PairAt h' zb S' n jp pp P := A.keep st.1 (fun c hc => .inl hc) st.2 (A.blk.keep st.1 A.nz)
theorem PairAt.sub {h' : Hp} (A : PairAt h zb S n jp pp P) (s : Sub h h') : PairAt h' zb S n jp pp P := A.step (Step.sub s)
theorem cell_in {h : Hp} {b o : Nat} {v : Value} (e : h.cell b o = some v) : h b ≠ none := fun e2 => by
  unfold Hp.cell at e
  rw [e2] at e; cases e
theorem row_in {α : Type} {f : α → List Value} {sz : Nat} (hf : ∀ x, (f x).length = sz) (hz : 0 < sz) {h : Hp} {a : Option Addr} {L : List α} (R : RowAt f sz h a L) (hL : 0 < L.length) {c : Nat} (hc : blkOf a c) : h c ≠ none := by
  obtain ⟨b, o, ea, hcell⟩ := R.get hf hz (List.getElem?_eq_getElem hL)
  obtain ⟨o', s', e⟩ := hc
  rw [ea] at e; cases e
  have : (f L[0])[0]? = some ((f L[0])[0]'(by rw [hf]; exact hz)) := List.getElem?_eq_getElem _
  exact cell_in (hcell 0 _ this)
theorem RSTo.cl {h' : Hp} {x y : RS} (T : RSTo h h' n x y) (h1 : 1 ≤ n) (R : RSCl h zb S n x) (nS : ∀ c, S c → h c ≠ none) (nz : h zb ≠ none) : RSCl h' zb S n y := by
  have go : ∀ {a b : Option Addr}, Cl h zb S a → (∀ c, blkOf b c → blkOf a c ∨ h c = none) → (∀ c, blkOf b c → h' c ≠ none) → Cl h' zb S b := fun C hb hin c hc => by
    refine ⟨hin c hc, fun hs => ?_, fun e => ?_⟩
    · exact (hb c hc).elim (fun h2 => (C c h2).2.1 hs) (nS c hs)
    · exact (hb c hc).elim (fun h2 => (C c h2).2.2 e) fun h2 => nz (e ▸ h2)
  exact ⟨T.ok, go R.cu T.fu fun c hc => row_in boolC_len (by decide) T.ok.ru (by rw [T.ok.lu]; exact h1) hc, go R.cd T.fd fun c hc => row_in strC_len (by decide) T.ok.rd (by rw [T.ok.ld]; exact h1) hc⟩
theorem PairAt.nh (A : PairAt h zb S n jp pp P) : h zb ≠ none := fun e => by have := A.blk; unfold Blk at this; rw [this] at e; cases e
/-- The pair's block is written. -/
theorem PairAt.set {jp' pp' : Option Addr} {P' : Pr} (A : PairAt h zb S n jp pp P) {o : Nat} {vs : List Value} (e : setL (prC jp pp P) o vs = prC jp' pp' P') (hg : RSCl h zb S n P'.g) (hw : RSCl h zb S n P'.w) (hp : ∀ x ∈ P'.pts, RSCl h zb S n x) (pr : RowAt rsC 7 h P'.pa P'.pts) (cp : Cl h zb S P'.pa)
    (od : RowAt strC 1 h P'.oa P'.old) (co : Cl h zb S P'.oa) (ol : P'.old.length = n) (few : P'.pts.length ≤ 16) (cap : P'.pts.length ≤ P'.pc) : PairAt (h.put zb o vs) zb S n jp' pp' P' := by
  have k : Keep (fun c => c = zb) h (h.put zb o vs) := Keep.put _ _ _ _ rfl
  have hT : ∀ c, c = zb → S c ∨ c = zb := fun c hc => .inr hc
  have hS : ∀ c, S c → S c ∨ h c = none := fun c hc => .inl hc
  have B := A.blk.put o vs
  rw [e] at B
  exact ⟨B, A.nz, hg.keep k hT hS, hw.keep k hT hS, fun x hx => (hp x hx).keep k hT hS, pr.keep k fun c hc => (cp c hc).2.2, cp.keep k (fun c hc => (cp c hc).2.2) hS, od.keep k fun c hc => (co c hc).2.2, co.keep k (fun c hc => (co c hc).2.2) hS, ol, few, cap⟩
/-- Of the pair's block and the pager's ones. -/
def PT (S : Nat → Prop) (zb : Nat) (c : Nat) : Prop := S c ∨ c = zb
theorem PT.put (S : Nat → Prop) (h : Hp) (o : Nat) (vs : List Value) : Step (PT S zb) h (PT S zb) (h.put zb o vs) := ⟨Keep.put _ _ _ _ (.inr rfl), fun c hc => .inl hc⟩
theorem PT.step {S' : Nat → Prop} {h h' : Hp} (st : Step S h S' h') : Step (PT S zb) h (PT S' zb) h' := ⟨st.1.mono fun c hc => .inl hc, fun c hc => by
  rcases hc with hc | hc
  · exact (st.2 c hc).imp (fun h2 => .inl h2) id
  · exact .inl (.inr hc)⟩
theorem cl_new {h h' : Hp} {a : Option Addr} (nS : ∀ c, S c → h c ≠ none) (nz : h zb ≠ none) (hn : ∀ c, blkOf a c → h c = none) (hin : ∀ c, blkOf a c → h' c ≠ none) : Cl h' zb S a := fun c hc => ⟨hin c hc, fun hs => nS c hs (hn c hc), fun e => nz (e ▸ hn c hc)⟩
set_option maxHeartbeats 2000000 in
theorem committed_spec (A : PairAt h zb S n jp pp P) (nS : ∀ c, S c → h c ≠ none) (h1 : 1 ≤ n) (hn : n ≤ 128) (hK : ∀ h' P', PairAt h' zb S n jp pp P' → Step (PT S zb) h (PT S zb) h' → (∀ c, S c → h' c ≠ none) → Keep (fun c => c = zb) h h' → K (.tuple #[]) h') :
    CallsH Tryz.prog law14_pair_committed.id #[.pointer (some ⟨zb, 0, none⟩)] h K := by
  apply law14_pair_committed.calls
  unfold law14_pair_committed.W
  have B := A.blk
  refine ⟨_, _, _, B.cell' 2 rfl, _, _, _, B.cell' 3 rfl, _, B.cell' 4 rfl, _, B.cell' 5 rfl, _, B.cell' 6 rfl, _, B.cell' 7 rfl, _, B.cell' 8 rfl, _, _, _, B.cell' 9 rfl, _, _, _, B.cell' 10 rfl, _, B.cell' 11 rfl, _, B.cell' 12 rfl, _, B.cell' 13 rfl, _, B.cell' 14 rfl, _, B.cell' 15 rfl, _, _, _, B.cell' 16 rfl, _, _, _, B.cell' 17 rfl, ?_⟩
  refine rchanged_spec A.g.ok A.w.ok A.od A.ol h1 hn fun h30 la lc L NL hL hlen => ⟨_, _, _, rfl, ?_⟩
  have A30 := A.sub NL.sub
  have nz := A.nh
  have nS30 : ∀ c, S c → h30 c ≠ none := fun c hc e => nS c hc (NL.sub.none e)
  have nL : ∀ c, blkOf la c → c ≠ zb := fun c hc e => nz (e ▸ NL.new c hc)
  refine ⟨fun x => ∃ W, PairAt x zb S n jp pp { P with w := W } ∧ Step (PT S zb) h (PT S zb) x ∧ Keep (fun c => c = zb) h x ∧ OwnR keyC 1 x 3 la lc L, ?_, split_dec (fun _ => ?_) fun _ => ⟨P.w, A30, Step.sub NL.sub, NL.sub.keep _, NL.own⟩⟩
  rotate_left
  · have ew : IntKind.u64.wrap (((P.w.s : Nat) : Int) + 1) = (((P.w.s + 1) % 18446744073709551616 : Nat) : Int) := by rw [wrap64]; omega
    refine ⟨_, A30.blk.cell' 15 rfl, A30.blk.store (by rw [prC_len]; decide), ?_⟩
    rw [ew]
    have hw : RSCl h30 zb S n { P.w with s := (P.w.s + 1) % 18446744073709551616 } := ⟨⟨A30.w.ok.lu, A30.w.ok.ld, A30.w.ok.ru, A30.w.ok.rd, A30.w.ok.rt⟩, A30.w.cu, A30.w.cd⟩
    have A2 := A30.set (o := 15) (vs := [.int .u64 (((P.w.s + 1) % 18446744073709551616 : Nat) : Int)]) (jp' := jp) (pp' := pp) (P' := { P with w := { P.w with s := (P.w.s + 1) % 18446744073709551616 } }) rfl A30.g hw A30.ps A30.pr A30.cp A30.od A30.co A30.ol A30.few A30.cap
    have kp : Keep (fun c => c = zb) h30 (h30.put zb 15 [.int .u64 (((P.w.s + 1) % 18446744073709551616 : Nat) : Int)]) := Keep.put _ _ _ _ rfl
    exact ⟨_, A2, (Step.sub NL.sub).trans (PT.put S h30 _ _), (NL.sub.keep _).trans kp, NL.own.keep kp nL⟩
  rintro x35 ⟨W, A35, st35, k35, OL⟩
  have hol := A.ol
  have nS35 : ∀ c, S c → x35 c ≠ none := fun c hc => by
    obtain ⟨o, ho⟩ := Option.ne_none_iff_exists'.1 (nS c hc)
    rw [k35 c o ho fun e => A.nz (e ▸ hc)]; simp
  have nz35 := A35.nh
  refine ⟨_, _, _, A35.blk.cell' 17 rfl, _, A35.od, fun a c y => NewR strC 1 9 x35 y a c P.old, ?_, append_row appTStr strC_len strC_plain (M := P.old) (NewR.nil _ _) rfl rfl rfl (by show (2 * (0 + P.old.length) + 768) * 16 ≤ _; omega) fun a c y N => N⟩
  rintro a41 c42 x43 N43
  refine ⟨fun i x m => ∃ (j : Nat) (os : List ByteArray), i = (j : Int) ∧ j ≤ L.length ∧ m = L.length - j ∧ os.length = n ∧ NewR strC 1 9 x35 x a41 c42 os, ⟨_, 0, P.old, rfl, Nat.zero_le _, rfl, A.ol, N43⟩, ?_⟩
  rintro i x m ⟨j, os, rfl, hj, rfl, hos, N⟩
  have Ax := A35.sub N.sub
  have Ax : PairAt x zb S n jp pp { P with w := W } := Ax
  refine split_dec (fun gj => ?_) fun gj => ?_
  · have gj : j < L.length := by have : (j : Int) < (L.length : Int) := gj; omega
    obtain ⟨p, hp⟩ : ∃ p, L[j]? = some p := ⟨_, List.getElem?_eq_getElem gj⟩
    have hpn := hL p (List.mem_of_getElem? hp)
    obtain ⟨kb, ko, ea, hcell⟩ := (OL.sub N.sub).row.get keyC_len (by decide) hp
    have idx : ∀ k : Nat, k + (j : Int).toNat * 1 = k + j * 1 := fun k => by rw [Int.toNat_natCast]
    have lt : (j : Int) < (L.length : Int) := by omega
    have next : IntKind.i64.wrap ((j : Int) + 1) = ((j + 1 : Nat) : Int) := by rw [wid (by omega) (by omega)]; omega
    refine ⟨by omega, lt, kb, ko, ea, _, by rw [idx]; exact hcell 0 _ rfl, split_dec (fun g0 => ?_) fun _ => ⟨L.length - (j + 1), by omega, j + 1, os, next, by omega, rfl, hos, N⟩⟩
    have hwl := Ax.w.ok.ld
    have hwl : W.ds.length = n := hwl
    obtain ⟨b2, o2, e2, c2⟩ := Ax.w.ok.rd.get strC_len (by decide) (List.getElem?_eq_getElem (show p < W.ds.length by omega))
    obtain ⟨b1, e1, so1, N1⟩ := N.put strC_len (i := p) (j := 0) (y := W.ds[p]) (vs := [.string W.ds[p]]) (List.getElem?_eq_getElem (by omega)) (by decide) (Nat.le_refl _) rfl
    have idp : ∀ k : Nat, k + (p : Int).toNat * 1 = k + p * 1 + 0 := fun k => by rw [Int.toNat_natCast]; rfl
    refine ⟨by omega, lt, kb, ko, ea, _, by rw [idx]; exact hcell 0 _ rfl, _, _, _, Ax.blk.cell' 10 rfl, by omega, lt, kb, ko, ea, _, by rw [idx]; exact hcell 0 _ rfl, by omega, by show (p : Int) < (W.ds.length : Int); omega, b2, o2, e2, W.ds[p], by rw [idp]; exact c2 0 _ rfl, by omega, by show (p : Int) < ((0 + P.old.length : Nat) : Int); omega, b1, 0, e1, by rw [idp]; exact so1, L.length - (j + 1), by omega, j + 1, os.set p W.ds[p], next, by omega, rfl, by rw [List.length_set]; exact hos, ?_⟩
    rw [idp]; exact N1
  · have e0 : 0 + P.old.length = os.length := by omega
    rw [e0]
    have cl : Cl x zb S a41 := cl_new nS35 nz35 N.new fun c hc => Own.in_heap N.own hc
    have A1 := Ax.set (o := 17) (vs := [.slice a41 os.length c42]) (jp' := jp) (pp' := pp) (P' := { P with w := W, oa := a41, oc := c42, old := os }) rfl Ax.g Ax.w Ax.ps Ax.pr Ax.cp N.own.row cl hos Ax.few Ax.cap
    have B1 := A1.blk
    have A2 := A1.set (o := 2) (vs := rp15 W W none 0 0) (jp' := jp) (pp' := pp) (P' := ⟨W, W, [], none, 0, a41, c42, os⟩) rfl A1.w A1.w (fun x hx => by cases hx) (RowAt.nil _ _) Cl.none A1.od A1.co hos (Nat.zero_le _) (Nat.zero_le _)
    have kp : ∀ (z : Hp) (o : Nat) (vs : List Value), Keep (fun c => c = zb) z (z.put zb o vs) := fun z o vs => Keep.put _ z o vs rfl
    have kk := (k35.trans (N.sub.keep _)).trans ((kp x 17 [.slice a41 os.length c42]).trans (kp _ 2 (rp15 W W none 0 0)))
    refine ⟨Ax.blk.store (by rw [prC_len]; decide), _, _, _, B1.cell' 9 rfl, _, _, _, B1.cell' 10 rfl, _, B1.cell' 11 rfl, _, B1.cell' 12 rfl, _, B1.cell' 13 rfl, _, B1.cell' 14 rfl, _, B1.cell' 15 rfl, _, _, _, B1.cell' 9 rfl, _, _, _, B1.cell' 10 rfl, _, B1.cell' 11 rfl, _, B1.cell' 12 rfl, _, B1.cell' 13 rfl, _, B1.cell' 14 rfl, _, B1.cell' 15 rfl, B1.store (by rw [prC_len]; decide), ?_⟩
    refine hK _ _ A2 ((st35.trans (Step.sub N.sub)).trans ((PT.put S x _ _).trans (PT.put S _ _ _))) (fun c hc => ?_) kk
    obtain ⟨o, ho⟩ := Option.ne_none_iff_exists'.1 (nS c hc)
    have := kk c o ho fun e => A.nz (e ▸ hc)
    intro e
    have e2 := this.symm.trans e
    cases e2
end Go.Proofs.YtagglohkipioiaaGreat
