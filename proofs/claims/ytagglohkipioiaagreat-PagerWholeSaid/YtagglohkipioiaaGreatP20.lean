/- A new pair; one step on it. Conditions: 2 to 10 pages, no failure is set. -/
import Derived.Test.YtagglohkipioiaaGreatP19
namespace Go.Proofs.YtagglohkipioiaaGreat
open Go.Gx
set_option maxRecDepth 100000
set_option linter.unusedVariables false

variable {h : Hp} {pb jb db n zb : Nat} {S : Nat → Prop} {D : Dk} {P : Pg} {jp pp : Option Addr} {R : Pr} {K : Value → Hp → Prop}
theorem z900 : zeroL Tryz.prog 41 = prC none none ⟨⟨none, 0, none, 0, [], [], fun _ => 0, 0⟩, ⟨none, 0, none, 0, [], [], fun _ => 0, 0⟩, [], none, 0, none, 0, []⟩ := by kernel_rfl
theorem begun_bad (pages : Int) (hp : pages < 2 ∨ pages > 10) (hK : K (.pointer none) h) : CallsH Tryz.prog law14_begun.id #[.int .i64 pages] h K := by
  apply law14_begun.calls
  unfold law14_begun.W
  exact opened_bad pages hp ⟨_, _, _, rfl, split_cond (fun _ => hK) fun e => by cases e⟩
set_option maxHeartbeats 1000000 in
theorem begun_spec (h1 : 2 ≤ n) (h2 : n ≤ 10) (hK : ∀ h' zb pb jb db S R, Sub h h' → PgAt h' pb jb db S n (Dk.new (8 * n + 1)) newPg → PairAt h' zb S n (some ⟨jb, 0, none⟩) (some ⟨pb, 0, none⟩) R → (∀ c, PT S zb c → h c = none) → K (.pointer (some ⟨zb, 0, none⟩)) h') :
    CallsH Tryz.prog law14_begun.id #[.int .i64 (n : Nat)] h K := by
  apply law14_begun.calls
  unfold law14_begun.W
  refine opened_spec n h1 h2 fun h2' pb jb db S s2 E2 f2 => ⟨_, _, _, rfl, split_cond (fun e => by cases e) fun _ => ?_⟩
  refine rnew_spec (by omega) fun h7 y s7 Y fu fd => ⟨_, _, _, _, _, _, _, _, _, _, _, _, _, _, _, _, _, _, _, _, _, _, _, _, _, rfl, rfl, rfl, rfl, rfl, fun zb hzb => ?_⟩
  rw [z900]
  show K _ (h7.upd zb (.cells (prC (some ⟨jb, 0, none⟩) (some ⟨pb, 0, none⟩) ⟨y, y, [], none, 0, y.da, y.dc, y.ds⟩).toArray 41 (0, 0)))
  have sz := Sub.upd hzb (.cells (prC (some ⟨jb, 0, none⟩) (some ⟨pb, 0, none⟩) ⟨y, y, [], none, 0, y.da, y.dc, y.ds⟩).toArray 41 (0, 0))
  have B := Blk.new h7 zb 41 (prC (some ⟨jb, 0, none⟩) (some ⟨pb, 0, none⟩) ⟨y, y, [], none, 0, y.da, y.dc, y.ds⟩)
  generalize (h7.upd zb (.cells (prC (some ⟨jb, 0, none⟩) (some ⟨pb, 0, none⟩) ⟨y, y, [], none, 0, y.da, y.dc, y.ds⟩).toArray 41 (0, 0))) = z at sz B
  have cl : ∀ {a : Option Addr}, (∀ c, blkOf a c → h2' c = none) → (∀ c, blkOf a c → h7 c ≠ none) → Cl z zb S a := fun hn hin c hc => by
    obtain ⟨o, ho⟩ := Option.ne_none_iff_exists'.1 (hin c hc)
    refine ⟨fun e => ?_, fun hs => E2.in_heap hs (hn c hc), fun e => hin c hc (by rw [e]; exact hzb)⟩
    rw [sz c o ho] at e; cases e
  have cu : Cl z zb S y.ua := cl fu fun c hc => row_in boolC_len (by decide) Y.ru (by rw [Y.lu]; omega) hc
  have cd : Cl z zb S y.da := cl fd fun c hc => row_in strC_len (by decide) Y.rd (by rw [Y.ld]; omega) hc
  have Yz := Y.sub sz
  refine hK z zb pb jb db S _ ((s2.trans s7).trans sz) ((E2.sub s7).sub sz) ⟨B, fun hs => E2.in_heap hs (s7.none hzb), ⟨Yz, cu, cd⟩, ⟨Yz, cu, cd⟩, (fun x hx => by cases hx), RowAt.nil _ _, Cl.none, Yz.rd, cd, Y.ld, Nat.zero_le _, Nat.zero_le _⟩ ?_
  rintro c (hc | rfl)
  · exact f2 c hc
  · exact s2.none (s7.none hzb)
/-! ### one step -/
def DOn (D : Dk) : Prop := D.down = false ∧ D.fuse = 0 ∧ D.ws = []
/-- What a step makes of a pager, and of its disk. -/
inductive Tr (n : Nat) (P : Pg) (D : Dk) : Int → Pg → Dk → Prop
  | same (o : Int) : Tr n P D o P D
  | alloc (i : Nat) (h1 : 1 ≤ i) (h2 : i < n) : Tr n P D 0 (P.alloc i) D
  | give (k : Nat) : Tr n P D 1 (P.give k) D
  | write (k : Nat) (s : ByteArray) : Tr n P D 2 (P.write k s) D
  | point (t j : Nat) : Tr n P D 3 (P.point t j) D
  | save : Tr n P D 4 P.save D
  | back (k : Nat) (q : Hd × List Ch) (hq : P.pts[k]? = some q) : Tr n P D 5 (P.back k q) D
  | commit0 (hc : P.chg D n = []) : Tr n P D 6 (Pg.reset P.now) D
  | commit1 (hc : P.chg D n ≠ []) (hs : P.now.s < 9223372036854775807) : Tr n P D 6 (Pg.reset P.now.up) (commitD n D (P.cs D n)).1
  | abort (o : Int) (ho : o = 7 ∨ o = 8) : Tr n P D o (Pg.reset P.good) D
  | fresh (H : Hd) : Tr n P D 8 ⟨H, H, [], []⟩ D
theorem pair_now (E : PgAt h pb jb db S n D P) (A : PairAt h zb S n jp pp R) {h1 : Hp} {y : RS} (T : RSTo h h1 n R.w y) (hn : 1 ≤ n) :
    PgAt (h1.put zb 9 (rsC y)) pb jb db S n D P ∧ PairAt (h1.put zb 9 (rsC y)) zb S n jp pp { R with w := y } ∧ Step (PT S zb) h (PT S zb) (h1.put zb 9 (rsC y)) ∧ StoreOk h1 zb 9 7 := by
  have A1 := A.sub T.sub
  have cl := T.cl hn A.w (fun c hc => E.in_heap hc) A.nh
  refine ⟨(E.sub T.sub).out (Keep.put (fun c => c = zb) _ _ _ rfl) fun c hc e => A.nz (e ▸ hc), A1.set (o := 9) (vs := rsC y) rfl A1.g cl A1.ps A1.pr A1.cp A1.od A1.co A1.ol A1.few A1.cap, (Step.sub T.sub).trans (PT.put S h1 _ _), A1.blk.store (by rw [prC_len]; decide)⟩
theorem commit_don {D : Dk} (hD : DOn D) {S0 : Nat → Prop} (J : JAt h jb db S0 n D) (ok : DOk n P.d) : (commitD n D (P.cs D n)).2 = 0 ∧ DOn (commitD n D (P.cs D n)).1 := by
  obtain ⟨c1, _⟩ := cs_ok (P := P) (D := D) ok J.n1
  obtain ⟨r1, r2, r3, r4, _⟩ := commit_own (n := n) (ds := P.cs D n) hD.1 hD.2.1 hD.2.2 (fun c hc => ⟨(c1 c hc).2, (c1 c hc).1⟩) J.len
  exact ⟨r1, r2, r3, r4⟩
theorem appTRS : AppT Tryz.prog 36 7 88 := AppT.of (by kernel_rfl)
/-- What is wanted behind a step. -/
def Aft (h : Hp) (pb jb db n zb : Nat) (S : Nat → Prop) (D : Dk) (P : Pg) (jp : Option Addr) (o : Int) (K : Value → Hp → Prop) : Prop := ∀ b h' pb' S' D' P' R', PgAt h' pb' jb db S' n D' P' → PairAt h' zb S' n jp (some ⟨pb', 0, none⟩) R' → Step (PT S zb) h (PT S' zb) h' → DOn D' → Tr n P D o P' D' → (o ≠ 8 → pb' = pb) → K (.bool b) h'
set_option maxHeartbeats 4000000 in
theorem step_spec (E : PgAt h pb jb db S n D P) (A : PairAt h zb S n jp (some ⟨pb, 0, none⟩) R) (hD : DOn D) (h2 : 2 ≤ n) (hn : n ≤ 10) (o0 o1 o2 o3 o4 : Int) (f0 : 0 ≤ o4) (f1 : o4 < 256) (hj : o0 = 8 → jp = some ⟨jb, 0, none⟩)
    (hK : Aft h pb jb db n zb S D P jp o0 K) : CallsH Tryz.prog law14_pair_step.id #[.pointer (some ⟨zb, 0, none⟩), .agg #[.int .i64 o0, .int .i64 o1, .int .i64 o2, .int .i64 o3, .int .u8 o4]] h K := by
  have h1 : 1 ≤ n := by omega
  have B := A.blk
  apply law14_pair_step.calls
  unfold law14_pair_step.W
  refine split_eq (fun e0 => ?_) fun e0 => split_eq (fun e1 => ?_) fun e1 => split_eq (fun e2 => ?_) fun e2 => split_eq (fun e3 => ?_) fun e3 => split_eq (fun e4 => ?_) fun e4 => split_eq (fun e5 => ?_) fun e5 => split_eq (fun e6 => ?_) fun e6 => ?_
  · subst e0
    refine ⟨_, _, _, B.cell' 9 rfl, _, _, _, B.cell' 10 rfl, _, B.cell' 11 rfl, _, B.cell' 12 rfl, _, B.cell' 13 rfl, _, B.cell' 14 rfl, _, B.cell' 15 rfl, ?_⟩
    refine ralloc_spec A.w.ok h1 (by omega) fun h13 y v e T => ⟨_, _, _, _, _, _, _, _, _, _, _, _, _, rfl, ?_⟩
    obtain ⟨E2, A2, st2, so2⟩ := pair_now E A T h1
    refine ⟨so2, _, A2.blk.cell' 1 rfl, ?_⟩
    show CallsH _ _ _ (h13.put zb 9 (rsC y)) _
    refine alloc_spec E2 (fun _ => ⟨_, _, rfl, split_eq (fun _ => hK _ _ pb S D P _ E2 A2 st2 hD (Tr.same 0) fun _ => rfl) fun _ => hK _ _ pb S D P _ E2 A2 st2 hD (Tr.same 0) fun _ => rfl⟩) fun i i1 i2 iu iall h29 E3 st3 => ⟨_, _, rfl, ?_⟩
    exact split_eq (fun _ => hK _ _ pb S D _ _ E3 (A2.step st3) (st2.trans (PT.step st3)) hD (Tr.alloc i i1 i2) fun _ => rfl) fun _ => hK _ _ pb S D _ _ E3 (A2.step st3) (st2.trans (PT.step st3)) hD (Tr.alloc i i1 i2) fun _ => rfl
  · subst e1
    refine ⟨_, _, _, B.cell' 9 rfl, _, _, _, B.cell' 10 rfl, _, B.cell' 11 rfl, _, B.cell' 12 rfl, _, B.cell' 13 rfl, _, B.cell' 14 rfl, _, B.cell' 15 rfl, ?_⟩
    refine rgive_spec A.w.ok (by omega) o1 fun h44 y e T => ⟨_, _, _, _, _, _, _, _, _, _, _, _, rfl, ?_⟩
    obtain ⟨E2, A2, st2, so2⟩ := pair_now E A T h1
    refine ⟨so2, _, A2.blk.cell' 1 rfl, ?_⟩
    show CallsH _ _ _ (h44.put zb 9 (rsC y)) _
    exact give_spec E2 o1 (fun _ => ⟨_, rfl, hK _ _ pb S D P _ E2 A2 st2 hD (Tr.same 1) fun _ => rfl⟩) (fun _ _ _ _ => ⟨_, rfl, hK _ _ pb S D P _ E2 A2 st2 hD (Tr.same 1) fun _ => rfl⟩) fun k _ _ _ h59 E3 st3 => ⟨_, rfl, hK _ _ pb S D _ _ E3 (A2.step st3) (st2.trans (PT.step st3)) hD (Tr.give k) fun _ => rfl⟩
  · subst e2
    refine ⟨_, _, _, B.cell' 9 rfl, _, _, _, B.cell' 10 rfl, _, B.cell' 11 rfl, _, B.cell' 12 rfl, _, B.cell' 13 rfl, _, B.cell' 14 rfl, _, B.cell' 15 rfl, ?_⟩
    refine filled_spec _ _ _ _ _ f0 f1 fun h73 s73 => ⟨_, rfl, s73, ?_⟩
    refine rwrite_spec (A.w.ok.sub s73) (by omega) o1 _ fun h76 y e T => ⟨_, _, _, _, _, _, _, _, _, _, _, _, rfl, ?_⟩
    obtain ⟨E2, A2, st2, so2⟩ := pair_now E A (T.back s73) h1
    refine ⟨so2, _, A2.blk.cell' 1 rfl, ?_⟩
    show CallsH _ _ _ (h76.put zb 9 (rsC y)) _
    refine filled_spec _ _ _ _ _ f0 f1 fun h91 s91 => ⟨_, rfl, s91, ?_⟩
    have E3 := E2.sub s91
    have A3 := A2.sub s91
    have st3 := st2.trans (Step.sub s91)
    exact pwrite_spec E3 o1 _ (fun _ => ⟨_, rfl, hK _ _ pb S D P _ E3 A3 st3 hD (Tr.same 2) fun _ => rfl⟩) (fun _ _ => ⟨_, rfl, hK _ _ pb S D P _ E3 A3 st3 hD (Tr.same 2) fun _ => rfl⟩) fun k _ _ _ h94 E4 st4 => ⟨_, rfl, hK _ _ pb S D _ _ E4 (A3.step st4) (st3.trans (PT.step st4)) hD (Tr.write k _) fun _ => rfl⟩
  · subst e3
    refine ⟨_, _, _, B.cell' 9 rfl, _, _, _, B.cell' 10 rfl, _, B.cell' 11 rfl, _, B.cell' 12 rfl, _, B.cell' 13 rfl, _, B.cell' 14 rfl, _, B.cell' 15 rfl, ?_⟩
    refine rpoint_spec A.w.ok h1 (by omega) o2 o1 fun h108 y e T => ⟨_, _, _, _, _, _, _, _, _, _, _, _, rfl, ?_⟩
    obtain ⟨E2, A2, st2, so2⟩ := pair_now E A T h1
    refine ⟨so2, _, A2.blk.cell' 1 rfl, ?_⟩
    show CallsH _ _ _ (h108.put zb 9 (rsC y)) _
    exact ppoint_spec E2 o2 o1 (fun v => ⟨_, rfl, hK _ _ pb S D P _ E2 A2 st2 hD (Tr.same 3) fun _ => rfl⟩) fun t j _ _ _ _ h123 E3 st3 => ⟨_, rfl, hK _ _ pb S D _ _ E3 (A2.step st3) (st2.trans (PT.step st3)) hD (Tr.point t j) fun _ => rfl⟩
  · subst e4
    refine ⟨_, B.cell' 1 rfl, ?_⟩
    refine callsK fun K' hK' => ?_
    have go : ∀ (n128 n129 : Int) (h127 : Hp) (S' : Nat → Prop) (P' : Pg), PgAt h127 pb jb db S' n D P' → PairAt h127 zb S' n jp (some ⟨pb, 0, none⟩) R → Step (PT S zb) h (PT S' zb) h127 → Tr n P D 4 P' D → K' (.tuple #[.int .i64 n128, .int .i64 n129]) h127 := fun n128 n129 h127 S' P' E2 A2 st2 tr => hK' _ _ ⟨_, _, rfl, ?_⟩
    · exact save_spec E (fun _ => go _ _ h S P E A (Step.refl _ _) (Tr.same 4)) fun _ h' S' E2 st2 => go _ _ h' S' _ E2 (A.step st2) (PT.step st2) Tr.save
    have fin : ∀ b h' R', PairAt h' zb S' n jp (some ⟨pb, 0, none⟩) R' → Step (PT S' zb) h127 (PT S' zb) h' → PgAt h' pb jb db S' n D P' → K (.bool b) h' := fun b h' R' A3 st3 E3 => hK b h' pb S' D P' R' E3 A3 (st2.trans st3) hD tr fun _ => rfl
    have B2 := A2.blk
    refine ⟨_, _, _, B2.cell' 16 rfl, split_eq (fun _ => split_eq (fun _ => fin _ _ _ A2 (Step.refl _ _) E2) fun _ => fin _ _ _ A2 (Step.refl _ _) E2) fun _ => ⟨_, _, _, B2.cell' 16 rfl, _, A2.pr, ?_⟩⟩
    have few := A2.few
    refine ⟨fun a c x => NewR rsC 7 36 h127 x a c R.pts, ?_, append_row appTRS rsC_len rsC_plain (M := R.pts) (NewR.nil _ _) rfl rfl rfl (by show (2 * (0 + R.pts.length) + 768) * 88 ≤ _; omega) fun a c x N => N⟩
    intro a138 c139 x140 N
    have B3 := B2.sub N.sub
    refine ⟨_, _, _, B3.cell' 9 rfl, _, _, _, B3.cell' 10 rfl, _, B3.cell' 11 rfl, _, B3.cell' 12 rfl, _, B3.cell' 13 rfl, _, B3.cell' 14 rfl, _, B3.cell' 15 rfl, fun k152 hk152 => ?_⟩
    have B152 : Blk (x140.upd k152 (.cells (rsC R.w).toArray 36 (0, 0))) k152 36 (rsC R.w) := Blk.new _ _ _ _
    have s152 := Sub.upd hk152 (.cells (rsC R.w).toArray 36 (0, 0))
    refine ⟨_, B152.slice (rsC_len _), fun a c x => NewR rsC 7 36 h127 x a c (R.pts ++ [R.w]), ?_, append_row appTRS rsC_len rsC_plain (M := [R.w]) (N.upd s152) (Nat.zero_add _) rfl (rowC_one _).symm (by show (2 * (R.pts.length + 1) + 768) * 88 ≤ _; omega) fun a c x N => N⟩
    intro a155 c156 x157 N2
    have A3 := A2.sub N2.sub
    have E3 := E2.sub N2.sub
    have el : 0 + R.pts.length + 1 = (R.pts ++ [R.w]).length := by rw [List.length_append, Nat.zero_add]; rfl
    have ne16 : ¬ R.pts.length = 16 := fun e => by
      have := ‹¬ (Int.ofNat R.pts.length = 16)›
      exact this (by rw [e]; rfl)
    have cp : Cl x157 zb S' a155 := cl_new (fun c hc => E2.in_heap hc) A2.nh N2.new fun c hc => Own.in_heap N2.own hc
    have A4 := A3.set (o := 16) (vs := [.slice a155 (R.pts ++ [R.w]).length c156]) (jp' := jp) (pp' := some ⟨pb, 0, none⟩) (P' := { R with pts := R.pts ++ [R.w], pa := a155, pc := c156 }) rfl A3.g A3.w (fun x hx => (List.mem_append.1 hx).elim (fun h' => A3.ps x h') fun h' => by rw [List.mem_singleton.1 h']; exact A3.w) N2.own.row cp A3.od A3.co A3.ol (by rw [List.length_append]; show R.pts.length + 1 ≤ 16; omega) N2.own.le
    have E4 : PgAt (x157.put zb 16 [.slice a155 (R.pts ++ [R.w]).length c156]) pb jb db S' n D P' := E3.out (Keep.put (fun c => c = zb) _ _ _ rfl) fun c hc e => A2.nz (e ▸ hc)
    have st4 := (Step.sub N2.sub).trans (PT.put (zb := zb) S' x157 16 [.slice a155 (R.pts ++ [R.w]).length c156])
    rw [el]
    exact ⟨A3.blk.store (by rw [prC_len]; decide), split_eq (fun _ => fin _ _ _ A4 st4 E4) fun _ => fin _ _ _ A4 st4 E4⟩
  · subst e5
    have bk : ∀ {x : Hp} {R1 : Pr} {q : Value → Hp → Prop} (E2 : PgAt x pb jb db S n D P) (A2 : PairAt x zb S n jp (some ⟨pb, 0, none⟩) R1) (st2 : Step (PT S zb) h (PT S zb) x) (c : Int), CallsH Tryz.prog pager_Pager_Back.id #[.pointer (some ⟨pb, 0, none⟩), .int .i64 o2] x fun v h' => ∃ m : Int, v = .int .i64 m ∧ K (.bool (hb (m == c))) h' := fun {x R1 q} E2 A2 st2 c =>
      back_spec E2 o2 (fun _ => ⟨_, rfl, hK _ _ pb S D P _ E2 A2 st2 hD (Tr.same 5) fun _ => rfl⟩) fun k q _ hq h' S' E3 st3 => ⟨_, rfl, hK _ _ pb S' D _ _ E3 (A2.step st3) (st2.trans (PT.step st3)) hD (Tr.back k q hq) fun _ => rfl⟩
    refine split_dec (fun _ => ⟨_, B.cell' 1 rfl, bk (q := K) E A (Step.refl _ _) 6⟩) fun g0 => ⟨_, _, _, B.cell' 16 rfl, split_dec (fun _ => ⟨_, B.cell' 1 rfl, bk (q := K) E A (Step.refl _ _) 6⟩) fun g1 => ⟨_, _, _, B.cell' 16 rfl, ?_⟩⟩
    obtain ⟨k, rfl⟩ : ∃ k : Nat, o2 = (k : Int) := ⟨o2.toNat, by omega⟩
    have hk : k < R.pts.length := by
      have : ¬ (k : Int) ≥ (R.pts.length : Int) := g1
      omega
    have hq : R.pts[k]? = some R.pts[k] := List.getElem?_eq_getElem hk
    generalize R.pts[k] = y at hq
    obtain ⟨bb, bo, ea, hc⟩ := A.pr.get rsC_len (by decide) hq
    have idx : ∀ m : Nat, m + (k : Int).toNat * 7 = m + k * 7 := fun m => by rw [Int.toNat_natCast]
    have c' : ∀ j v, (rsC y)[j]? = some v → h.cell bb (bo + (k : Int).toNat * 7 + j) = some v := fun j v e => by rw [idx]; exact hc j v e
    obtain ⟨E2, A2, st2, so2⟩ := pair_now E A (RSTo.same (x := R.w) A.w.ok (Sub.refl h)) h1
    have A3 := A.set (o := 9) (vs := rsC y) (jp' := jp) (pp' := some ⟨pb, 0, none⟩) (P' := { R with w := y }) rfl A.g (A.ps y (List.mem_of_getElem? hq)) A.ps A.pr A.cp A.od A.co A.ol A.few A.cap
    have E3 : PgAt (h.put zb 9 (rsC y)) pb jb db S n D P := E.out (Keep.put (fun c => c = zb) _ _ _ rfl) fun c hc e => A.nz (e ▸ hc)
    have ht : (R.pts.take k).length = k := by rw [List.length_take]; omega
    have pr4 : RowAt rsC 7 (h.put zb 9 (rsC y)) R.pa (R.pts.take k) := by
      have hk' : 0 + k ≤ R.pts.length := by rw [Nat.zero_add]; exact Nat.le_of_lt hk
      have := A3.pr.part rsC_len (c := R.pts.length) (i := 0) (n := k) (Nat.le_refl _) hk'
      rw [slA_zero] at this; exact this
    have few := A.few
    have cap := A.cap
    have A4 := A3.set (o := 16) (vs := [.slice R.pa (R.pts.take k).length R.pc]) (jp' := jp) (pp' := some ⟨pb, 0, none⟩) (P' := { R with w := y, pts := R.pts.take k }) rfl A3.g A3.w (fun x hx => A3.ps x (List.mem_of_mem_take hx)) pr4 A3.cp A3.od A3.co A3.ol (by rw [ht]; exact Nat.le_trans (Nat.le_of_lt hk) few) (by rw [ht]; exact Nat.le_trans (Nat.le_of_lt hk) cap)
    have E4 : PgAt ((h.put zb 9 (rsC y)).put zb 16 [.slice R.pa (R.pts.take k).length R.pc]) pb jb db S n D P := E3.out (Keep.put (fun c => c = zb) _ _ _ rfl) fun c hc e => A.nz (e ▸ hc)
    have st4 : Step (PT S zb) h (PT S zb) ((h.put zb 9 (rsC y)).put zb 16 [.slice R.pa (R.pts.take k).length R.pc]) := (PT.put S h _ _).trans (PT.put S _ _ _)
    refine ⟨by omega, by show (k : Int) < (R.pts.length : Int); omega, bb, bo, ea, _, _, _, c' 0 _ rfl, _, _, _, c' 1 _ rfl, _, c' 2 _ rfl, _, c' 3 _ rfl, _, c' 4 _ rfl, _, c' 5 _ rfl, _, c' 6 _ rfl, so2, _, _, _, A3.blk.cell' 16 rfl, by omega, by show (k : Int) ≤ (R.pc : Int); omega, A3.blk.store (by rw [prC_len]; decide), ?_⟩
    have ek : (k : Int).toNat = (R.pts.take k).length := by rw [ht]; exact Int.toNat_natCast k
    rw [slA_zero, ek]
    exact ⟨_, A4.blk.cell' 1 rfl, bk (q := K) E4 A4 st4 0⟩
  · subst e6
    refine committed_spec A (fun c hc => E.in_heap hc) h1 (by omega) fun h193 R' A2 st2 nS2 k2 => ⟨rfl, _, A2.blk.cell' 1 rfl, ?_⟩
    have E2 := E.out k2 fun c hc e => A.nz (e ▸ hc)
    obtain ⟨S0, mb, pa, pc, Q, e⟩ := E.ex
    obtain ⟨r2, rD⟩ := commit_don (P := P) hD e.j E.ok.d
    exact pcommit_spec E2 hD.2.2 (fun _ _ h' s' => ⟨_, rfl, hK _ _ pb S D P _ (E2.sub s') (A2.sub s') (st2.trans (Step.sub s')) hD (Tr.same 6) fun _ => rfl⟩)
      (fun hc h' S' E3 st3 => ⟨_, rfl, hK _ _ pb S' D _ _ E3 (A2.step st3) (st2.trans (PT.step st3)) hD (Tr.commit0 hc) fun _ => rfl⟩)
      (fun _ _ hne => absurd r2 hne)
      fun hc hs _ h' S' E3 st3 => ⟨_, rfl, hK _ _ pb S' _ _ _ E3 (A2.step st3) (st2.trans (PT.step st3)) rD (Tr.commit1 hc hs) fun _ => rfl⟩
  · refine ⟨fun b x => x = h ∧ (b = true → o0 = 7 ∨ o0 = 8), ?_, split_eq (fun e => ⟨rfl, fun _ => .inl e⟩) fun _ => ⟨rfl, fun hb' => .inr ?_⟩⟩
    rotate_left
    · have hb' : hb (o0 == 8) = true := hb'
      rw [hb_eq] at hb'
      simpa using hb'
    rintro b x ⟨rfl, hb'⟩
    refine split_cond (fun eb => ?_) fun _ => ?_
    · have ho := hb' eb
      refine ⟨_, _, _, B.cell' 2 rfl, _, _, _, B.cell' 3 rfl, _, B.cell' 4 rfl, _, B.cell' 5 rfl, _, B.cell' 6 rfl, _, B.cell' 7 rfl, _, B.cell' 8 rfl, _, _, _, B.cell' 2 rfl, _, _, _, B.cell' 3 rfl, _, B.cell' 4 rfl, _, B.cell' 5 rfl, _, B.cell' 6 rfl, _, B.cell' 7 rfl, _, B.cell' 8 rfl, B.store (by rw [prC_len]; decide), ?_⟩
      have A2 := A.set (o := 2) (vs := rp15 R.g R.g none 0 0) (jp' := jp) (pp' := some ⟨pb, 0, none⟩) (P' := { R with w := R.g, pts := [], pa := none, pc := 0 }) rfl A.g A.g (fun x hx => by cases hx) (RowAt.nil _ _) Cl.none A.od A.co A.ol (Nat.zero_le _) (Nat.zero_le _)
      have E2 : PgAt (x.put zb 2 (rp15 R.g R.g none 0 0)) pb jb db S n D P := E.out (Keep.put (fun c => c = zb) _ _ _ rfl) fun c hc e => A.nz (e ▸ hc)
      have st2 := PT.put (zb := zb) S x 2 (rp15 R.g R.g none 0 0)
      refine ⟨_, A2.blk.cell' 1 rfl, ?_⟩
      show CallsH _ _ _ (x.put zb 2 (rp15 R.g R.g none 0 0)) _
      refine abort_spec E2 fun h225 S' E3 st3 => ⟨rfl, ?_⟩
      have A3 := A2.step st3
      have st3' := st2.trans (PT.step (zb := zb) st3)
      refine split_eq (fun e8 => ?_) fun e8 => hK _ _ pb S' D _ _ E3 A3 st3' hD (Tr.abort _ ho) fun _ => rfl
      have ej := hj e8
      subst ej
      refine ⟨_, A3.blk.cell' 0 rfl, ?_⟩
      obtain ⟨S0, mb, pa, pc, Q, e⟩ := E3.ex
      refine popen_spec e.j E3.up h2 (fun _ _ h' s' => ⟨_, _, rfl, split_cond (fun _ => hK _ _ pb S' D _ _ (E3.sub s') (A3.sub s') (st3'.trans (Step.sub s')) hD (Tr.abort _ ho) fun e => absurd e8 e) fun e => by cases e⟩) fun H _ h228 pb2 S2 npb st4 E4 => ⟨_, _, rfl, split_cond (fun e => by cases e) fun _ => split_ne (fun e => absurd rfl e) fun _ => ?_⟩
      have st4' : Step S' h225 S2 h228 := ⟨st4.1.mono fun c hc => (e.s c).2 (.inr (.inr (.inl hc))), fun c hc => (st4.2 c hc).imp (fun h' => (e.s c).2 (.inr (.inr (.inl h')))) id⟩
      have A4 := A3.step st4'
      have A5 := A4.set (o := 1) (vs := [.pointer (some ⟨pb2, 0, none⟩)]) (jp' := some ⟨jb, 0, none⟩) (pp' := some ⟨pb2, 0, none⟩) (P' := { R with w := R.g, pts := [], pa := none, pc := 0 }) rfl A4.g A4.w A4.ps A4.pr A4.cp A4.od A4.co A4.ol A4.few A4.cap
      have E5 : PgAt (h228.put zb 1 [.pointer (some ⟨pb2, 0, none⟩)]) pb2 jb db S2 n D ⟨H, H, [], []⟩ := E4.out (Keep.put (fun c => c = zb) _ _ _ rfl) fun c hc e => A4.nz (e ▸ hc)
      refine ⟨A4.blk.store (by rw [prC_len]; decide), hK _ _ pb2 S2 D _ _ E5 A5 ((st3'.trans (PT.step st4')).trans (PT.put S2 h228 _ _)) hD ?_ fun e => absurd e8 e⟩
      rw [e8]; exact Tr.fresh H
    · refine ⟨_, B.cell' 1 rfl, ?_⟩
      have rd : ∀ K' : Value → Hp → Prop, (∀ s e h', Sub x h' → K' (.tuple #[.string s, .int .i64 e]) h') → CallsH Tryz.prog pager_Pager_Read.id #[.pointer (some ⟨pb, 0, none⟩), .int .i64 o1] x K' := fun K' hK' => by
        by_cases e : P.why n o1 = 0
        · obtain ⟨k, rfl, _⟩ := why_ok e
          exact pgread_spec E e fun h' s' => hK' _ _ h' s'
        · exact pgread_bad E o1 e (hK' _ _ x (Sub.refl x))
      refine rd _ fun s e h233 s233 => ⟨_, _, rfl, ?_⟩
      have A2 := A.sub s233
      have B2 := A2.blk
      have E2 := E.sub s233
      refine ⟨_, _, _, B2.cell' 9 rfl, _, _, _, B2.cell' 10 rfl, _, B2.cell' 11 rfl, _, B2.cell' 12 rfl, _, B2.cell' 13 rfl, _, B2.cell' 14 rfl, _, B2.cell' 15 rfl, ?_⟩
      have fin : ∀ b, K (.bool b) h233 := fun b => hK b h233 pb S D P R E2 A2 (Step.sub s233) hD (Tr.same _) fun _ => rfl
      exact rread_spec A2.w.ok o1 fun s' e' => ⟨_, _, rfl, split_beqS (fun _ => fin _) fun _ => fin _⟩
end Go.Proofs.YtagglohkipioiaaGreat
