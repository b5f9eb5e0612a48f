/- What a commit leaves of the pages; a value; a put and what the map says of it; the entries from a key to another one. Conditions: those that each contract names. The core of BtreePlays. Conditions: the operations lie in a row. The row of operations as it is handed in; BtreePlays over it. Condition: none beyond the reading. The statement BtreePlays: for every input the law returns true and leaves its arguments as they were. Conditions: none beyond the statement's own. -/
import Derived.Test.YthbogjbcecmopaaGreatDoorPr07
import Derived.Test.YthbogjbcecmopaaGreatDoorRows
import Derived.WalkKit
import Derived.ProofKit
import Derived.OpenShut
import Derived.ShutString
import Derived.ChangeOld
import Derived.Below
import Derived.SizedLaws
import Derived.Test.YthbogjbcecmopaaGreatDoorTie
import Derived.Test.YthbogjbcecmopaaGreatDoorCards
import Derived.LaidMore
import Derived.Lay
import Derived.SevenTiedAt
import Derived.Stop.Joined
namespace Go.Proofs.YthbogjbcecmopaaGreatDoor
open Go.Gx
set_option maxRecDepth 100000
set_option linter.unusedVariables false
variable {n : Nat} {D D' : Dk} {P P' : Pg} {h : Hp} {K : Value → Hp → Prop} {pb jb db : Nat} {S : Nat → Prop} {tb k : Nat}
def DOn (D : Dk) : Prop := D.down = false ∧ D.fuse = 0 ∧ D.ws = []
theorem cs_page (ok : DOk n P.d) (hn : 1 ≤ n) {i : Nat} (h1 : 1 ≤ i) (hi : i < n) : updP (P.cs D n) i (D.own n i) = P.page D n i := by
  obtain ⟨c1, c2, _⟩ := cs_ok (P := P) (D := D) ok hn
  cases hd : P.diff D n i with
  | true =>
    obtain ⟨s, hs, _⟩ := diff_some hd
    have : (i, s) ∈ P.cs D n := by
      unfold Pg.cs
      refine List.mem_cons_of_mem _ (List.mem_map.2 ⟨i, List.mem_filter.2 ⟨(chg_mem (by omega)).2 ⟨hi, hd⟩, by simp; omega⟩, ?_⟩)
      unfold Pg.pair
      rw [hs]; rfl
    rw [updP_mem this c2]
    unfold Pg.page
    rw [hs]; rfl
  | false =>
    rw [updP_none]
    · unfold Pg.page
      unfold Pg.diff at hd
      cases e : dget P.d i with
      | none => rfl
      | some s =>
        rw [e] at hd
        have : D.own n i = s := by simpa using hd
        rw [this]; rfl
    · intro c hc e
      have : c.1 ∈ (P.cs D n).map (·.1) := List.mem_map_of_mem hc
      rw [cs_map ok, e] at this
      rcases List.mem_cons.1 this with h' | h'
      · omega
      · rw [(List.mem_filter.1 h').2] at hd; cases hd
theorem commit_don {D : Dk} (hD : DOn D) {S0 : Nat → Prop} (J : JAt h jb db S0 n D) (ok : DOk n P.d) : (commitD n D (P.cs D n)).2 = 0 ∧ DOn (commitD n D (P.cs D n)).1 ∧ ∀ i, 1 ≤ i → i < n → (commitD n D (P.cs D n)).1.own n i = P.page D n i := by
  obtain ⟨c1, _⟩ := cs_ok (P := P) (D := D) ok J.n1
  obtain ⟨r1, r2, r3, r4, _, _, r7⟩ := commit_own (n := n) (ds := P.cs D n) hD.1 hD.2.1 hD.2.2 (fun c hc => ⟨(c1 c hc).2, (c1 c hc).1⟩) J.len
  exact ⟨r1, ⟨r2, r3, r4⟩, fun i h1 hi => (r7 i).trans (cs_page ok J.n1 h1 hi)⟩
theorem pgs_eq {H : Hd} {d : List Ch} {g : Hd} {pts : List (Hd × List Ch)} (hu : H.u = P.now.u) (hp : ∀ i, 1 ≤ i → i < n → (dget d i).getD (D'.own n i) = P.page D n i) : (⟨g, H, d, pts⟩ : Pg).pgs D' n = P.pgs D n := by
  funext i
  unfold Pg.pgs Pg.node
  have ew : (⟨g, H, d, pts⟩ : Pg).why n (i : Nat) = P.why n (i : Nat) := by
    unfold Pg.why
    show (if _ then _ else if H.u _ = true then _ else _) = _
    rw [hu]
  rw [ew]
  split
  · rename_i hw
    obtain ⟨j, ej, h1, h2, _⟩ := why_ok hw
    rw [Int.toNat_natCast]
    have : i = j := by omega
    subst this
    have : (⟨g, H, d, pts⟩ : Pg).page D' n i = P.page D n i := hp i h1 h2
    rw [this]
  · rfl
theorem reset_pgs0 (hc : P.chg D n = []) (ok : DOk n P.d) : (Pg.reset P.now).pgs D n = P.pgs D n := by
  refine pgs_eq rfl fun i h1 hi => ?_
  show D.own n i = _
  have hd : P.diff D n i = false := by
    cases hd : P.diff D n i with
    | false => rfl
    | true =>
      have := (chg_mem (P := P) (D := D) (n := n) (i := i) (by omega)).2 ⟨hi, hd⟩
      rw [hc] at this; cases this
  unfold Pg.page
  unfold Pg.diff at hd
  cases e : dget P.d i with
  | none => rfl
  | some s =>
    rw [e] at hd
    have : D.own n i = s := by simpa using hd
    rw [this]; rfl
theorem reset_pgs1 (hp : ∀ i, 1 ≤ i → i < n → D'.own n i = P.page D n i) : (Pg.reset P.now.up).pgs D' n = P.pgs D n := pgs_eq rfl hp
theorem rowC_byte (l : List UInt8) : rowC byteC l = bytesV ⟨l.toArray⟩ := rowC_bytes ⟨l.toArray⟩
set_option maxHeartbeats 1000000 in
theorem value_spec (a b c : Int) (x y z : ByteArray) (hz : z.size ≤ 1000) (hK : ∀ h' s, Sub h h' → s.size ≤ 1000 → K (.string s) h') : CallsH Tryz.prog law15_value.id #[.agg #[.int .i64 a, .int .i64 b, .int .i64 c, .string x, .string y, .string z]] h K := by
  apply law15_value.calls
  unfold law15_value.W
  refine split_dec (fun _ => hK h z (Sub.refl h) hz) fun c0 => split_dec (fun _ => hK h z (Sub.refl h) hz) fun c1 => ?_
  obtain ⟨m, rfl⟩ : ∃ m : Nat, c = (m : Int) := ⟨c.toNat, by omega⟩
  refine ⟨by omega, by omega, by omega, by omega, fun k1 hk1 => ?_⟩
  rw [Int.toNat_natCast]
  have s1 := Sub.upd hk1 (.cells (repV m [Value.int .u8 0]).toArray 5 (0, 0))
  have B1 := Blk.new h k1 5 (repV m [Value.int .u8 0])
  have N1 : NewR byteC 1 5 h (h.upd k1 (.cells (repV m [Value.int .u8 0]).toArray 5 (0, 0))) (some ⟨k1, 0, none⟩) m (List.replicate m 0) := by
    refine ⟨s1, fun b ⟨o, s, e⟩ => by cases e; exact hk1, ?_⟩
    unfold OwnR
    rw [List.length_replicate, rowC_zeros]
    exact ⟨by unfold repV; simp, Nat.le_refl _, .inr ⟨k1, [], rfl, by rw [List.append_nil]; exact B1, by simp⟩⟩
  generalize h.upd k1 (.cells (repV m [Value.int .u8 0]).toArray 5 (0, 0)) = y1 at N1 s1 ⊢
  refine ⟨fun i x q => ∃ (j : Nat) (l : List UInt8), i = (j : Int) ∧ j ≤ m ∧ q = m - j ∧ l.length = m ∧ NewR byteC 1 5 h x (some ⟨k1, 0, none⟩) m l, ⟨_, 0, _, rfl, Nat.zero_le _, rfl, List.length_replicate, N1⟩, ?_⟩
  rintro i x q ⟨j, l, rfl, hj, rfl, hl, N⟩
  refine split_dec (fun g => ?_) fun g => ?_
  · have g : ((j : Nat) : Int) < ((m : Nat) : Int) := g
    have hx : l[j]? = some (l[j]'(by omega)) := List.getElem?_eq_getElem (by omega)
    obtain ⟨b, eb, st, N2⟩ := N.put byteC_len hx (by decide) (j := 0) (vs := [.int .u8 118]) (y := 118) (by show 0 + 1 ≤ 1; decide) rfl
    have hb : k1 = b := by cases eb; rfl
    subst hb
    have next : IntKind.i64.wrap ((j : Int) + 1) = ((j + 1 : Nat) : Int) := by rw [wid (by omega) (by omega)]; omega
    have hl2 : (l.set j 118).length = m := by rw [List.length_set]; exact hl
    refine ⟨by omega, g, k1, 0, rfl, ?_⟩
    rw [Int.toNat_natCast, next]
    refine ⟨st, split_dec (fun g2 => split_cond (fun _ => ?_) fun e => ?_) fun _ => ⟨m - (j + 1), by omega, j + 1, _, rfl, by omega, rfl, hl2, N2⟩⟩
    · have hx2 : (l.set j 118)[j]? = some ((l.set j 118)[j]'(by omega)) := List.getElem?_eq_getElem (by omega)
      obtain ⟨b, eb, st2, N3⟩ := N2.put byteC_len hx2 (by decide) (j := 0) (vs := [.int .u8 (byteAt z 0)]) (y := (z.data.toList[0]?).getD 0) (by show 0 + 1 ≤ 1; decide) rfl
      have hb : k1 = b := by cases eb; rfl
      subst hb
      exact ⟨by omega, g, k1, 0, rfl, st2, m - (j + 1), by omega, j + 1, _, rfl, by omega, rfl, by rw [List.length_set]; exact hl2, N3⟩
    · have g2 : (z.size : Int) > 0 := g2
      have : Nat.blt 0 z.size = true := Nat.blt_eq.mpr (by omega)
      rw [this] at e; cases e
  · refine ⟨⟨l.toArray⟩, ?_, hK x ⟨l.toArray⟩ N.sub ?_⟩
    · have := N.own.row
      unfold RowAt at this
      rw [hl, Nat.mul_one, rowC_byte] at this
      exact this
    · rw [← size_len]
      show l.length ≤ 1000
      omega
theorem kvRangeI_spec {L : List KV} {a : Option Addr} {c : Nat} (H : SliceAt h a (L.length * 2) (kvCells L)) (hL : L.length < 4294967296) (k1 k2 : ByteArray) (most : Int)
    (hK : ∀ h' a' c', NewKV h h' a' c' (kvRange k1 k2 most.toNat L) → K (.slice a' (kvRange k1 k2 most.toNat L).length c') h') : CallsH Tryz.prog ref08_Range.id #[.slice a L.length c, .string k1, .string k2, .int .i64 most] h K := by
  by_cases hm : 0 ≤ most
  · obtain ⟨m, rfl⟩ : ∃ m : Nat, most = (m : Int) := ⟨most.toNat, by omega⟩
    exact kvRange_spec H hL k1 k2 m hK
  · have e0 : kvRange k1 k2 most.toNat L = [] := by
      have : most.toNat = 0 := by omega
      rw [this]; rfl
    rw [e0] at hK
    apply ref08_Range.calls
    unfold ref08_Range.W
    refine ⟨fun a' l' c' i x m => a' = none ∧ l' = 0 ∧ c' = 0 ∧ x = h ∧ ∃ j : Nat, i = (j : Int) ∧ j ≤ L.length ∧ m = L.length - j, ⟨_, rfl, rfl, rfl, rfl, 0, rfl, Nat.zero_le _, rfl⟩, ?_⟩
    rintro a' l' c' i x m ⟨rfl, rfl, rfl, rfl, j, rfl, hj, rfl⟩
    refine split_dec (fun g => ?_) fun _ => hK x none 0 ⟨Sub.refl _, (fun b ⟨o, s, e⟩ => by cases e), Own.nil _ _ _⟩
    have g : ((j : Nat) : Int) < ((L.length : Nat) : Int) := g
    obtain ⟨p, hp⟩ : ∃ p, L[j]? = some p := ⟨_, List.getElem?_eq_getElem (by omega)⟩
    obtain ⟨b1, o1, e1, c1, c2⟩ := kv_cell H hp
    have next : IntKind.i64.wrap ((j : Int) + 1) = ((j + 1 : Nat) : Int) := by rw [wid (by omega) (by omega)]; omega
    have go : ∃ q, q < L.length - j ∧ ((none : Option Addr) = none ∧ (0 : Nat) = 0 ∧ (0 : Nat) = 0 ∧ x = x ∧ ∃ j' : Nat, IntKind.i64.wrap ((j : Int) + 1) = (j' : Int) ∧ j' ≤ L.length ∧ q = L.length - j') := ⟨L.length - (j + 1), by omega, rfl, rfl, rfl, rfl, j + 1, next, by omega, rfl⟩
    refine ⟨by omega, g, b1, o1, e1, _, by rw [Int.toNat_natCast]; exact c1, split_cond (fun _ => ⟨by omega, g, b1, o1, e1, _, by rw [Int.toNat_natCast]; exact c1, split_cond (fun _ => split_dec (fun g2 => ?_) fun _ => go) fun _ => go⟩) fun _ => go⟩
    have g2 : ((0 : Nat) : Int) < most := g2
    omega
set_option maxHeartbeats 1000000 in
theorem lawput_spec (E : PgAt h pb jb db S n D P) (T : TrAt h tb pb k) (nt : ¬ S tb) (hk : k < 4) {hg : Nat} {L : List KV} {I : List Nat} (TT : TreeS (P.pgs D n) (P.now.r k) hg L I) {la : Option Addr} {lc : Nat} (H : SliceAt h la (L.length * 2) (kvCells L)) (hc : L.length ≤ lc) (hL : L.length < 4294967296) (nl : ∀ b, blkOf la b → ¬ S b) (key v : ByteArray)
    (hN : ∀ h', Sub h h' → K (.tuple #[.slice la L.length lc, .bool true]) h')
    (hG : ∀ h1 h' P' hg' I' a' c', PgAt h1 pb jb db S n D P' → Keep S h h1 → TreeS (P'.pgs D n) (P'.now.r k) hg' (kvPut key v L) I' → MvT n D k P P' I I' → NewKV h1 h' a' c' (kvPut key v L) → K (.tuple #[.slice a' (kvPut key v L).length c', .bool true]) h') :
    CallsH Tryz.prog law15_put.id #[.pointer (some ⟨pb, 0, none⟩), .pointer (some ⟨tb, 0, none⟩), .slice la L.length lc, .string key, .string v] h K := by
  have hhg := TT.high
  have hn := E.n2
  have hfl := freeN_le P n
  apply law15_put.calls
  unfold law15_put.W
  refine free_spec E ⟨_, rfl, height_spec E T hk TT.tree (by omega) fun h5 s5 => ⟨_, rfl, free_spec (E.sub s5) ⟨_, rfl, height_spec (E.sub s5) (Blk.sub T s5) hk TT.tree (by omega) fun h11 s11 => ⟨_, rfl, ?_⟩⟩⟩⟩
  have s := s5.trans s11
  refine put_spec (E.sub s) (Blk.sub T s) nt hk TT key v (fun hm => ⟨_, rfl, refMay_spec key v ⟨_, rfl, ?_⟩⟩) (fun hm hf h14 s14 => ⟨_, rfl, refMay_spec key v ⟨_, rfl, ?_⟩⟩) fun hm hf h14 P' hg' I' E' kp TT' M hl => ⟨_, rfl, refMay_spec key v ⟨_, rfl, ?_⟩⟩
  · rw [hm]
    refine split_not (fun _ => ?_) fun e => by cases e
    have : hb ((1 : Int) == 1) = true := by rw [hb_eq]; rfl
    rw [this]
    exact hN h11 s
  · rw [hm]
    have ev : hb (decide (((P.freeN n : Nat) : Int) > ((hg : Nat) : Int))) = false := by rw [hb_eq]; exact decide_eq_false (by omega)
    rw [ev]
    refine split_not (fun e => by cases e) fun _ => split_not (fun _ => ?_) fun e => by cases e
    have : hb ((5 : Int) == 5) = true := by rw [hb_eq]; rfl
    rw [this]
    exact hN h14 (s.trans s14)
  · rw [hm]
    have ev : hb (decide (((P.freeN n : Nat) : Int) > ((hg : Nat) : Int))) = true := by rw [hb_eq]; exact decide_eq_true (by omega)
    rw [ev]
    have H14 : SliceAt h14 la (L.length * 2) (kvCells L) := (H.sub s).keep kp nl
    refine split_not (fun e => by cases e) fun _ => split_not (fun e => by cases e) fun _ => kvPut_spec H14 hc hL key v fun h20 a' c' N => ⟨_, _, _, rfl, split_eq (fun _ => free_spec (E'.sub N.1) ⟨_, rfl, ?_⟩) fun e => absurd rfl e⟩
    have fr := M.free
    have : hb (decide (((P'.freeN n : Nat) : Int) ≥ IntKind.i64.wrap (IntKind.i64.wrap (((P.freeN n : Nat) : Int) - ((hg : Nat) : Int)) - 1))) = true := by
      rw [hb_eq, wid (x := ((P.freeN n : Nat) : Int) - ((hg : Nat) : Int)) (by omega) (by omega), wid (by omega) (by omega)]
      exact decide_eq_true (by omega)
    rw [this]
    exact hG h14 h20 P' hg' I' a' c' E' ((s.keep S).trans kp) TT' M N
end Go.Proofs.YthbogjbcecmopaaGreatDoor
namespace Go.Proofs.YthbogjbcecmopaaGreatDoor
open Go.Gx
set_option maxRecDepth 100000
set_option linter.unusedVariables false
structure Op6 where
  a : Int
  b : Int
  c : Int
  x : ByteArray
  y : ByteArray
  z : ByteArray
def op6C (o : Op6) : List Value := [.int .i64 o.a, .int .i64 o.b, .int .i64 o.c, .string o.x, .string o.y, .string o.z]
theorem op6C_len (o : Op6) : (op6C o).length = 6 := rfl
def ptl (q : Option Addr × Nat × List KV) : List Value := [.slice q.1 q.2.2.length q.2.1]
theorem ptl_len (q : Option Addr × Nat × List KV) : (ptl q).length = 1 := rfl
theorem ptl_plain (q : Option Addr × Nat × List KV) : plainP (ptl q) := plainP_of rfl
theorem appTPtl : AppT Tryz.prog 37 1 24 := AppT.of (by kernel_rfl)
variable {h h0 x x' : Hp} {K : Value → Hp → Prop} {n m tb pb jb db : Nat} {S S' : Nat → Prop} {D D' : Dk} {P P' : Pg} {la ga pa : Option Addr} {lc gc pc : Nat} {L G L' : List KV} {Qp : List (Option Addr × Nat × List KV)}
structure LsAt (x : Hp) (S : Nat → Prop) (a : Option Addr) (c : Nat) (L : List KV) : Prop where
  own : OwnR kvC 2 x 42 a c L
  nS : ∀ b, blkOf a b → ¬ S b
theorem LsAt.nil (x : Hp) (S : Nat → Prop) : LsAt x S none 0 [] := ⟨OwnR.nil _ _, fun b ⟨o, s, e⟩ => by cases e⟩
theorem LsAt.step {a : Option Addr} {c : Nat} (A : LsAt x S a c L) (st : Step S x S' x') : LsAt x' S' a c L :=
  ⟨A.own.keep st.1 A.nS, fun b hb hs => (st.2 b hs).elim (A.nS b hb) fun h => Own.in_heap A.own hb h⟩
theorem LsAt.sl {a : Option Addr} {c : Nat} (A : LsAt x S a c L) : SliceAt x a (L.length * 2) (kvCells L) := A.own.row
theorem LsAt.ne {a : Option Addr} {c : Nat} (A : LsAt x S a c L) (O : OwnR ptl 1 x 37 pa pc Qp) : ∀ b, blkOf a b → ¬ blkOf pa b := by
  intro b ⟨o, s, e⟩ ⟨o2, s2, e2⟩
  rcases A.own.2.2 with ⟨e3, _⟩ | ⟨b1, r1, e3, B1, _⟩
  · rw [e3] at e; cases e
  · rcases O.2.2 with ⟨e4, _⟩ | ⟨b2, r2, e4, B2, _⟩
    · rw [e4] at e2; cases e2
    · rw [e3] at e; cases e
      rw [e4] at e2; cases e2
      exact absurd (B1.inj B2).1 (by decide)
theorem LsAt.new {h1 : Hp} {a : Option Addr} {c : Nat} (E : PgAt h1 pb jb db S n D P) (N : NewKV h1 x a c L) : LsAt x S a c L := ⟨N.row.own, fun b hb => S_out E (N.2.1 b hb)⟩
structure PlB (h0 x : Hp) (S : Nat → Prop) (tb pb : Nat) (la : Option Addr) (lc : Nat) (L : List KV) (ga : Option Addr) (gc : Nat) (G : List KV) (pa : Option Addr) (pc : Nat) (Qp : List (Option Addr × Nat × List KV)) : Prop where
  t : TrAt x tb pb 1
  nt : ¬ S tb
  sub : Sub h0 x
  new : ∀ c, S c → h0 c = none
  l : LsAt x S la lc L
  g : LsAt x S ga gc G
  p : OwnR ptl 1 x 37 pa pc Qp
  pS : ∀ b, blkOf pa b → ¬ S b ∧ h0 b = none
  q : ∀ e ∈ Qp, LsAt x S e.1 e.2.1 e.2.2
theorem PlB.step (B : PlB h0 x S tb pb la lc L ga gc G pa pc Qp) (st : Step S x S' x') : PlB h0 x' S' tb pb la lc L ga gc G pa pc Qp := by
  have nn : ∀ {c : Nat} {t : TypeId} {vs : List Value}, Blk x c t vs → ¬ S c → ¬ S' c := fun {c t vs} hb hn hs => (st.2 c hs).elim hn fun h => by unfold Blk at hb; rw [hb] at h; cases h
  refine ⟨Blk.keep B.t st.1 B.nt, nn B.t B.nt, st.1.sub B.sub B.new, fun c hc => (st.2 c hc).elim (B.new c) fun h => B.sub.none h, B.l.step st, B.g.step st, B.p.keep st.1 fun b hb => (B.pS b hb).1, fun b hb => ⟨fun hs => (st.2 b hs).elim (B.pS b hb).1 fun h => Own.in_heap B.p hb h, (B.pS b hb).2⟩, fun e he => (B.q e he).step st⟩
theorem PlB.subs (B : PlB h0 x S tb pb la lc L ga gc G pa pc Qp) (s : Sub x x') : PlB h0 x' S tb pb la lc L ga gc G pa pc Qp := B.step (Step.sub s)
theorem PlB.keep (B : PlB h0 x S tb pb la lc L ga gc G pa pc Qp) (k : Keep S x x') : PlB h0 x' S tb pb la lc L ga gc G pa pc Qp := B.step ⟨k, fun _ h => .inl h⟩
theorem PlB.list {la' : Option Addr} {lc' : Nat} (B : PlB h0 x S tb pb la lc L ga gc G pa pc Qp) (A : LsAt x S la' lc' L') : PlB h0 x S tb pb la' lc' L' ga gc G pa pc Qp := ⟨B.t, B.nt, B.sub, B.new, A, B.g, B.p, B.pS, B.q⟩
def TS (D : Dk) (n m : Nat) (H : Hd) (d : List Ch) (L : List KV) : Prop := (∃ hg I, TreeS ((⟨H, H, d, []⟩ : Pg).pgs D n) (H.r 1) hg L I) ∧ (∀ t, t < 4 → t ≠ 1 → H.r t = 0) ∧ H.s ≤ m
theorem TS.mono {H : Hd} {d : List Ch} {m' : Nat} (T : TS D n m H d L) (h : m ≤ m') : TS D n m' H d L := ⟨T.1, T.2.1, by have := T.2.2; omega⟩
structure PlT (D : Dk) (n m : Nat) (P : Pg) (L G : List KV) (Qp : List (Option Addr × Nat × List KV)) : Prop where
  now : TS D n m P.now P.d L
  good : TS D n m P.good [] G
  len : P.pts.length = Qp.length
  pts : ∀ (i : Nat) (p : Hd × List Ch) (q : Option Addr × Nat × List KV), P.pts[i]? = some p → Qp[i]? = some q → TS D n m p.1 p.2 q.2.2
theorem PlT.mono {m' : Nat} (T : PlT D n m P L G Qp) (h : m ≤ m') : PlT D n m' P L G Qp := ⟨T.now.mono h, T.good.mono h, T.len, fun i p q h1 h2 => (T.pts i p q h1 h2).mono h⟩
theorem PlT.set {hg' : Nat} {I I' : List Nat} (T : PlT D n m P L G Qp) (M : MvT n D 1 P P' I I') (TT : TreeS (P'.pgs D n) (P'.now.r 1) hg' L' I') : PlT D n m P' L' G Qp := by
  refine ⟨⟨⟨hg', I', TT⟩, fun t ht h1 => (M.roots t h1).trans (T.now.2.1 t ht h1), by rw [M.ser]; exact T.now.2.2⟩, by rw [M.good]; exact T.good, by rw [M.pts]; exact T.len, fun i p q h1 h2 => T.pts i p q (by rw [← M.pts]; exact h1) h2⟩
theorem PlT.save (T : PlT D n m P L G Qp) : PlT D n m P.save L G (Qp ++ [(la, lc, L)]) := by
  refine ⟨T.now, T.good, by show (P.pts ++ _).length = _; rw [List.length_append, List.length_append, T.len]; rfl, fun i p q h1 h2 => ?_⟩
  have h1 : (P.pts ++ [(P.now, P.d)])[i]? = some p := h1
  by_cases hi : i < P.pts.length
  · rw [List.getElem?_append_left hi] at h1
    rw [List.getElem?_append_left (by rw [← T.len]; exact hi)] at h2
    exact T.pts i p q h1 h2
  · rw [List.getElem?_append_right (by omega)] at h1
    rw [List.getElem?_append_right (by rw [← T.len]; omega)] at h2
    have e0 : i - P.pts.length = 0 := by
      have := (List.getElem?_eq_some_iff.1 h1).1
      have e : ([(P.now, P.d)] : List (Hd × List Ch)).length = 1 := rfl
      omega
    rw [e0] at h1
    rw [← T.len, e0] at h2
    cases h1; cases h2
    exact T.now
theorem PlT.back {i : Nat} {p : Hd × List Ch} {q : Option Addr × Nat × List KV} (T : PlT D n m P L G Qp) (h1 : P.pts[i]? = some p) (h2 : Qp[i]? = some q) : PlT D n m (P.back i p) q.2.2 G (Qp.take i) := by
  refine ⟨T.pts i p q h1 h2, T.good, by show (P.pts.take i).length = _; rw [List.length_take, List.length_take, T.len], fun j p' q' g1 g2 => ?_⟩
  have g1 : (P.pts.take i)[j]? = some p' := g1
  rw [List.getElem?_take] at g1 g2
  split at g1
  · rename_i hj
    rw [if_pos hj] at g2
    exact T.pts j p' q' g1 g2
  · cases g1
theorem PlT.reset {H : Hd} (T : TS D n m H [] L) : PlT D n m (Pg.reset H) L L [] := ⟨T, T, rfl, fun i p q h => by cases h⟩
theorem PlT.commit0 (T : PlT D n m P L G Qp) (hc : P.chg D n = []) (ok : DOk n P.d) : PlT D n m (Pg.reset P.now) L L [] := by
  obtain ⟨⟨hg, I, TT⟩, h2, h3⟩ := T.now
  have TT : TreeS (P.pgs D n) (P.now.r 1) hg L I := TT
  have e := reset_pgs0 hc ok
  exact PlT.reset ⟨⟨hg, I, by rw [← e] at TT; exact TT⟩, h2, h3⟩
theorem PlT.commit1 (T : PlT D n m P L G Qp) (hp : ∀ i, 1 ≤ i → i < n → D'.own n i = P.page D n i) : PlT D' n (m + 1) (Pg.reset P.now.up) L L [] := by
  obtain ⟨⟨hg, I, TT⟩, h2, h3⟩ := T.now
  have TT : TreeS (P.pgs D n) (P.now.r 1) hg L I := TT
  have e := reset_pgs1 hp
  exact PlT.reset ⟨⟨hg, I, by rw [← e] at TT; exact TT⟩, h2, by show P.now.s + 1 ≤ m + 1; omega⟩
set_option maxHeartbeats 8000000 in
theorem plays_core {h : Hp} (pages : Int) (a : Option Addr) (c : Nat) (os : List Op6) (ho : RowAt op6C 6 h a os) : CallsH Tryz.prog law15_BtreePlays.id #[.int .i64 pages, .slice a os.length c] h fun v h' => v = .bool true ∧ Sub h h' := by
  apply law15_BtreePlays.calls
  unfold law15_BtreePlays.W
  by_cases hp : 2 ≤ pages ∧ pages ≤ 24
  rotate_left
  · refine opened_bad pages (by omega) ⟨_, _, _, rfl, split_cond (fun _ => split_dec (fun _ => lives_spec fun h' s => ⟨_, rfl, rfl, s⟩) fun g => split_dec (fun _ => lives_spec fun h' s => ⟨_, rfl, rfl, s⟩) fun g2 => by omega) fun e => by cases e⟩
  obtain ⟨n, rfl⟩ : ∃ n : Nat, pages = (n : Int) := ⟨pages.toNat, by omega⟩
  have n24 : n ≤ 24 := by omega
  refine opened_spec n (by omega) n24 fun h2 tb pb jb db S s2 E fr T n2 nt => ⟨_, _, _, rfl, split_cond (fun e => by cases e) fun _ => ?_⟩
  refine ⟨fun a14 a15 k16 k17 a18 k19 k20 a21 k22 k23 i x q => ∃ (j tb : Nat) (L G : List KV) (Qp : List (Option Addr × Nat × List KV)) (S : Nat → Prop) (D : Dk) (P : Pg), i = (j : Int) ∧ j ≤ 70 ∧ q = 70 - j ∧ a14 = some ⟨tb, 0, none⟩ ∧ k16 = L.length ∧ k19 = G.length ∧ k22 = Qp.length ∧ PgAt x pb jb db S n D P ∧ DOn D ∧ PlB h x S tb pb a15 k17 L a18 k20 G a21 k23 Qp ∧ PlT D n j P L G Qp,
    ⟨_, 0, tb, [], [], [], S, _, _, rfl, by decide, rfl, rfl, rfl, rfl, rfl, E, ⟨rfl, rfl, rfl⟩, ⟨T, nt, s2, fr, LsAt.nil _ _, LsAt.nil _ _, OwnR.nil _ _, (fun b ⟨o, s, e⟩ => by cases e), fun e he => by cases he⟩, PlT.reset ⟨⟨0, [], rfl, rfl, rfl⟩, fun t _ _ => rfl, Nat.le_refl _⟩⟩, ?_⟩
  rintro a14 a15 k16 k17 a18 k19 k20 a21 k22 k23 i x q ⟨j, tb, L, G, Qp, S, D, P, rfl, hj, rfl, rfl, rfl, rfl, rfl, E, hD, B, TL⟩
  refine split_dec (fun g => split_dec (fun g70 => ?_) fun _ => lives_spec fun h' s => ⟨_, rfl, rfl, B.sub.trans s⟩) fun _ => lives_spec fun h' s => ⟨_, rfl, rfl, B.sub.trans s⟩
  have g : ((j : Nat) : Int) < ((os.length : Nat) : Int) := g
  have g70 : ((j : Nat) : Int) < 70 := g70
  have hq' : os[j]? = some (os[j]'(by omega)) := List.getElem?_eq_getElem (by omega)
  generalize os[j]'(by omega) = o at hq'
  obtain ⟨b, oo, ea, hc⟩ := (ho.sub B.sub).get op6C_len (by decide) hq'
  have hc' : ∀ k v, (op6C o)[k]? = some v → x.cell b (oo + ((j : Nat) : Int).toNat * 6 + k) = some v := fun k v e => by rw [Int.toNat_natCast]; exact hc k v e
  refine ⟨by omega, g, b, oo, ea, _, hc' 0 _ rfl, _, hc' 1 _ rfl, _, hc' 2 _ rfl, _, hc' 3 _ rfl, _, hc' 4 _ rfl, _, hc' 5 _ rfl, ?_⟩
  refine light_spec o.a o.b o.c o.x o.y o.z ⟨_, rfl, split_not (fun _ => lives_spec fun h' s => ⟨_, rfl, rfl, B.sub.trans s⟩) fun e => by cases e⟩ fun hx hy hz => ⟨_, rfl, split_not (fun e => by cases e) fun _ => ?_⟩
  have next : IntKind.i64.wrap ((j : Int) + 1) = ((j + 1 : Nat) : Int) := by rw [wid (by omega) (by omega)]; omega
  have wf : ∀ (hg : Nat) (I : List Nat) (L : List KV) (D : Dk) (P : Pg) (S : Nat → Prop) (x : Hp), PgAt x pb jb db S n D P → TreeS (P.pgs D n) (P.now.r 1) hg L I → L.length < 4294967296 := fun hg I L D P S x E TT => by
    have := TT.tree.few (n := n) (pgs_ok E) fun i hi => (pgs_lt hi).2
    omega
  refine ⟨fun a42 a43 k44 k45 a46 k47 k48 a49 k50 k51 b52 x53 => b52 = true ∧ ∃ (tb : Nat) (L G : List KV) (Qp : List (Option Addr × Nat × List KV)) (S : Nat → Prop) (D : Dk) (P : Pg), a42 = some ⟨tb, 0, none⟩ ∧ k44 = L.length ∧ k47 = G.length ∧ k50 = Qp.length ∧ PgAt x53 pb jb db S n D P ∧ DOn D ∧ PlB h x53 S tb pb a43 k45 L a46 k48 G a49 k51 Qp ∧ PlT D n (j + 1) P L G Qp, ?_, ?_⟩
  · rintro a42 a43 k44 k45 a46 k47 k48 a49 k50 k51 b52 y ⟨rfl, tb, L, G, Qp, S, D, P, rfl, rfl, rfl, rfl, E, hD, B, TL⟩
    obtain ⟨⟨hg, I, TT⟩, hr, hs⟩ := TL.now
    have TT : TreeS (P.pgs D n) (P.now.r 1) hg L I := TT
    have hL := wf hg I L D P S y E TT
    refine split_not (fun e => by cases e) fun _ => check_spec E B.t (by decide) fun h55 v s55 hv => ⟨_, rfl, ?_⟩
    have hv : v = 0 := by
      rcases hv with ⟨e, _⟩ | ⟨_, e⟩
      · exact e
      · exact absurd ⟨hg, L, I, TT.tree⟩ e
    subst hv
    have E5 := E.sub s55
    have B5 := B.subs s55
    refine split_ne (fun e => absurd rfl e) fun _ => len_spec E5 B5.t (by decide) TT.tree fun h58 s58 => ⟨_, rfl, split_ne (fun e => absurd rfl e) fun _ => ?_⟩
    have B8 := B5.subs s58
    refine all_spec (E5.sub s58) B8.t (by decide) TT.tree fun h61 ra rc N => ⟨_, _, _, rfl, ?_⟩
    have B9 := B8.subs N.sub
    refine same_spec (L := L) (M := L) N.own.row B9.l.sl hL rfl ⟨_, rfl, split_not (fun e => by cases e) fun _ => ⟨70 - (j + 1), by omega, j + 1, tb, L, G, Qp, S, D, P, next, by omega, rfl, rfl, rfl, rfl, rfl, (E5.sub s58).sub N.sub, hD, B9, TL⟩⟩
  · obtain ⟨⟨hg, I, TT⟩, hr, hs⟩ := TL.now
    have TT : TreeS (P.pgs D n) (P.now.r 1) hg L I := TT
    have hL := wf hg I L D P S x E TT
    have TL1 := TL.mono (m' := j + 1) (by omega)
    have nr : ∀ t, t < 4 → t ≠ 1 → P.now.r t ∉ I := fun t ht h1 hi => by rw [hr t ht h1] at hi; exact root0 TT hi
    have same : ∀ {y : Hp}, Sub x y → (true = true ∧ ∃ (tb' : Nat) (L' G' : List KV) (Qp' : List (Option Addr × Nat × List KV)) (S' : Nat → Prop) (D' : Dk) (P' : Pg), (some ⟨tb, 0, none⟩ : Option Addr) = some ⟨tb', 0, none⟩ ∧ L.length = L'.length ∧ G.length = G'.length ∧ Qp.length = Qp'.length ∧ PgAt y pb jb db S' n D' P' ∧ DOn D' ∧ PlB h y S' tb' pb a15 k17 L' a18 k20 G' a21 k23 Qp' ∧ PlT D' n (j + 1) P' L' G' Qp') := fun s =>
      ⟨rfl, tb, L, G, Qp, S, D, P, rfl, rfl, rfl, rfl, E.sub s, hD, B.subs s, TL1⟩
    refine split_eq (fun _ => ?_) fun _ => split_eq (fun _ => ?_) fun _ => split_eq (fun _ => ?_) fun _ => split_eq (fun _ => ?_) fun _ => split_eq (fun _ => ?_) fun _ => split_eq (fun _ => ?_) fun _ => split_eq (fun _ => ?_) fun _ => split_eq (fun _ => ?_) fun _ => split_eq (fun _ => ?_) fun _ => split_eq (fun _ => ?_) fun _ => split_eq (fun _ => ?_) fun _ => same (Sub.refl x)
    · -- put
      refine value_spec o.a o.b o.c o.x o.y o.z hz fun h70 sv s70 hsv => ⟨_, rfl, s70, ?_⟩
      have B7 := B.subs s70
      refine lawput_spec (E.sub s70) B7.t B.nt (by decide) TT B7.l.sl B7.l.own.le hL B7.l.nS o.x sv (fun h' s => ⟨_, _, _, _, rfl, same (s70.trans s)⟩) fun h1 h' P' hg' I' a' c' E' kp TT' M N => ⟨_, _, _, _, rfl, rfl, tb, _, G, Qp, S, D, P', rfl, rfl, rfl, rfl, E'.sub N.1, hD, ?_, TL1.set M TT'⟩
      exact ((B7.keep kp).subs N.1).list (LsAt.new E' N)
    · -- drop
      refine free_spec E ⟨_, rfl, kvDrop_spec B.l.sl B.l.own.le hL o.x (fun hi => ⟨_, _, _, _, rfl, ?_⟩) fun hi h82 a' c' N => ⟨_, _, _, _, rfl, ?_⟩⟩
      · refine drop_spec E B.t B.nt (by decide) TT nr o.x (fun _ h' s => ⟨_, rfl, split_cond (fun _ => free_spec (E.sub s) ⟨_, rfl, ?_⟩) fun e => by cases e⟩) fun hi2 => by rw [hi] at hi2; cases hi2
        have ev : hb (decide (((P.freeN n : Nat) : Int) ≥ ((P.freeN n : Nat) : Int))) = true := by rw [hb_eq]; exact decide_eq_true (Int.le_refl _)
        rw [ev]
        exact same s
      · have B8 := B.subs N.1
        refine drop_spec (E.sub N.1) B8.t B.nt (by decide) TT nr o.x (fun hi2 => by rw [hi] at hi2; cases hi2) fun _ h' P' hg' I' E' kp TT' M fr => ⟨_, rfl, split_cond (fun _ => free_spec E' ⟨_, rfl, ?_⟩) fun e => by cases e⟩
        have ev : hb (decide (((P'.freeN n : Nat) : Int) ≥ ((P.freeN n : Nat) : Int))) = true := by rw [hb_eq]; exact decide_eq_true (by omega)
        rw [ev]
        exact ⟨rfl, tb, _, G, Qp, S, D, P', rfl, rfl, rfl, rfl, E', hD, (B8.list (LsAt.new E N)).keep kp, TL1.set M TT'⟩
    · -- get
      refine get_spec E B.t (by decide) TT.tree o.x fun h94 s94 => ⟨_, _, rfl, kvGetR_spec (B.l.sl.sub s94) hL o.x ⟨_, _, rfl, split_beqS (fun _ => ?_) fun e => absurd rfl e⟩⟩
      have ev : ((kvGet o.x L).isSome == (kvGet o.x L).isSome) = true := beq_self_eq_true _
      rw [ev]
      exact same s94
    · -- range
      refine range_spec E B.t (by decide) TT.tree o.x o.y o.b fun h102 ra rc N => ⟨_, _, _, rfl, N.sub, kvRangeI_spec (B.l.sl.sub N.sub) hL o.x o.y o.b fun h107 a' c' N2 => ⟨_, _, _, rfl, ?_⟩⟩
      have hlr : (kvRange o.x o.y o.b.toNat L).length < 4294967296 := by
        have h1 : (kvRange o.x o.y o.b.toNat L).length ≤ L.length := by
          unfold kvRange
          rw [List.length_take]
          have := List.length_filter_le (kvIn o.x o.y) L
          omega
        omega
      exact same_spec (SliceAt.sub N.own.row N2.1) N2.row.own.row hlr rfl ⟨_, rfl, same (N.sub.trans N2.1)⟩
    · exact beside_spec E B.t (by decide) TT.tree B.l.sl hL o.x (by omega) fun h' s => ⟨_, rfl, same s⟩
    · -- save
      refine save_spec E (fun _ => ⟨_, _, rfl, split_eq (fun e => by cases e) fun _ => same (Sub.refl x)⟩) fun hl16 h118 S' E' st => ⟨_, _, rfl, split_eq (fun _ => fun k121 hk121 => ?_) fun e => absurd rfl e⟩
      have B1 := B.step st
      have s121 := Sub.upd hk121 (.cells (ptl (a15, k17, L)).toArray 37 (0, 0))
      have Bk := Blk.new h118 k121 37 (ptl (a15, k17, L))
      have B2 := B1.subs s121
      have E2 := E'.sub s121
      have hpl := TL.len
      refine ⟨_, Bk.slice rfl, fun a' c' z => OwnR ptl 1 z 37 a' c' (Qp ++ [(a15, k17, L)]) ∧ Keep (blkOf a21) (h118.upd k121 (.cells (ptl (a15, k17, L)).toArray 37 (0, 0))) z ∧ ∀ b, blkOf a' b → blkOf a21 b ∨ (h118.upd k121 (.cells (ptl (a15, k17, L)).toArray 37 (0, 0))) b = none, ?_, append_ownR appTPtl ptl_len ptl_plain (M := [(a15, k17, L)]) B2.p rfl rfl (rowC_one _).symm (by show (2 * (Qp.length + 1) + 768) * 24 ≤ _; omega) fun a' c' z o1 o2 o3 => ⟨o1, o2, o3⟩⟩
      rintro a' c' z ⟨o1, o2, o3⟩
      have nb : ∀ b, blkOf a' b → ¬ S' b ∧ h b = none := fun b hb => (o3 b hb).elim (fun h' => B2.pS b h') fun h' => ⟨S_out E2 h', B2.sub.none h'⟩
      have kl : ∀ {aa : Option Addr} {cc : Nat} {LL : List KV}, LsAt (h118.upd k121 (.cells (ptl (a15, k17, L)).toArray 37 (0, 0))) S' aa cc LL → LsAt z S' aa cc LL := fun A => ⟨A.own.keep o2 (A.ne B2.p), A.nS⟩
      refine ⟨rfl, tb, L, G, Qp ++ [(a15, k17, L)], S', D, P.save, rfl, rfl, rfl, by rw [List.length_append]; rfl, E2.out o2 fun c hc hb => (B2.pS c hb).1 hc, hD, ⟨Blk.keep B2.t o2 fun hb => ?_, B2.nt, o2.sub B2.sub fun c hc => (B2.pS c hc).2, B2.new, kl B2.l, kl B2.g, o1, nb, fun e he => ?_⟩, TL1.save⟩
      · obtain ⟨ob, sb, eb⟩ := hb
        rcases B2.p.2.2 with ⟨e4, _⟩ | ⟨b2, r2, e4, Bp, _⟩
        · rw [e4] at eb; cases eb
        · rw [e4] at eb; cases eb
          exact absurd (Blk.inj B2.t Bp).1 (by decide)
      · rcases List.mem_append.1 he with he | he
        · exact kl (B2.q e he)
        · rw [List.mem_singleton.1 he]; exact kl B2.l
    · -- back
      refine back_spec E o.b (fun _ => ⟨_, rfl, split_eq (fun e => by cases e) fun _ => same (Sub.refl x)⟩) fun k p ek hpk h128 S' E' st => ⟨_, rfl, split_eq (fun _ => ?_) fun e => absurd rfl e⟩
      have hpl := TL.len
      have hk : k < P.pts.length := (List.getElem?_eq_some_iff.1 hpk).1
      obtain ⟨e, he⟩ : ∃ e, Qp[k]? = some e := ⟨_, List.getElem?_eq_getElem (by omega)⟩
      have B1 := B.step st
      obtain ⟨b2, o2, e2, hc2⟩ := B1.p.row.get ptl_len (by decide) he
      have le := B1.p.le
      rw [ek]
      refine split_dec (fun _ => ⟨by omega, by show ((k : Nat) : Int) < ((Qp.length : Nat) : Int); omega, b2, o2, e2, _, _, _, by rw [Int.toNat_natCast]; exact hc2 0 _ rfl, by omega, by show ((k : Nat) : Int) ≤ ((k23 : Nat) : Int); omega, ?_⟩) fun g2 => absurd (show ((k : Nat) : Int) < ((Qp.length : Nat) : Int) by omega) g2
      rw [slA_zero, Int.toNat_natCast]
      have hkl : (Qp.take k).length = k := by rw [List.length_take]; omega
      refine ⟨rfl, tb, e.2.2, G, Qp.take k, S', D, P.back k p, rfl, rfl, rfl, hkl.symm, E', hD, ⟨B1.t, B1.nt, B1.sub, B1.new, B1.q e (List.mem_of_getElem? he), B1.g, ?_, B1.pS, fun q hq => B1.q q (List.mem_of_mem_take hq)⟩, TL1.back hpk he⟩
      unfold OwnR
      rw [hkl, ← rowC_take ptl_len]
      exact Own.take B1.p (by omega)
    · -- commit
      have hn1 : ∃ S0, JAt x jb db S0 n D := by
        obtain ⟨S0, mb, pa, pc, Q, e⟩ := E.ex
        exact ⟨S0, e.j⟩
      obtain ⟨S0, J⟩ := hn1
      obtain ⟨r1, r2, r3⟩ := commit_don (P := P) hD J E.ok.d
      have ev : hb ((0 : Int) == 0) = true := by rw [hb_eq]; rfl
      refine pcommit_spec E hD.2.2 (fun _ e => by omega) (fun hc h' S' E' st => ⟨_, rfl, ?_⟩) (fun _ _ hne => absurd r1 hne) fun hc hs2 _ h' S' E' st => ⟨_, rfl, ?_⟩
      · rw [ev]
        have B1 := B.step st
        exact ⟨rfl, tb, L, L, [], S', D, _, rfl, rfl, rfl, rfl, E', hD, ⟨B1.t, B1.nt, B1.sub, B1.new, B1.l, B1.l, OwnR.nil _ _, (fun b ⟨o, s, e⟩ => by cases e), fun e he => by cases he⟩, TL1.commit0 hc E.ok.d⟩
      · rw [ev]
        have B1 := B.step st
        exact ⟨rfl, tb, L, L, [], S', _, _, rfl, rfl, rfl, rfl, E', r2, ⟨B1.t, B1.nt, B1.sub, B1.new, B1.l, B1.l, OwnR.nil _ _, (fun b ⟨o, s, e⟩ => by cases e), fun e he => by cases he⟩, TL.commit1 r3⟩
    · -- abort
      refine abort_spec E fun h' S' E' st => ⟨rfl, ?_⟩
      have B1 := B.step st
      exact ⟨rfl, tb, G, G, [], S', D, _, rfl, rfl, rfl, rfl, E', hD, ⟨B1.t, B1.nt, B1.sub, B1.new, B1.g, B1.g, OwnR.nil _ _, (fun b ⟨o, s, e⟩ => by cases e), fun e he => by cases he⟩, PlT.reset TL1.good⟩
    · -- clear
      refine clear_spec E B.t B.nt (by decide) TT nr fun h' P' E' kp r0 M => ⟨rfl, ?_⟩
      have B1 := B.keep kp
      have T0 : TreeS (P'.pgs D n) (P'.now.r 1) 0 [] [] := ⟨r0, rfl, rfl⟩
      refine height_spec E' B1.t (by decide) T0.tree (by decide) fun h2 s2 => ⟨_, rfl, ?_⟩
      have ev : hb (((0 : Nat) : Int) == 0) = true := by rw [hb_eq]; rfl
      rw [ev]
      exact ⟨rfl, tb, [], G, Qp, S, D, P', rfl, rfl, rfl, rfl, E'.sub s2, hD, (B1.subs s2).list (LsAt.nil _ _), TL1.set M T0⟩
    · -- open
      refine open_spec E (k := 1) (by decide) (fun h' tb' s' n' T' _ => ⟨_, _, rfl, split_cond (fun e => by cases e) fun _ => split_ne (fun e => absurd rfl e) fun _ => ?_⟩) fun no => absurd ⟨hg, L, I, TT.tree⟩ no
      have B1 := B.subs s'
      exact ⟨rfl, tb', L, G, Qp, S, D, P, rfl, rfl, rfl, rfl, E.sub s', hD, ⟨T', S_out E n', B1.sub, B1.new, B1.l, B1.g, B1.p, B1.pS, B1.q⟩, TL1⟩
end Go.Proofs.YthbogjbcecmopaaGreatDoor
namespace Go.Proofs.YthbogjbcecmopaaGreatDoor
open Go.Gx
set_option maxRecDepth 100000
set_option linter.unusedVariables false
theorem op6_row {W : World} {a : Option Addr} {l : Nat} (hr : RowOk Tryz.prog W 48 a l) : ∃ os : List Op6, os.length = l ∧ RowAt op6C 6 (heapOf W) a os := by
  have ek : kds Tryz.prog 48 = [.int .i64, .int .i64, .int .i64, .str, .str, .str] := by kernel_rfl
  have es : Tryz.prog.cellsOf 48 = 6 := by kernel_rfl
  obtain ⟨os, h1, h2, _⟩ := hr.row (f := op6C) (sz := 6) (p := fun _ => True) op6C_len (by decide) es fun cs hk => by
    rw [ek] at hk
    obtain ⟨_, _, rfl, ⟨u, rfl, _⟩, k1⟩ := hk.cons_eq
    obtain ⟨_, _, rfl, ⟨n, rfl, _⟩, k2⟩ := k1.cons_eq
    obtain ⟨_, _, rfl, ⟨w, rfl, _⟩, k3⟩ := k2.cons_eq
    obtain ⟨_, _, rfl, ⟨x, rfl, _⟩, k4⟩ := k3.cons_eq
    obtain ⟨_, _, rfl, ⟨y, rfl, _⟩, k5⟩ := k4.cons_eq
    obtain ⟨_, _, rfl, ⟨z, rfl, _⟩, k6⟩ := k5.cons_eq
    obtain rfl := k6.nil_eq
    exact ⟨⟨u, n, w, x, y, z⟩, rfl, trivial⟩
  exact ⟨os, h1, h2⟩
theorem plays_all (W : World) (pages : Int) {p1 : Prop} (_ : p1) (a : Option Addr) (l c : Nat) (hr : RowOk Tryz.prog W 48 a l ∧ l ≤ c ∧ c ≤ maxLen ∧ (a = none → l = 0 ∧ c = 0)) :
    CallsH Tryz.prog law15_BtreePlays.id #[.int .i64 pages, .slice a l c] (heapOf W) fun v h' => v = .bool true ∧ Sub (heapOf W) h' := by
  obtain ⟨os, rfl, ho⟩ := op6_row hr.1
  exact plays_core pages a c os ho
end Go.Proofs.YthbogjbcecmopaaGreatDoor
namespace Go.Proofs.YthbogjbcecmopaaGreatDoor.btreePlays
open Go.ChangeShapes Go.WideShapes Go.ChangeAt Go.RowKit Go.Gx
open Go.ChangeMaps (open_string shut_string)
set_option linter.unusedVariables false
theorem own : ownKnob Tryz.prog.godebug = none := by kernel_rfl
theorem laidOut : laidOutB Tryz.prog = true := by kernel_rfl
set_option maxRecDepth 100000 in
theorem lifted (os : Os) (started : os.Started) (H : Type) (enc : TypeId × Value → H) :
    ReturnsInHanded {} Tryz.checked os 6 .any (fun w args => (Rows.btreePlaysSpec.pre enc Tryz.prog Tryz.f6 Rows.btreePlaysRow.domain false w args ∧ laidMetH Tryz.prog Rows.btreePlaysRow.laid w) ∧ sizedMet enc Tryz.prog Tryz.f6 (OpenSpec.ofChange Rows.btreePlaysSpec) false w args) (Rows.btreePlaysSpec.post enc Tryz.prog Tryz.f6 false true false false) := by
  refine returnsInHanded_of_change_and (C := Tryz.checked) (X := fun w _ => laidMetH Tryz.prog Rows.btreePlaysRow.laid w) (fun _ _ _ hh h => h.of_heap hh) own started (by kernel_rfl) Tryz.func6
    (ChangeSpec.witness_shaped (enc := enc) (C := Tryz.checked) (os := os) (X := fun w _ => laidMetH Tryz.prog Rows.btreePlaysRow.laid w) false (World.laidAll Tryz.prog os Rows.btreePlaysRow.laid) #[.int .i64 0, .slice none 0 0] 8 (World.laidAll_os _ _ _)
      (World.shaped_of_ZipB (by kernel_rfl) (by kernel_rfl)) (by kernel_rfl) (by kernel_rfl) (by kernel_rfl)
      (by rw [MakeChecks.laidMetH_plain _ _ _ (by kernel_rfl)]; exact laidMet_laidAll _ (by kernel_rfl) (by kernel_rfl))) ?_
  intro W base args ds gs before hval0 hW hcnd hz _ _
  have hval : ∀ (j : Nat) t v, Tryz.f6.params[j]? = some t → args[j]? = some v → Value.okWide Tryz.prog W .any base t v := hval0
  have hW' := hW
  obtain ⟨p, q, hA0, hV, rfl, hfz, hnd⟩ := hW
  have hA : DataW.TrodAll enc Tryz.prog W 0 (fun _ => true) true Tryz.f6.params.toList args.toList ds p := hA0
  rw [Tryz.params6] at hA hval
  obtain ⟨v0, vs0, d0, ds0, p0, q0, hargs, rfl, rfl, h0, r0⟩ := trodAll_cons hA
  obtain ⟨v1, vs1, d1, ds1, p1, q1, rfl, rfl, rfl, h1, r1⟩ := trodAll_cons r0
  obtain ⟨rfl, rfl, rfl⟩ := trodAll_nil r1
  obtain rfl : args = #[v0, v1] := by cases args; simp_all
  obtain ⟨rfl, rfl⟩ := trodVars_none hV
  have k0 := h0
  have lt0 : ∀ x ∈ p0, x.block < W.heap.size := by obtain ⟨m, hm⟩ := k0; exact DataW.trod_lt m _ _ _ hm
  obtain ⟨a0, rfl, rfl, rfl, w0⟩ := open_int Tryz.underlying3 (hval 0 3 v0 rfl rfl) h0
  have k1 := h1
  have lt1 : ∀ x ∈ p1, x.block < W.heap.size := by obtain ⟨m, hm⟩ := k1; exact DataW.trod_lt m _ _ _ hm
  obtain ⟨a1, l1, c1, rfl⟩ := okWide_slice Tryz.underlying57 (hval 1 57 v1 rfl rfl)
  have w1 := row_ok Tryz.underlying57 (by kernel_rfl) (by kernel_rfl) rfl h1
  clear hA0 hval0
  refine (calls_below (plays_all W a0 w0 a1 l1 c1 w1)).mono fun e W' ⟨he, bel⟩ => ?_
  subst he
  exact ⟨_, rfl, _, _, _, [], _, [], hW', trodAll_mk1 (shut_bool Tryz.underlying4 _), (trodAll_cons_mk (Below.trod laidOut (by kernel_rfl) (of_decide_eq_true (by kernel_rfl)) k0 bel lt0) (trodAll_cons_mk (Below.trod laidOut (by kernel_rfl) (of_decide_eq_true (by kernel_rfl)) k1 bel lt1) trodAll_mk0)), rfl, bel.frame _, fun h => by cases h⟩
theorem over : Rows.btreePlaysRow.holds Tryz.pinned (OpenSpec.ofChange Rows.btreePlaysSpec) :=
  OpenClaim.holds_of_wide 6 Tryz.f6 rfl rfl rfl rfl rfl rfl rfl ⟨rfl, rfl, rfl, rfl, rfl⟩ rfl rfl rfl rfl rfl (by kernel_rfl) Tryz.func6 (by kernel_rfl)
    (of_decide_eq_true (by kernel_rfl)) (by unfold Func.isWrapper; first | (rw [if_pos (by decide +kernel)]; kernel_rfl) | (rw [if_neg (by decide +kernel)]; exact ⟨rfl, rfl⟩))
    (fun os started H enc _ => lifted os started H enc)
theorem proved : Rows.BtreePlaysSaid := over
end Go.Proofs.YthbogjbcecmopaaGreatDoor.btreePlays
namespace Go.Proofs.YthbogjbcecmopaaGreatDoor
theorem btreePlays_holds : Rows.BtreePlaysCardSaid :=
  Claim7.holds_tied_plain_at .later [] [.data, .pinned] true (true, "88b840c6857e141b8992512d7463ed0858dbf39f2fe20160b127cdf65cb1e027") true
    btreePlays.proved (fun _ h => by cases h) (by kernel_rfl) (fun _ h => by cases h) btreePlays_row_tie rfl ⟨rfl, rfl⟩ (by kernel_rfl) rfl
    (fun f fn hf hfn => by
      obtain rfl : f = 6 := Option.some.inj ((show Tryz.prog.funcNamed Rows.btreePlaysRow.func = some 6 by kernel_rfl).symm.trans hf) |>.symm
      obtain rfl : fn = Tryz.f6 := (Option.some.inj (Tryz.func6.symm.trans hfn)).symm
      exact ⟨by kernel_rfl, fun j t ht => by
        rw [Tryz.params6] at ht
        have hm : t ∈ [3, 57] := by simpa using Array.mem_of_getElem? ht
        have hall : ([3, 57].all fun u => !Tryz.prog.wantsStandIn u) = true := by kernel_rfl
        exact (show Tryz.prog.wantsStandIn t = false by simpa using List.all_eq_true.1 hall t hm)⟩)
    (by kernel_rfl)
#print axioms btreePlays_holds
end Go.Proofs.YthbogjbcecmopaaGreatDoor
