/- Put. Conditions: the pager stands, the tree is right. Two pages put together, if they fit. Conditions: the pager stands, the node above stands in memory. A key taken away below a page. Conditions: the pager stands, the tree is right, no page below is another root. Drop, Clear. Conditions: the pager stands, the tree is right, no page of it is another root. What the plain list's functions make of entries in a list. Conditions: the entries lie in memory as they are named; fewer than 2^32 of them. The law's own functions: what may be, the same entries, the example, those beside a key. Conditions: those that each contract names. -/
import Derived.Test.YthbogjbcecmopaaGreatDoorPq06
import Derived.KernelRfl
namespace Go.Proofs.YthbogjbcecmopaaGreatDoor
open Go.Gx
set_option maxRecDepth 100000
set_option linter.unusedVariables false
variable {n : Nat} {D : Dk} {P P' : Pg} {h : Hp} {K : Value → Hp → Prop} {pb jb db : Nat} {S : Nat → Prop} {tb k : Nat}
theorem ppoint_ok (E : PgAt h pb jb db S n D P) {t j : Nat} (ht : t < 4) (hj : j = 0 ∨ P.why n (j : Nat) = 0) (hG : ∀ h', PgAt h' pb jb db S n D (P.point t j) → Step S h S h' → K (.int .i64 0) h') :
    CallsH Tryz.prog pager_Pager_Point.id #[.pointer (some ⟨pb, 0, none⟩), .int .i64 (t : Nat), .int .i64 (j : Nat)] h K := by
  have hn := E.n2
  apply pager_Pager_Point.calls
  unfold pager_Pager_Point.W
  refine split_dec (fun e => by omega) fun k0 => split_dec (fun e => by omega) fun k4 => ⟨fun x => x = h, ?_, split_ne (fun e => puse_spec E _ ⟨_, rfl, split_ne (fun e2 => ?_) fun e0 => rfl⟩) fun e => rfl⟩
  · rintro x rfl
    have idx : 0 + 134 + 1 + ((t : Nat) : Int).toNat * 1 = 134 + 1 + t := by rw [Int.toNat_natCast]; omega
    rw [idx]
    obtain ⟨S0, mb, pa, pc, Q, e⟩ := E.ex
    have B2 := e.blk.put (134 + 1 + t) [.int .i64 ((j : Nat) : Int)]
    rw [pgC_setR _ _ ht] at B2
    have kp : Keep (fun c => c = pb ∨ c = mb) x (x.put pb (134 + 1 + t) [.int .i64 ((j : Nat) : Int)]) := Keep.put _ x _ _ (.inl rfl)
    have hmpb : mb ≠ pb := e.d.ne e.blk
    obtain ⟨e', st⟩ := e.put (now' := { P.now with r := upR P.now.r t j }) (d' := P.d) kp B2 (e.d.keep (Keep.put (fun c => c = pb) x _ _ rfl) hmpb)
    have hj2 : j < 128 ∧ (j ≠ 0 → P.now.u j = true) := by
      rcases hj with rfl | hj
      · exact ⟨by decide, fun h => absurd rfl h⟩
      · obtain ⟨j', ej, h1, h2, h3⟩ := why_ok hj
        have : j = j' := by omega
        subst this
        exact ⟨by omega, fun _ => h3⟩
    exact ⟨by omega, by omega, e.blk.store (by rw [pgC_len]; show 134 + 1 + t + 1 ≤ 269; omega), hG _ ⟨⟨S0, mb, pa, pc, Q, e'⟩, E.ok.put (E.ok.now.point hj2.1 hj2.2) E.ok.d, E.up⟩ st⟩
  · rcases hj with rfl | hj
    · exact absurd rfl e
    · exact absurd hj e2
def TreeS (pg : Nat → Option Nd) (root : Nat) (hg : Nat) (L : List KV) (I : List Nat) : Prop := match hg with
  | 0 => root = 0 ∧ L = [] ∧ I = []
  | m + 1 => root ≠ 0 ∧ TrS pg m root eB eB ∧ L = ents pg m root ∧ I = ids pg m root ∧ I.Nodup ∧ L ≠ []
theorem TreeS.tree {pg : Nat → Option Nd} {root hg : Nat} {L : List KV} {I : List Nat} (T : TreeS pg root hg L I) : Tree pg root hg L I := by
  cases hg with
  | zero => exact T
  | succ m => exact ⟨T.1, T.2.1.tr, T.2.2.1, T.2.2.2.1, T.2.2.2.2.1⟩
theorem TreeS.frame {pg pg' : Nat → Option Nd} {root hg : Nat} {L : List KV} {I : List Nat} (T : TreeS pg root hg L I) (H : ∀ i ∈ I, pg' i = pg i) : TreeS pg' root hg L I := by
  cases hg with
  | zero => exact T
  | succ m =>
    obtain ⟨h1, h2, h3, h4, h5⟩ := T
    rw [h4] at H
    obtain ⟨g1, g2, g3⟩ := h2.tr.frame H
    exact ⟨h1, h2.frame H, h3.trans g2.symm, h4.trans g3.symm, h5⟩
theorem TreeS.used {root hg : Nat} {L : List KV} {I : List Nat} (T : TreeS (P.pgs D n) root hg L I) : ∀ i ∈ I, (P.pgs D n i).isSome = true := by
  cases hg with
  | zero => intro i hi; rw [T.2.2] at hi; cases hi
  | succ m => intro i hi; rw [T.2.2.2.1] at hi; exact T.2.1.in_pg hi
structure MvT (n : Nat) (D : Dk) (k : Nat) (P P' : Pg) (I I' : List Nat) : Prop where
  good : P'.good = P.good
  pts : P'.pts = P.pts
  ser : P'.now.s = P.now.s
  roots : ∀ t, t ≠ k → P'.now.r t = P.now.r t
  out : ∀ i, P.now.u i = true → i ∉ I → P'.now.u i = true ∧ P'.pgs D n i = P.pgs D n i
  new : ∀ i ∈ I', i ∈ I ∨ P.now.u i = false
  free : P'.freeN n + I'.length = P.freeN n + I.length
theorem Mv.t {I I' : List Nat} (M : Mv n D P P' I I') (k : Nat) : MvT n D k P P' I I' := ⟨M.good, M.pts, M.ser, fun t _ => by rw [M.roots], M.out, M.new, M.free⟩
theorem MvT.trans {P2 : Pg} {I I1 I2 : List Nat} (a : MvT n D k P P' I I1) (b : MvT n D k P' P2 I1 I2) : MvT n D k P P2 I I2 := by
  have no : ∀ i, P.now.u i = true → i ∉ I → i ∉ I1 := fun i h1 h2 h3 => (a.new i h3).elim h2 fun h => by rw [h1] at h; cases h
  refine ⟨b.good.trans a.good, b.pts.trans a.pts, b.ser.trans a.ser, fun t ht => (b.roots t ht).trans (a.roots t ht), fun i h1 h2 => ?_, fun i hi => ?_, ?_⟩
  · obtain ⟨g1, g2⟩ := a.out i h1 h2
    obtain ⟨g3, g4⟩ := b.out i g1 (no i h1 h2)
    exact ⟨g3, g4.trans g2⟩
  · rcases b.new i hi with h | h
    · exact a.new i h
    · by_cases h1 : P.now.u i = true
      · by_cases h2 : i ∈ I
        · exact .inl h2
        · rw [(a.out i h1 h2).1] at h; cases h
      · exact .inr (by simpa using h1)
  · have := a.free
    have := b.free
    omega
theorem upR_same (r : Nat → Nat) (k i : Nat) : upR r k i k = i := if_pos rfl
theorem MvT.point (k i : Nat) (I : List Nat) : MvT n D k P (P.point k i) I I := ⟨rfl, rfl, rfl, fun t ht => if_neg ht, fun j h _ => ⟨h, rfl⟩, fun j h => .inl h, rfl⟩
theorem MvT.apart {I I' R : List Nat} (M : MvT n D k P P' I I') (hR : ∀ i ∈ R, (P.pgs D n i).isSome = true ∧ i ∉ I) : (∀ i ∈ R, P'.pgs D n i = P.pgs D n i) ∧ ∀ i ∈ R, i ∉ I' := by
  refine ⟨fun i hi => (M.out i (pgs_used (hR i hi).1) (hR i hi).2).2, fun i hi h => ?_⟩
  rcases M.new i h with h | h
  · exact (hR i hi).2 h
  · rw [pgs_used (hR i hi).1] at h; cases h
theorem ids_len {pg : Nat → Option Nd} : ∀ {m id : Nat} {f t : ByteArray}, Tr pg m id f t → m + 1 ≤ (ids pg m id).length
  | 0, _, _, _, _ => Nat.le_refl _
  | m + 1, id, f, t, ⟨nd, h1, h2, h3, h4⟩ => by
    have := ids_len (h4 0 nd.first rfl)
    show m + 2 ≤ (id :: (kidsOf pg id).flatMap (ids pg m)).length
    rw [kidsOf_eq h1]
    show m + 2 ≤ (id :: (nd.first :: nd.l.map En.kid).flatMap (ids pg m)).length
    rw [List.length_cons, List.flatMap_cons, List.length_append]
    omega
theorem TreeS.high {root hg : Nat} {L : List KV} {I : List Nat} (T : TreeS (P.pgs D n) root hg L I) : hg ≤ I.length ∧ I.length ≤ n := by
  cases hg with
  | zero => rw [T.2.2]; exact ⟨Nat.le_refl _, Nat.zero_le _⟩
  | succ m =>
    obtain ⟨h1, h2, h3, h4, h5, h6⟩ := T
    refine ⟨by rw [h4]; exact ids_len h2.tr, nodup_below n I h5 fun i hi => (pgs_lt (D := D) (P := P) ?_).2⟩
    rw [h4] at hi
    exact h2.in_pg hi
theorem one_node {x : Hp} {k1 k2 : Nat} {nd : Nd} {e : En} (hl : nd.l = [e]) (B1 : Blk x k1 100 (enC e)) (B2 : Blk x k2 97 [.int .i64 (nd.kind : Nat), .int .i64 (nd.first : Nat), .slice (some ⟨k1, 0, none⟩) 1 1]) : NdEx x k2 (some ⟨k1, 0, none⟩) 1 nd := by
  refine ⟨?_, ?_, by rw [hl]; exact Nat.le_refl _, fun b ⟨o, s, e'⟩ e2 => ?_⟩
  · unfold ndC
    rw [hl]; exact B2
  · rw [hl]
    exact RowAt.blk (by rw [rowC_one]; exact B1) enC_len
  · cases e'
    subst e2
    exact absurd (B1.inj B2).1 (by decide)
set_option maxHeartbeats 4000000 in
theorem put_spec (E : PgAt h pb jb db S n D P) (T : TrAt h tb pb k) (nt : ¬ S tb) (hk : k < 4) {hg : Nat} {L : List KV} {I : List Nat} (TT : TreeS (P.pgs D n) (P.now.r k) hg L I) (key v : ByteArray) (hB : may key v = false → K (.int .i64 1) h) (hF : may key v = true → P.freeN n < hg + 1 → ∀ h', Sub h h' → K (.int .i64 5) h')
    (hG : may key v = true → hg + 1 ≤ P.freeN n → ∀ h' P' hg' I', PgAt h' pb jb db S n D P' → Keep S h h' → TreeS (P'.pgs D n) (P'.now.r k) hg' (kvPut key v L) I' → MvT n D k P P' I I' → I'.length ≤ I.length + hg + 1 → K (.int .i64 0) h') :
    CallsH Tryz.prog btree_Tree_Put.id #[.pointer (some ⟨tb, 0, none⟩), .string key, .string v] h K := by
  have hn := E.n2
  have hhg : hg ≤ 128 := by have := TT.high; omega
  have hfl := freeN_le P n
  apply btree_Tree_Put.calls
  unfold btree_Tree_Put.W
  refine may_spec key v ⟨_, rfl, split_not (fun hm => hB hm) fun hm => ⟨_, T.cell' 0 rfl, free_spec E ⟨_, rfl, height_spec E T hk TT.tree (by omega) fun h9 s9 => ⟨_, rfl, ?_⟩⟩⟩⟩
  have e1 : IntKind.i64.wrap ((hg : Int) + 1) = ((hg + 1 : Nat) : Int) := by rw [wid (by omega) (by omega)]; omega
  rw [e1]
  refine split_dec (fun g => hF hm (by omega) h9 s9) fun g => ?_
  have hG := hG hm (by omega)
  have E9 := E.sub s9
  have T9 : TrAt h9 tb pb k := Blk.sub T s9
  have ks := may_key64 hm
  have vs : v.size ≤ 400 := by
    unfold may at hm
    have := of_decide_eq_true hm
    omega
  refine ⟨_, T9.cell' 0 rfl, _, T9.cell' 1 rfl, root_spec E9 hk ⟨_, rfl, split_eq (fun e0 => ?_) fun e0 => ?_⟩⟩
  · cases hg with
    | succ m => exact absurd (by omega) TT.1
    | zero =>
      obtain ⟨_, rfl, rfl⟩ := TT
      refine ⟨_, T9.cell' 0 rfl, alloc_spec E9 (fun H => absurd H (free_some E9 (by omega))) fun i i1 i2 i3 _ h3 E3 st3 => ⟨_, _, rfl, split_ne (fun e => absurd rfl e) fun _ => fun k21 hk21 k22 hk22 => ?_⟩⟩
      have T3 : TrAt h3 tb pb k := Blk.keep T9 st3.1 nt
      have hx : setL [Value.string (bytesL []), .string (bytesL []), .int .i64 0] 0 (setL (setL [Value.string (bytesL []), .string (bytesL []), .int .i64 0] 0 [.string key]) 1 [.string v]) = enC ⟨key, v, 0⟩ := rfl
      rw [hx] at hk22
      have hx2 : #[Value.string key, .string v, .int .i64 0] = (enC ⟨key, v, 0⟩).toArray := rfl
      rw [hx2]
      have B21 := (Blk.new h3 k21 100 (enC ⟨key, v, 0⟩)).upd hk22 (.cells [Value.int .i64 1, .int .i64 0, .slice (some ⟨k21, 0, none⟩) 1 1].toArray 97 (0, 0))
      have B22 := Blk.new (h3.upd k21 (.cells (enC ⟨key, v, 0⟩).toArray 100 (0, 0))) k22 97 [.int .i64 1, .int .i64 0, .slice (some ⟨k21, 0, none⟩) 1 1]
      have s22 := (Sub.upd hk21 (.cells (enC ⟨key, v, 0⟩).toArray 100 (0, 0))).trans (Sub.upd hk22 (.cells [Value.int .i64 1, .int .i64 0, .slice (some ⟨k21, 0, none⟩) 1 1].toArray 97 (0, 0)))
      generalize (h3.upd k21 (.cells (enC ⟨key, v, 0⟩).toArray 100 (0, 0))).upd k22 (.cells [Value.int .i64 1, .int .i64 0, .slice (some ⟨k21, 0, none⟩) 1 1].toArray 97 (0, 0)) = y at B21 B22 s22 ⊢
      have N : NdEx y k22 _ 1 ⟨true, 0, [⟨key, v, 0⟩]⟩ := one_node rfl B21 B22
      have o : NdOk ⟨true, 0, [⟨key, v, 0⟩]⟩ := by
        refine ⟨fun e he => ?_, by show 0 < 65536; decide, ?_, fun _ => rfl⟩
        · rw [List.mem_singleton.1 he]; exact ⟨hm, by show 0 < 65536; decide, rfl⟩
        · show 3 + (3 + key.size + v.size + 0) ≤ 1024
          omega
      have hw : (P.alloc i).why n (i : Nat) = 0 := why_i i1 i2 (upU_same _ _ _)
      refine store_spec (E3.sub s22) (Blk.sub T3 s22) N o hw fun h4 E4 k4 => ⟨rfl, ?_⟩
      have T4 : TrAt h4 tb pb k := Blk.keep (Blk.sub T3 s22) k4 nt
      refine ⟨_, T4.cell' 0 rfl, _, T4.cell' 1 rfl, ppoint_ok E4 hk (.inr hw) fun h5 E5 st5 => ⟨_, rfl, ?_⟩⟩
      have pi : ((P.alloc i).write i (pageB ⟨true, 0, [⟨key, v, 0⟩]⟩)).pgs D n i = some ⟨true, 0, [⟨key, v, 0⟩]⟩ := pgs_write_same hw o
      refine hG h5 _ 1 [i] E5 ((s9.keep S).trans (st3.1.trans ((s22.keep S).trans (k4.trans st5.1)))) ⟨?_, ⟨⟨true, 0, [⟨key, v, 0⟩]⟩, ?_, rfl, ?_⟩, ?_, ?_, by simp, kvPut_ne _ _⟩ ?_ (by show 1 ≤ 0 + 0 + 1; decide)
      · rw [show ((((P.alloc i).write i (pageB ⟨true, 0, [⟨key, v, 0⟩]⟩)).point k i).now.r k) = i from upR_same _ _ _]; omega
      · rw [show ((((P.alloc i).write i (pageB ⟨true, 0, [⟨key, v, 0⟩]⟩)).point k i).now.r k) = i from upR_same _ _ _]; exact pi
      · exact keysOk_iff.2 ⟨fun e he => by rw [List.mem_singleton.1 he]; exact ⟨blt_eB key, fun h => absurd rfl h⟩, List.pairwise_singleton _ _⟩
      · rw [show ((((P.alloc i).write i (pageB ⟨true, 0, [⟨key, v, 0⟩]⟩)).point k i).now.r k) = i from upR_same _ _ _]
        exact (ents_N (m := 0) pi).symm
      · rw [show ((((P.alloc i).write i (pageB ⟨true, 0, [⟨key, v, 0⟩]⟩)).point k i).now.r k) = i from upR_same _ _ _]; rfl
      · exact (((Mv.alloc i2 i3 []).trans (Mv.write List.mem_cons_self _)).t k).trans (MvT.point k i [i])
  · cases hg with
    | zero => exact absurd (by rw [TT.1]; rfl) e0
    | succ m =>
      obtain ⟨r0, T0, rfl, rfl, nI, _⟩ := TT
      refine insert_spec nt hm m E9 T9 T0 nI (blt_eB key) (fun h => absurd rfl h) (by omega) (fun h4 P1 E4 k4 R => ⟨_, _, rfl, split_ne (fun e => absurd rfl e) fun _ => split_cond (fun _ => ?_) fun e => by cases e⟩) fun h4 P1 u e E4 k4 Bu u0 R => ⟨_, _, rfl, split_ne (fun e => absurd rfl e) fun _ => split_cond (fun e => by cases e) fun _ => ?_⟩
      · refine hG h4 P1 (m + 1) _ E4 ((s9.keep S).trans k4) ⟨?_, ?_, ?_, rfl, ?_, kvPut_ne _ _⟩ ?_ ?_
        · rw [R.mv.roots]; exact r0
        · rw [R.mv.roots]; exact R.tr
        · rw [R.mv.roots]; exact R.es.symm
        · rw [R.mv.roots]; exact R.nd
        · rw [R.mv.roots]; exact R.mv.t k
        · rw [R.mv.roots]; have := R.len; omega
      · have fr := R.mv.free
        have rl := R.len
        have T4 : TrAt h4 tb pb k := Blk.keep T9 k4 nt
        refine ⟨_, T4.cell' 0 rfl, alloc_spec E4 (fun H => absurd H (free_some E4 (by omega))) fun i i1 i2 i3 _ h3 E3 st3 => ⟨_, _, rfl, split_ne (fun e => absurd rfl e) fun _ => ?_⟩⟩
        have T3 : TrAt h3 tb pb k := Blk.keep T4 st3.1 nt
        have nu : ¬ S u := S_out E9 u0
        have B3 := Bu.keep st3.1 nu
        refine ⟨u, 0, rfl, _, B3.cell' 0 rfl, _, B3.cell' 1 rfl, _, B3.cell' 2 rfl, fun k21 hk21 k22 hk22 => ?_⟩
        have hx : setL [Value.string (bytesL []), .string (bytesL []), .int .i64 0] 0 [.string e.key, .string e.val, .int .i64 (e.kid : Nat)] = enC e := rfl
        rw [hx] at hk22
        have hx2 : #[Value.string e.key, .string e.val, .int .i64 (e.kid : Nat)] = (enC e).toArray := rfl
        rw [hx2]
        have B21 := (Blk.new h3 k21 100 (enC e)).upd hk22 (.cells [Value.int .i64 2, .int .i64 (P.now.r k : Nat), .slice (some ⟨k21, 0, none⟩) 1 1].toArray 97 (0, 0))
        have B22 := Blk.new (h3.upd k21 (.cells (enC e).toArray 100 (0, 0))) k22 97 [.int .i64 2, .int .i64 (P.now.r k : Nat), .slice (some ⟨k21, 0, none⟩) 1 1]
        have s22 := (Sub.upd hk21 (.cells (enC e).toArray 100 (0, 0))).trans (Sub.upd hk22 (.cells [Value.int .i64 2, .int .i64 (P.now.r k : Nat), .slice (some ⟨k21, 0, none⟩) 1 1].toArray 97 (0, 0)))
        generalize (h3.upd k21 (.cells (enC e).toArray 100 (0, 0))).upd k22 (.cells [Value.int .i64 2, .int .i64 (P.now.r k : Nat), .slice (some ⟨k21, 0, none⟩) 1 1].toArray 97 (0, 0)) = y at B21 B22 s22 ⊢
        have N : NdEx y k22 _ 1 ⟨false, P.now.r k, [e]⟩ := one_node rfl B21 B22
        have rb := (E.ok.now.roots k hk).1
        have o : NdOk ⟨false, P.now.r k, [e]⟩ := by
          refine ⟨fun e' he => ?_, by show P.now.r k < 65536; omega, ?_, fun h => by cases h⟩
          · rw [List.mem_singleton.1 he]; exact R.ok
          · have := (esz_le R.ok).2
            rw [if_neg (by decide)] at this
            show 5 + (Nd.esz false e + 0) ≤ 1024
            omega
        have hw : (P1.alloc i).why n (i : Nat) = 0 := why_i i1 i2 (upU_same _ _ _)
        refine store_spec (E3.sub s22) (Blk.sub T3 s22) N o hw fun h5 E5 k5 => ⟨rfl, ?_⟩
        have T5 : TrAt h5 tb pb k := Blk.keep (Blk.sub T3 s22) k5 nt
        refine ⟨_, T5.cell' 0 rfl, _, T5.cell' 1 rfl, ppoint_ok E5 hk (.inr hw) fun h6 E6 st6 => ⟨_, rfl, ?_⟩⟩
        have pi : ((P1.alloc i).write i (pageB ⟨false, P.now.r k, [e]⟩)).pgs D n i = some ⟨false, P.now.r k, [e]⟩ := pgs_write_same hw o
        have W1 : Fw (P1.pgs D n) (m + 1) ⟨false, P.now.r k, [e]⟩ eB eB := ⟨rfl, ⟨keysOk_iff.2 ⟨fun e' he => by rw [List.mem_singleton.1 he]; exact ⟨blt_eB _, fun h => absurd rfl h⟩, List.pairwise_singleton _ _⟩, fun e' he => by rw [List.mem_singleton.1 he]; exact R.lo⟩, R.tr, R.tr2, trivial⟩
        have F1 : Fn (P1.pgs D n) (m + 1) ⟨false, P.now.r k, [e]⟩ := ⟨fun h => R.ne h.1, trivial⟩
        have iN : idsN (P1.pgs D n) (m + 1) ⟨false, P.now.r k, [e]⟩ = ids (P1.pgs D n) m (P.now.r k) ++ ids (P1.pgs D n) m e.kid := by
          show idsK (P1.pgs D n) m [(eB, P.now.r k), clE e] = _
          unfold idsK; simp [clE]
        have eN : entsN (P1.pgs D n) (m + 1) ⟨false, P.now.r k, [e]⟩ = ents (P1.pgs D n) m (P.now.r k) ++ ents (P1.pgs D n) m e.kid := by
          show (entsK (P1.pgs D n) m [(eB, P.now.r k), clE e]).flatten = _
          unfold entsK; simp [clE]
        have ni : ∀ j ∈ idsN (P1.pgs D n) (m + 1) ⟨false, P.now.r k, [e]⟩, j ≠ i := fun j hj ej => by
          have := pgs_used (W1.in_pg hj)
          rw [ej, i3] at this; cases this
        obtain ⟨g1, g2, g3⟩ := TrS.put (pg' := ((P1.alloc i).write i (pageB ⟨false, P.now.r k, [e]⟩)).pgs D n) W1 F1 pi fun j hj => (pgs_write_ne (ni j hj)).trans (pgs_alloc_ne (ni j hj))
        have er : (((P1.alloc i).write i (pageB ⟨false, P.now.r k, [e]⟩)).point k i).now.r k = i := upR_same _ _ _
        refine hG h6 _ (m + 2) (i :: (ids (P1.pgs D n) m (P.now.r k) ++ ids (P1.pgs D n) m e.kid)) E6 ((s9.keep S).trans (k4.trans (st3.1.trans ((s22.keep S).trans (k5.trans st6.1))))) ⟨?_, ?_, ?_, ?_, ?_, kvPut_ne _ _⟩ ?_ ?_
        · rw [er]; omega
        · rw [er]; exact g1
        · rw [er]; exact (g2.trans (eN.trans R.es)).symm
        · rw [er, ← iN]; exact g3.symm
        · exact List.nodup_cons.2 ⟨fun hi => ni i (iN ▸ hi) rfl, R.nd⟩
        · exact ((R.mv.trans ((Mv.alloc i2 i3 _).trans (Mv.write List.mem_cons_self _))).t k).trans (MvT.point k i _)
        · rw [List.length_cons]; omega
end Go.Proofs.YthbogjbcecmopaaGreatDoor
namespace Go.Proofs.YthbogjbcecmopaaGreatDoor
open Go.Gx
set_option maxRecDepth 100000
set_option linter.unusedVariables false
variable {n : Nat} {D : Dk} {P P' : Pg} {h : Hp} {K : Value → Hp → Prop} {pb jb db : Nat} {S : Nat → Prop} {tb k : Nat}
theorem keysS_sub {f t : ByteArray} {l l' : List En} (h : keysS f t l) (s : l'.Sublist l) : keysS f t l' := by
  obtain ⟨h1, h2⟩ := keysOk_iff.1 h.1
  exact ⟨keysOk_iff.2 ⟨fun e he => h1 e (s.subset he), List.Pairwise.sublist (s.map _) h2⟩, fun e he => h.2 e (s.subset he)⟩
structure JoinAt (n : Nat) (D : Dk) (P P' : Pg) (m : Nat) (t : ByteArray) (c : Cl) (e : En) (l2 : List En) : Prop where
  tr : TrS (P'.pgs D n) m c.2 c.1 (hdK t (l2.map clE))
  es : ents (P'.pgs D n) m c.2 = ents (P.pgs D n) m c.2 ++ ents (P.pgs D n) m e.kid
  nd : (ids (P'.pgs D n) m c.2).Nodup
  mv : Mv n D P P' (ids (P.pgs D n) m c.2 ++ ids (P.pgs D n) m e.kid) (ids (P'.pgs D n) m c.2)
  fr : P.freeN n ≤ P'.freeN n
theorem join_up {m : Nat} {lf : Bool} {fi : Nat} {l1 l2 : List En} {e : En} {f t : ByteArray} {K1 : List Cl} {c : Cl} (hcl : ∀ l, Nd.cl ⟨lf, fi, l1 ++ l⟩ f = K1 ++ c :: l.map clE) (h : Fw (P.pgs D n) (m + 1) ⟨lf, fi, l1 ++ e :: l2⟩ f t) (nN : (idsN (P.pgs D n) (m + 1) ⟨lf, fi, l1 ++ e :: l2⟩).Nodup) (R : JoinAt n D P P' m t c e l2) :
    Fw (P'.pgs D n) (m + 1) ⟨lf, fi, l1 ++ l2⟩ f t ∧ entsK (P'.pgs D n) m (Nd.cl ⟨lf, fi, l1 ++ l2⟩ f) = entsK (P.pgs D n) m K1 ++ (ents (P.pgs D n) m c.2 ++ ents (P.pgs D n) m e.kid) :: entsK (P.pgs D n) m (l2.map clE) ∧ (idsN (P'.pgs D n) (m + 1) ⟨lf, fi, l1 ++ l2⟩).Nodup ∧
      Mv n D P P' (idsN (P.pgs D n) (m + 1) ⟨lf, fi, l1 ++ e :: l2⟩) (idsN (P'.pgs D n) (m + 1) ⟨lf, fi, l1 ++ l2⟩) := by
  have hc := h.2.2
  have ec : Nd.cl ⟨lf, fi, l1 ++ e :: l2⟩ f = K1 ++ [c, clE e] ++ l2.map clE := by rw [hcl, List.append_assoc]; rfl
  have ec2 : Nd.cl ⟨lf, fi, l1 ++ l2⟩ f = K1 ++ [c] ++ l2.map clE := by rw [hcl, List.append_assoc]; rfl
  have nN' : (idsK (P.pgs D n) m (Nd.cl ⟨lf, fi, l1 ++ e :: l2⟩ f)).Nodup := nN
  rw [ec] at hc nN'
  have i2 : idsK (P.pgs D n) m [c, clE e] = ids (P.pgs D n) m c.2 ++ ids (P.pgs D n) m e.kid := by unfold idsK; simp [clE]
  have M := R.mv
  rw [← idsK_one (P'.pgs D n) m c, ← i2] at M
  obtain ⟨g1, g2, g3, g4, g5⟩ := ChS.repl (X' := [c]) hc nN' M ⟨R.tr, trivial⟩ rfl (by rw [idsK_one]; exact R.nd)
  have g4' : Mv n D P P' (idsK (P.pgs D n) m (Nd.cl ⟨lf, fi, l1 ++ e :: l2⟩ f)) (idsK (P'.pgs D n) m (Nd.cl ⟨lf, fi, l1 ++ l2⟩ f)) := by rw [ec, ec2]; exact g4
  rw [← ec2] at g1 g2 g3
  refine ⟨⟨h.1, keysS_sub h.2.1 (List.Sublist.append_left (List.sublist_cons_self _ _) _), g1⟩, ?_, g3, g4'⟩
  rw [g2, List.append_assoc]
  show _ ++ ([ents (P'.pgs D n) m c.2] ++ _) = _
  rw [R.es]; rfl
theorem kid_spec' {kk : Nat} {a : Option Addr} {c : Nat} {nd : Nd} (N : NdEx h kk a c nd) {j id : Nat} (hj : nd.kids[j + 1]? = some id) (hK : K (.int .i64 (id : Nat)) h) : CallsH Tryz.prog btree_node_kid.id #[.pointer (some ⟨kk, 0, none⟩), .int .i64 (j : Nat)] h K := by
  have e : ((j : Nat) : Int) = ((j + 1 : Nat) : Int) - 1 := by omega
  rw [e]
  exact kid_spec N hj hK
theorem join_out {kk : Nat} {a : Option Addr} {c : Nat} {nd : Nd} (N : NdEx h kk a c nd) (hl : nd.l.length < 65536) (i : Int) (hi : i < -1 ∨ (i + 1 ≥ nd.l.length ∧ i < 70000)) (hK : K (.bool false) h) : CallsH Tryz.prog btree_Tree_join.id #[.pointer (some ⟨tb, 0, none⟩), .pointer (some ⟨kk, 0, none⟩), .int .i64 i] h K := by
  apply btree_Tree_join.calls
  unfold btree_Tree_join.W
  refine split_dec (fun _ => hK) fun g => ⟨_, _, _, N.c2, ?_⟩
  rw [wid (by omega) (by omega)]
  refine split_dec (fun _ => hK) fun g2 => absurd ?_ g2
  show i + 1 ≥ ((nd.l.length : Nat) : Int)
  omega
def JoinJ (pb jb db : Nat) (S : Nat → Prop) (n : Nat) (D : Dk) (P : Pg) (m : Nat) (f t : ByteArray) (L : List KV) (I : List Nat) (h : Hp) (k' : Nat) (x : Hp) : Prop :=
  ∃ P1 nd1 a1 c1, PgAt x pb jb db S n D P1 ∧ Keep S h x ∧ NdEx x k' a1 c1 nd1 ∧ Fw (P1.pgs D n) m nd1 f t ∧ Fn (P1.pgs D n) m nd1 ∧ NdOk nd1 ∧ entsN (P1.pgs D n) m nd1 = L ∧ Mv n D P P1 I (idsN (P1.pgs D n) m nd1) ∧ (idsN (P1.pgs D n) m nd1).Nodup ∧ P.freeN n ≤ P1.freeN n
def midL (a : Nd) (s : ByteArray) (b : Nd) : List En := if a.leaf then a.l else a.l ++ [⟨s, eB, b.first⟩]
theorem midL_merge (a b : Nd) (s : ByteArray) : midL a s b ++ b.l = (mergeN a s b).l := by
  unfold midL mergeN
  cases a.leaf with
  | true => rfl
  | false => show (a.l ++ [_]) ++ b.l = a.l ++ _ :: b.l; rw [List.append_assoc]; rfl
set_option maxHeartbeats 8000000 in
theorem join_spec (nt : ¬ S tb) (m : Nat) : ∀ {h : Hp} {K : Value → Hp → Prop} {P : Pg} {kk : Nat} {a : Option Addr} {c : Nat} {lf : Bool} {fi : Nat} {l1 l2 : List En} {e : En} {f t : ByteArray} {K1 : List Cl} {cc : Cl}, PgAt h pb jb db S n D P → TrAt h tb pb k → NdVw h kk a c ⟨lf, fi, l1 ++ e :: l2⟩ → ¬ S kk → (∀ b, blkOf a b → ¬ S b) →
    NdOk ⟨lf, fi, l1 ++ e :: l2⟩ → Fw (P.pgs D n) (m + 1) ⟨lf, fi, l1 ++ e :: l2⟩ f t → (idsN (P.pgs D n) (m + 1) ⟨lf, fi, l1 ++ e :: l2⟩).Nodup → (∀ t, t < 4 → P.now.r t ∉ idsN (P.pgs D n) (m + 1) ⟨lf, fi, l1 ++ e :: l2⟩) →
    (∀ l, Nd.cl ⟨lf, fi, l1 ++ l⟩ f = K1 ++ cc :: l.map clE) → (∀ l, (Nd.kids ⟨lf, fi, l1 ++ l⟩)[l1.length]? = some cc.2) →
    (∀ h', Sub h h' → ¬ (ents (P.pgs D n) m cc.2 = [] ∧ ents (P.pgs D n) m e.kid = []) → K (.bool false) h') →
    (∀ h' P' a' c', PgAt h' pb jb db S n D P' → Keep (fun b => S b ∨ b = kk) h h' → NdVw h' kk a' c' ⟨lf, fi, l1 ++ l2⟩ → (∀ b, blkOf a' b → ¬ S b) → JoinAt n D P P' m t cc e l2 → K (.bool true) h') →
    CallsH Tryz.prog btree_Tree_join.id #[.pointer (some ⟨tb, 0, none⟩), .pointer (some ⟨kk, 0, none⟩), .int .i64 ((l1.length : Nat) - 1 : Int)] h K := by
  induction m using Nat.strongRecOn with
  | ind m ih =>
  intro h K P kk a c lf fi l1 l2 e f t K1 cc E T N nk na o W nN nr hcl hkid hF hT
  have hn := E.n2
  have hpk := pgs_ok E
  have ll := o.len
  have ll : 4 * (l1 ++ e :: l2).length ≤ 1024 := ll
  rw [List.length_append, List.length_cons] at ll
  have e1 : IntKind.i64.wrap (((l1.length : Nat) : Int) - 1 + 1) = ((l1.length : Nat) : Int) := by rw [wid (by omega) (by omega)]; omega
  have e2 : IntKind.i64.wrap (((l1.length : Nat) : Int) - 1 + 2) = ((l1.length + 1 : Nat) : Int) := by rw [wid (by omega) (by omega)]; omega
  have hk1 : (Nd.kids ⟨lf, fi, l1 ++ e :: l2⟩)[l1.length + 1]? = some e.kid := by
    unfold Nd.kids
    show (fi :: List.map En.kid (l1 ++ e :: l2))[l1.length + 1]? = _
    rw [List.getElem?_cons_succ, List.map_append, List.getElem?_append_right (by rw [List.length_map]; exact Nat.le_refl _), List.length_map, Nat.sub_self]; rfl
  -- the two pages
  have hch := W.2.2
  have hks := W.2.1
  have hK1 := hcl (e :: l2)
  rw [hK1] at hch
  obtain ⟨_, q1, q2, _⟩ := ChP_append.1 hch
  have q1 : TrS (P.pgs D n) m cc.2 cc.1 e.key := q1
  have q2 : TrS (P.pgs D n) m e.kid e.key (hdK t (l2.map clE)) := q2
  obtain ⟨a0, pa, Wa, Fa⟩ := TrS_iff.1 q1
  obtain ⟨b0, pb0, Wb, Fb⟩ := TrS_iff.1 q2
  have oa := hpk _ a0 pa
  have ob := hpk _ b0 pb0
  have hlf : a0.leaf = b0.leaf := by
    cases m with
    | zero => rw [Wa.1, Wb.1]
    | succ m => rw [Wa.1, Wb.1]
  have he : EnOk lf e := o.en e (List.mem_append_right _ List.mem_cons_self)
  have hs64 := may_key64 he.1
  have cs : blt cc.1 e.key = true := by
    have hsl := cl_sorted (lf := lf) (fi := fi) hks
    rw [show Nd.cl ⟨lf, fi, Nd.l ⟨lf, fi, l1 ++ e :: l2⟩⟩ f = Nd.cl ⟨lf, fi, l1 ++ e :: l2⟩ f from rfl, hK1] at hsl
    exact (List.pairwise_cons.1 (List.pairwise_append.1 hsl).2.1).1 (clE e) List.mem_cons_self
  have ht2 : below (hdK t (l2.map clE)) e.key := by
    cases l2 with
    | nil => exact ((keysOk_iff.1 hks.1).1 e (List.mem_append_right _ List.mem_cons_self)).2
    | cons x l2 =>
      intro _
      have := (keysOk_iff.1 hks.1).2
      rw [show (Nd.l ⟨lf, fi, l1 ++ e :: x :: l2⟩) = l1 ++ e :: x :: l2 from rfl, List.map_append, List.map_cons, List.map_cons] at this
      exact (List.pairwise_cons.1 (List.pairwise_append.1 this).2.1).1 x.kv List.mem_cons_self
  obtain ⟨Wm, em, im⟩ := Wa.merge Wb cs ht2
  have om := mergeN_ens (s := e.key) oa.ens ob.ens hlf (may_eB he.1)
  have sm := mergeN_size (s := e.key) hlf
  have sa := oa.size
  have sb := ob.size
  have sb2 : eszs a0.leaf b0.l ≤ 1024 := by rw [hlf]; unfold Nd.size at sb; omega
  have la := oa.len
  have lb := ob.len
  have ldm : (mergeN a0 e.key b0).l.length ≤ 600 := by
    rw [← midL_merge, List.length_append]
    unfold midL
    split
    · omega
    · rw [List.length_append]; show a0.l.length + 1 + b0.l.length ≤ 600; omega
  have iN : idsN (P.pgs D n) (m + 1) ⟨lf, fi, l1 ++ e :: l2⟩ = idsK (P.pgs D n) m K1 ++ (ids (P.pgs D n) m cc.2 ++ ids (P.pgs D n) m e.kid) ++ idsK (P.pgs D n) m (l2.map clE) := by
    show idsK (P.pgs D n) m (Nd.cl ⟨lf, fi, l1 ++ e :: l2⟩ f) = _
    rw [hK1, show K1 ++ cc :: (e :: l2).map clE = K1 ++ [cc, clE e] ++ l2.map clE by rw [List.append_assoc]; rfl, idsK_append, idsK_append]
    congr 2
    unfold idsK; simp [clE]
  have nI : (ids (P.pgs D n) m cc.2 ++ ids (P.pgs D n) m e.kid).Nodup := by
    rw [iN] at nN
    exact (nodup3.1 nN).1
  have subI : ∀ i ∈ ids (P.pgs D n) m cc.2 ++ ids (P.pgs D n) m e.kid, i ∈ idsN (P.pgs D n) (m + 1) ⟨lf, fi, l1 ++ e :: l2⟩ := fun i hi => by
    rw [iN]; exact List.mem_append_left _ (List.mem_append_right _ hi)
  have subN : ∀ i ∈ idsN (P.pgs D n) m a0 ++ idsN (P.pgs D n) m b0, i ∈ ids (P.pgs D n) m cc.2 ++ ids (P.pgs D n) m e.kid := fun i hi => by
    rw [ids_N pa, ids_N pb0]
    rcases List.mem_append.1 hi with hi | hi
    · exact List.mem_append_left _ (List.mem_cons_of_mem _ hi)
    · exact List.mem_append_right _ (List.mem_cons_of_mem _ hi)
  have nNm : (idsN (P.pgs D n) m a0 ++ idsN (P.pgs D n) m b0).Nodup := by
    have := nI
    rw [ids_N pa, ids_N pb0] at this
    refine this.sublist (List.Sublist.append (List.sublist_cons_self _ _) (List.sublist_cons_self _ _))
  -- the walk
  apply btree_Tree_join.calls
  unfold btree_Tree_join.W
  refine split_dec (fun e => by omega) fun _ => ⟨_, _, _, N.ex.c2, ?_⟩
  rw [e1, e2]
  have hlen : (Nd.l ⟨lf, fi, l1 ++ e :: l2⟩).length = l1.length + (l2.length + 1) := by show (l1 ++ e :: l2).length = _; rw [List.length_append, List.length_cons]
  refine split_dec (fun g => ?_) fun _ => ?_
  · have g : ((l1.length : Nat) : Int) ≥ (((Nd.l ⟨lf, fi, l1 ++ e :: l2⟩).length : Nat) : Int) := g
    omega
  refine kid_spec N.ex (hkid (e :: l2)) ⟨_, rfl, load_spec E T _ (fun e => by rw [show P.pgs D n cc.2 = none from e] at pa; cases pa) fun a0' ea h8 ka NA_ => ⟨_, _, rfl, ?_⟩⟩
  have ea' : a0' = a0 := Option.some.inj ((show P.pgs D n cc.2 = some a0' from ea).symm.trans pa)
  subst ea'
  have N8 := N.sub NA_.sub
  have T8 : TrAt h8 tb pb k := Blk.sub T NA_.sub
  refine kid_spec' N8.ex hk1 ⟨_, rfl, load_spec (E.sub NA_.sub) T8 _ (fun e => by rw [show P.pgs D n _ = none from e] at pb0; cases pb0) fun b0' eb h15 kb NB => ⟨_, _, rfl, split_ne (fun e => absurd rfl e) fun _ => split_ne (fun e => absurd rfl e) fun _ => ?_⟩⟩
  have eb' : b0' = b0 := Option.some.inj ((show P.pgs D n _ = some b0' from eb).symm.trans pb0)
  subst eb'
  obtain ⟨aa, ca, Nao, fra⟩ := NA_.ow
  obtain ⟨ab, cb, Nbo, frb⟩ := NB.ow
  have Na := (Nao.sub NB.sub).vw
  have Nb := Nbo.ex
  have s15 := NA_.sub.trans NB.sub
  have kan : h ka = none := NA_.k0
  have kbka : kb ≠ ka := fun e => by have := NB.k0; have h2 := Nao.ex.blk; unfold Blk at h2; rw [e, h2] at this; cases this
  have abka : ∀ b, blkOf ab b → b ≠ ka := fun b hb e => by have := frb b hb; have h2 := Nao.ex.blk; unfold Blk at h2; rw [e, h2] at this; cases this
  refine ⟨ka, 0, rfl, _, _, _, Na.ex.c2, fun x => Sub h x ∧ NdEx x kb ab cb b0' ∧ ∃ a1 c1, NdVw x ka a1 c1 ⟨a0'.leaf, a0'.first, midL a0' e.key b0'⟩ ∧ ∀ b, blkOf a1 b → h b = none, ?_, ka, 0, rfl, _, Na.ex.c0, ?_⟩
  rotate_left
  · -- the key between them
    have kd : ((a0'.kind : Nat) : Int) = if a0'.leaf = true then 1 else 2 := by unfold Nd.kind; split <;> rfl
    rw [kd]
    cases hl : a0'.leaf with
    | true =>
      have em : midL a0' e.key b0' = a0'.l := by unfold midL; rw [hl]; rfl
      refine split_eq (fun e => by cases e) fun _ => ⟨s15, Nb, aa, ca, by rw [em, ← hl]; exact Na, fra⟩
    | false =>
      have em : midL a0' e.key b0' = a0'.l ++ [⟨e.key, eB, b0'.first⟩] := by unfold midL; rw [hl]; rfl
      have N15 := N.sub s15
      obtain ⟨b, of, ean, g0, g1, g2⟩ := N15.ex.get (i := l1.length) (e := e) (by show (l1 ++ e :: l2)[l1.length]? = _; rw [List.getElem?_append_right (Nat.le_refl _), Nat.sub_self]; rfl)
      refine split_eq (fun _ => ⟨ka, 0, rfl, _, _, _, Na.ex.c2, _, _, _, N15.ex.c2, by omega, by show ((l1.length : Nat) : Int) < (((Nd.l ⟨lf, fi, l1 ++ e :: l2⟩).length : Nat) : Int); omega, b, of, ean, _, by rw [Int.toNat_natCast]; exact g0, kb, 0, rfl, _, Nb.c1, ?_⟩) fun e => absurd rfl e
      refine nput_spec Na ⟨e.key, eB, b0'.first⟩ (i := a0'.l.length) (Nat.le_refl _) (by omega) fun h5 a5 c5 N5 k5 nb5 => ⟨rfl, k5.sub s15 fun c e => by rw [e]; exact kan, Nb.out k5 kbka abka, a5, c5, ?_, fun b hb => s15.none (nb5 b hb)⟩
      rw [List.take_length, List.drop_length] at N5
      rw [em]; rw [hl] at N5; exact N5
  rintro x ⟨sx, Nbx, a1, c1, N1, n1⟩
  have lm : (midL a0' e.key b0').length + b0'.l.length ≤ 600 := by rw [← List.length_append, midL_merge]; exact ldm
  refine ⟨ka, 0, rfl, _, _, _, N1.ex.c2, ka, 0, rfl, _, _, _, N1.ex.c2, ka, 0, rfl, _, _, _, N1.ex.c2, Int.natCast_nonneg _, ?_, Int.natCast_nonneg _, Int.le_refl _, kb, 0, rfl, _, _, _, Nbx.c2, _, Nbx.row, fun a' c' x' => Sub x x' ∧ VwR enC 3 x' 100 a' c' (midL a0' e.key b0' ++ b0'.l) ∧ ∀ b, blkOf a' b → blkOf a1 b ∨ x b = none, ?_, ?_⟩
  · have := N1.vw.le
    exact Int.ofNat_le.2 this
  rotate_left
  · show appendC Tryz.prog 100 (slA (midL a0' e.key b0').length 0 3 a1) (midL a0' e.key b0').length (midL a0' e.key b0').length x (rowC enC b0'.l) b0'.l.length _
    rw [slA_zero]
    refine append_cap appTEn enC_len enC_plain (L := midL a0' e.key b0') N1.vw (Nat.le_refl _) rfl rfl (by omega) fun a' c' h' s V nb _ => ⟨s, ?_, nb⟩
    rw [List.take_length] at V; exact V
  rintro a' c' x' ⟨sx', V', nb'⟩
  obtain ⟨g1, g2, g3⟩ := N1.set (n := (midL a0' e.key b0').length + b0'.l.length) sx' V' (by rw [List.length_append]) nb'
  rw [midL_merge] at g2
  refine ⟨ka, 0, rfl, g1, ?_⟩
  show CallsH _ _ _ (x'.put ka 2 [.slice a' ((midL a0' e.key b0').length + b0'.l.length) c']) _
  have sy : Sub h (x'.put ka 2 [.slice a' ((midL a0' e.key b0').length + b0'.l.length) c']) := g3.sub sx fun c e => by rw [e]; exact kan
  generalize x'.put ka 2 [.slice a' ((midL a0' e.key b0').length + b0'.l.length) c'] = y at g2 g3 sy ⊢
  have g2 : NdVw y ka a' c' (mergeN a0' e.key b0') := g2
  have ny : ∀ b, blkOf a' b → h b = none := fun b hb => (nb' b hb).elim (n1 b) fun h => sx.none h
  have smb : (mergeN a0' e.key b0').size ≤ 3000 := by rw [sm]; split <;> omega
  refine nsize_spec g2.ex (by omega) (by omega) ⟨_, rfl, split_dec (fun g => hF y sy fun hb => ?_) fun g => ?_⟩
  · have g : (((mergeN a0' e.key b0').size : Nat) : Int) > 1024 := g
    have hb1 := hb.1
    have hb2 := hb.2
    rw [ents_N pa] at hb1
    rw [ents_N pb0] at hb2
    have := merge_fits Wa Fa Wb Fb hlf hs64.1 hb1 hb2
    omega
  have g : ¬ (((mergeN a0' e.key b0').size : Nat) : Int) > 1024 := g
  have omk : NdOk (mergeN a0' e.key b0') := om.ok (by omega)
  refine ⟨JoinJ pb jb db S n D P m cc.1 (hdK t (l2.map clE)) (entsN (P.pgs D n) m a0' ++ entsN (P.pgs D n) m b0') (idsN (P.pgs D n) m a0' ++ idsN (P.pgs D n) m b0') h ka, ?_, ka, 0, rfl, _, g2.ex.c0, ?_⟩
  · rintro z ⟨P1, nd1, a2, c2, E1, kp1, Nz, W1, F1, o1, he1, M1, nN1, fr1⟩
    obtain ⟨wc, we, g4, g5, g6, g7, g8⟩ := join_law pa pb0 nI Wa Wb W1 F1 o1 he1 M1 nN1 fr1 rfl
    have T1 : TrAt z tb pb k := Blk.keep T kp1 nt
    have Nn := N.keep kp1 nk na
    refine kid_spec Nn.ex (hkid (e :: l2)) ⟨_, rfl, store_spec E1 T1 Nz o1 wc fun h3 E3 k3 => ⟨rfl, _, (Blk.keep T1 k3 nt : TrAt h3 tb pb k).cell' 0 rfl, ?_⟩⟩
    have N3 := Nn.keep k3 nk na
    refine kid_spec' N3.ex hk1 ⟨_, rfl, Sub.refl _, give_spec E3 _ (fun e => absurd we e) (fun k' ek _ ⟨t', ht', er⟩ => ?_) fun k' ek _ _ h67 E67 st67 => ⟨_, rfl, ?_⟩⟩
    · have er : P1.now.r t' = k' := er
      rw [M1.roots] at er
      refine absurd (subI e.kid (List.mem_append_right _ ids_self)) ?_
      have : e.kid = P.now.r t' := by omega
      rw [this]; exact nr t' ht'
    · have ek : e.kid = k' := by omega
      subst ek
      have N67 := N3.keep st67.1 nk na
      rw [Int.toNat_natCast, Int.toNat_natCast]
      have rs := N67.rest (q := l1.length + 1) (by omega) (Sub.refl _)
      have edr : (Nd.l ⟨lf, fi, l1 ++ e :: l2⟩).drop (l1.length + 1) = l2 := by
        show (l1 ++ e :: l2).drop (l1.length + 1) = l2
        rw [List.drop_length_add_append]; rfl
      have etk : (Nd.l ⟨lf, fi, l1 ++ e :: l2⟩).take l1.length = l1 := List.take_left
      rw [edr] at rs
      have hl2 : (Nd.l ⟨lf, fi, l1 ++ e :: l2⟩).length - (l1.length + 1) = l2.length := by omega
      have le67 := N67.vw.le
      refine ⟨_, _, _, N67.ex.c2, by omega, by show ((l1.length : Nat) : Int) ≤ ((c : Nat) : Int); omega, by omega, Int.le_refl _, _, _, _, N67.ex.c2, by omega, by show ((l1.length + 1 : Nat) : Int) ≤ (((Nd.l ⟨lf, fi, l1 ++ e :: l2⟩).length : Nat) : Int); omega, rowC enC l2, by rw [hl2]; exact rs, fun a' c' x' => Sub h67 x' ∧ VwR enC 3 x' 100 a' c' (l1 ++ l2) ∧ ∀ b, blkOf a' b → blkOf a b ∨ h67 b = none, ?_, ?_⟩
      · rintro a9 c9 x9 ⟨s9, V9, nb9⟩
        rw [hl2]
        obtain ⟨r1, r2, r3⟩ := N67.set (n := l1.length + l2.length) s9 V9 (by rw [List.length_append]) nb9
        refine ⟨r1, hT _ _ a9 c9 (E67.out r3 fun c hc e => nk (e ▸ hc)) ?_ r2 (fun b hb => (nb9 b hb).elim (na b) fun h => S_out E67 h) ⟨g4, g5, g6, g7, g8⟩⟩
        exact ((kp1.trans (k3.trans st67.1)).mono fun c hc => .inl hc).trans (r3.mono fun c hc => .inr hc)
      · rw [slA_zero, hl2]
        refine append_cap appTEn enC_len enC_plain (i := l1.length) (L := Nd.l ⟨lf, fi, l1 ++ e :: l2⟩) N67.vw (by omega) rfl rfl (by omega) fun a' c' h' s V nb _ => ⟨s, ?_, nb⟩
        rw [etk] at V; exact V
  · have nka : ¬ S ka := S_out E kan
    have kd : (((mergeN a0' e.key b0').kind : Nat) : Int) = if a0'.leaf = true then 1 else 2 := by unfold Nd.kind; show ((if a0'.leaf = true then 1 else 2 : Nat) : Int) = _; split <;> rfl
    rw [kd]
    have Ey := E.sub sy
    have Ty : TrAt y tb pb k := Blk.sub T sy
    cases m with
    | zero =>
      have hl : a0'.leaf = true := Wa.1
      rw [if_pos hl]
      exact split_eq (fun e => by cases e) fun _ => ⟨P, _, a', c', Ey, sy.keep S, g2.ex, Wm, trivial, omk, em, Mv.refl _ _ _ _, List.nodup_nil, Nat.le_refl _⟩
    | succ m =>
      have hl : a0'.leaf = false := Wa.1
      rw [if_neg (by rw [hl]; decide)]
      have ei : IntKind.i64.wrap (Int.ofNat a0'.l.length - 1) = ((a0'.l.length : Nat) : Int) - 1 := by
        show IntKind.i64.wrap (((a0'.l.length : Nat) : Int) - 1) = _
        rw [wid (by omega) (by omega)]
      rw [ei]
      have eq : mergeN a0' e.key b0' = ⟨false, a0'.first, a0'.l ++ ⟨e.key, eB, b0'.first⟩ :: b0'.l⟩ := by
        unfold mergeN
        rw [hl]; rfl
      rw [eq] at g2 omk Wm em im
      obtain ⟨K2, c2, k1, k2, k3, k4⟩ := cl_split false a0'.first a0'.l cc.1
      have ea1 : entsK (P.pgs D n) m (a0'.cl cc.1) = entsK (P.pgs D n) m K2 ++ [ents (P.pgs D n) m c2.2] := by
        have := k1 []
        rw [List.append_nil] at this
        rw [show a0'.cl cc.1 = Nd.cl ⟨false, a0'.first, a0'.l⟩ cc.1 from rfl, this, entsK_append]; rfl
      have eb1 : entsK (P.pgs D n) m (b0'.cl e.key) = ents (P.pgs D n) m b0'.first :: entsK (P.pgs D n) m (b0'.l.map clE) := rfl
      have na1 : NA (entsK (P.pgs D n) m K2 ++ [ents (P.pgs D n) m c2.2]) := by rw [← ea1]; exact Fa
      have nb1 : NA (ents (P.pgs D n) m b0'.first :: entsK (P.pgs D n) m (b0'.l.map clE)) := by rw [← eb1]; exact Fb
      refine split_eq (fun _ => ih m (by omega) Ey Ty g2 nka (fun b hb => S_out E (ny b hb)) omk Wm (by rw [im]; exact nNm) (fun t' ht' => by rw [im]; exact fun h => nr t' ht' (subI _ (subN _ h))) k1 k3 (fun h84 s84 hne => ⟨_, rfl, ?_⟩) fun h84 P1 a9 c9 E84 kp84 N84 nb84 R => ⟨_, rfl, ?_⟩) fun e => absurd rfl e
      · refine ⟨P, _, a', c', Ey.sub s84, (sy.trans s84).keep S, g2.ex.sub s84, Wm, ?_, omk, em, by rw [im]; exact Mv.refl _ _ _ _, by rw [im]; exact nNm, Nat.le_refl _⟩
        show NA (entsK (P.pgs D n) m (Nd.cl ⟨false, a0'.first, a0'.l ++ ⟨e.key, eB, b0'.first⟩ :: b0'.l⟩ cc.1))
        rw [k1, entsK_append]
        exact NA_cat na1 nb1 hne
      · obtain ⟨r1, r2, r3, r4⟩ := join_up k1 Wm (by rw [im]; exact nNm) R
        rw [im] at r4
        refine ⟨P1, _, a9, c9, E84, (fun c o hc hs => kp84 c o (sy c o hc) fun h' => h'.elim hs fun e => by rw [e, kan] at hc; cases hc), N84.ex, r1, ?_, ⟨fun e' he' => ?_, omk.first, ?_, omk.z⟩, ?_, r4, r3, R.fr⟩
        · show NA (entsK (P1.pgs D n) m (Nd.cl ⟨false, a0'.first, a0'.l ++ b0'.l⟩ cc.1))
          rw [r2]
          exact NA_join na1 nb1
        · refine omk.en e' ?_
          rcases List.mem_append.1 he' with h' | h'
          · exact List.mem_append_left _ h'
          · exact List.mem_append_right _ (List.mem_cons_of_mem _ h')
        · have := omk.size
          unfold Nd.size at this ⊢
          have h1 : Nd.base false + eszs false (a0'.l ++ ⟨e.key, eB, b0'.first⟩ :: b0'.l) ≤ 1024 := this
          show Nd.base false + eszs false (a0'.l ++ b0'.l) ≤ 1024
          rw [eszs_append, eszs_cons] at h1
          rw [eszs_append]
          omega
        · show (entsK (P1.pgs D n) m (Nd.cl ⟨false, a0'.first, a0'.l ++ b0'.l⟩ cc.1)).flatten = _
          have ea2 : entsN (P.pgs D n) (m + 1) a0' = (entsK (P.pgs D n) m K2).flatten ++ ents (P.pgs D n) m c2.2 := by
            show (entsK (P.pgs D n) m (a0'.cl cc.1)).flatten = _
            rw [ea1, List.flatten_append]; simp
          have eb2 : entsN (P.pgs D n) (m + 1) b0' = ents (P.pgs D n) m b0'.first ++ (entsK (P.pgs D n) m (b0'.l.map clE)).flatten := by
            show (entsK (P.pgs D n) m (b0'.cl e.key)).flatten = _
            rw [eb1]; rfl
          rw [r2, ea2, eb2, List.flatten_append, List.flatten_cons]
          simp only [List.append_assoc]
end Go.Proofs.YthbogjbcecmopaaGreatDoor
namespace Go.Proofs.YthbogjbcecmopaaGreatDoor
open Go.Gx
set_option maxRecDepth 100000
set_option linter.unusedVariables false
variable {n : Nat} {D : Dk} {P P' : Pg} {h : Hp} {K : Value → Hp → Prop} {pb jb db : Nat} {S : Nat → Prop} {tb k : Nat}
theorem eszs_sub {lf : Bool} {l l' : List En} (s : l'.Sublist l) : eszs lf l' ≤ eszs lf l := by
  induction s with
  | slnil => exact Nat.le_refl _
  | cons a s ih => rw [eszs_cons]; omega
  | cons_cons a s ih => rw [eszs_cons, eszs_cons]; omega
theorem NdOk.sub {lf : Bool} {fi : Nat} {l l' : List En} (o : NdOk ⟨lf, fi, l⟩) (s : l'.Sublist l) : NdOk ⟨lf, fi, l'⟩ := by
  refine ⟨fun e he => o.en e (s.subset he), o.first, ?_, o.z⟩
  have h1 := o.size
  have h2 := eszs_sub (lf := lf) s
  unfold Nd.size at h1 ⊢
  have h1 : Nd.base lf + eszs lf l ≤ 1024 := h1
  show Nd.base lf + eszs lf l' ≤ 1024
  omega
structure DrpN (n : Nat) (D : Dk) (P P' : Pg) (m id : Nat) (f t : ByteArray) (L : List KV) (I : List Nat) : Prop where
  tr : TrS (P'.pgs D n) m id f t
  es : ents (P'.pgs D n) m id = L
  nd : (ids (P'.pgs D n) m id).Nodup
  mv : Mv n D P P' I (ids (P'.pgs D n) m id)
  fr : P.freeN n ≤ P'.freeN n
def RmJ (pb jb db : Nat) (S : Nat → Prop) (n : Nat) (D : Dk) (P : Pg) (m : Nat) (lf : Bool) (fi : Nat) (f t : ByteArray) (l1 l2 : List En) (X : List (List KV)) (R : List KV) (I : List Nat) (h : Hp) (k' : Nat) (b : Bool) (x : Hp) : Prop :=
  ∃ P2 a2 c2 l3 z Y, PgAt x pb jb db S n D P2 ∧ Keep S h x ∧ NdVw x k' a2 c2 ⟨lf, fi, l1 ++ l3⟩ ∧ (∀ b, blkOf a2 b → ¬ S b) ∧ l3.Sublist l2 ∧ Fw (P2.pgs D n) (m + 1) ⟨lf, fi, l1 ++ l3⟩ f t ∧ (idsN (P2.pgs D n) (m + 1) ⟨lf, fi, l1 ++ l3⟩).Nodup ∧ entsK (P2.pgs D n) m (Nd.cl ⟨lf, fi, l1 ++ l3⟩ f) = X ++ z :: Y ∧ NA (z :: Y) ∧ (z :: Y).flatten = R ∧
    Mv n D P P2 I (idsN (P2.pgs D n) (m + 1) ⟨lf, fi, l1 ++ l3⟩) ∧ P.freeN n ≤ P2.freeN n ∧ (b = false → l3 = l2)
def RmF (pb jb db : Nat) (S : Nat → Prop) (n : Nat) (D : Dk) (P : Pg) (m : Nat) (nd : Nd) (f t : ByteArray) (L : List KV) (I : List Nat) (h : Hp) (k' : Nat) (b : Bool) (x : Hp) : Prop :=
  ∃ P3 a3 c3 nd3, PgAt x pb jb db S n D P3 ∧ Keep S h x ∧ NdEx x k' a3 c3 nd3 ∧ NdOk nd3 ∧ Fw (P3.pgs D n) (m + 1) nd3 f t ∧ Fn (P3.pgs D n) (m + 1) nd3 ∧ (idsN (P3.pgs D n) (m + 1) nd3).Nodup ∧ entsN (P3.pgs D n) (m + 1) nd3 = L ∧ Mv n D P P3 I (idsN (P3.pgs D n) (m + 1) nd3) ∧ P.freeN n ≤ P3.freeN n ∧ (b = false → nd3 = nd)
set_option maxHeartbeats 4000000 in
theorem before_spec (nt : ¬ S tb) {m : Nat} {lf : Bool} {fi : Nat} {f t : ByteArray} {l1 l2 : List En} {X : List (List KV)} {R : List KV} {I : List Nat} {k' : Nat} {b : Bool} {x : Hp} (hl1 : l1.length < 65536) (T : TrAt h tb pb k) (k0 : h k' = none) (nk : ¬ S k') (ok : NdOk ⟨lf, fi, l1 ++ l2⟩) (EP : POk n P) (nr : ∀ t, t < 4 → P.now.r t ∉ I) (hX : NA X) (lX : X.length = l1.length) (J : RmJ pb jb db S n D P m lf fi f t l1 l2 X R I h k' b x)
    (hK : ∀ b' y, RmF pb jb db S n D P m ⟨lf, fi, l1 ++ l2⟩ f t (X.flatten ++ R) I h k' (b || b') y → K (.bool b') y) : CallsH Tryz.prog btree_Tree_join.id #[.pointer (some ⟨tb, 0, none⟩), .pointer (some ⟨k', 0, none⟩), .int .i64 ((l1.length : Nat) - 2 : Int)] x K := by
  obtain ⟨P2, a2, c2, l3, z, Y, E2, kp2, N2, n2, sl, W2, nN2, e2, hz, hR, M2, fr2, hb⟩ := J
  have ok3 : NdOk ⟨lf, fi, l1 ++ l3⟩ := ok.sub (List.Sublist.append_left sl _)
  have ll := ok3.len
  have ll : 4 * (l1 ++ l3).length ≤ 1024 := ll
  rw [List.length_append] at ll
  have fin : NA (X ++ z :: Y) → ∀ {y : Hp}, Sub x y → RmF pb jb db S n D P m ⟨lf, fi, l1 ++ l2⟩ f t (X.flatten ++ R) I h k' (b || false) y := fun hn y sy => by
    refine ⟨P2, a2, c2, _, E2.sub sy, kp2.trans (sy.keep S), N2.ex.sub sy, ok3, W2, ?_, nN2, ?_, M2, fr2, fun e => ?_⟩
    · show NA (entsK (P2.pgs D n) m (Nd.cl ⟨lf, fi, l1 ++ l3⟩ f))
      rw [e2]; exact hn
    · show (entsK (P2.pgs D n) m (Nd.cl ⟨lf, fi, l1 ++ l3⟩ f)).flatten = _
      rw [e2, List.flatten_append, hR]
    · rw [Bool.or_false] at e
      rw [hb e]
  rcases List.eq_nil_or_concat l1 with rfl | ⟨l0, e0, rfl⟩
  · have : X = [] := List.length_eq_zero_iff.1 lX
    subst this
    exact join_out N2.ex (by show l3.length < _; have : ([] : List En).length = 0 := rfl; omega) _ (.inl (by decide)) (hK false x (fin hz (Sub.refl x)))
  · rw [List.concat_eq_append] at *
    obtain ⟨K0, c0, q1, q2, q3, q4⟩ := cl_split lf fi l0 f
    have es : ∀ l, l0 ++ [e0] ++ l = l0 ++ e0 :: l := fun l => by rw [List.append_assoc]; rfl
    have hln : (l0 ++ [e0]).length = l0.length + 1 := by rw [List.length_append]; rfl
    have ei : (((l0 ++ [e0]).length : Nat) : Int) - 2 = ((l0.length : Nat) : Int) - 1 := by rw [hln]; omega
    rw [ei]
    have nr2 := M2.nonroot EP nr
    rw [es] at N2 ok3 W2 nN2 e2 M2 nr2
    -- the parts of the cells
    have e3 : entsK (P2.pgs D n) m (K0 ++ [c0]) ++ ents (P2.pgs D n) m e0.kid :: entsK (P2.pgs D n) m (l3.map clE) = X ++ z :: Y := by
      rw [← e2, q1, entsK_append, entsK_append, List.append_assoc]; rfl
    obtain ⟨x1, x2⟩ := List.append_inj e3 (by unfold entsK; rw [List.length_map, List.length_append, q2, lX, hln]; rfl)
    obtain ⟨x3, x4⟩ := List.cons.inj x2
    rw [entsK_append] at x1
    have x1 : entsK (P2.pgs D n) m K0 ++ [ents (P2.pgs D n) m c0.2] = X := x1
    rw [← x1] at hX
    refine join_spec nt m E2 (Blk.keep T kp2 nt) N2 nk n2 ok3 W2 nN2 nr2 q1 q3 (fun y sy hne => hK false y ?_) fun y P3 a3 c3 E3 kp3 N3 nb3 R3 => hK true y ?_
    · refine fin ?_ sy
      rw [← x1, List.append_assoc]
      exact NA_cat hX hz (by rw [← x3]; exact hne)
    · obtain ⟨r1, r2, r3, r4⟩ := join_up q1 W2 nN2 R3
      rw [x3, x4] at r2
      refine ⟨P3, a3, c3, _, E3, (fun c o hc hs => kp3 c o (kp2 c o hc hs) fun h' => h'.elim hs fun e => by rw [e, k0] at hc; cases hc), N3.ex, ok3.sub (List.Sublist.append_left (List.sublist_cons_self _ _) _), r1, ?_, r3, ?_, M2.trans r4, Nat.le_trans fr2 R3.fr, fun e => by rw [Bool.or_true] at e; cases e⟩
      · show NA (entsK (P3.pgs D n) m (Nd.cl ⟨lf, fi, l0 ++ l3⟩ f))
        rw [r2]
        exact NA_join hX hz
      · show (entsK (P3.pgs D n) m (Nd.cl ⟨lf, fi, l0 ++ l3⟩ f)).flatten = _
        rw [r2, ← x1, ← hR]
        simp only [List.flatten_append, List.flatten_cons, List.flatten_nil, List.append_assoc, List.append_nil]
set_option maxHeartbeats 8000000 in
theorem remove_spec (nt : ¬ S tb) {key : ByteArray} (m : Nat) : ∀ {h : Hp} {K : Value → Hp → Prop} {P : Pg} {id : Nat} {f t : ByteArray}, PgAt h pb jb db S n D P → TrAt h tb pb k → TrS (P.pgs D n) m id f t → (ids (P.pgs D n) m id).Nodup → blt key f = false → below t key → (∀ i ∈ ids (P.pgs D n) m id, i ≠ id → ∀ t, t < 4 → P.now.r t ≠ i) →
    (∀ h', Sub h h' → kvIs key (ents (P.pgs D n) m id) = false → K (.bool false) h') →
    (∀ h' P', PgAt h' pb jb db S n D P' → Keep S h h' → kvIs key (ents (P.pgs D n) m id) = true → DrpN n D P P' m id f t (kvDrop key (ents (P.pgs D n) m id)) (ids (P.pgs D n) m id) → K (.bool true) h') →
    CallsH Tryz.prog btree_Tree_remove.id #[.pointer (some ⟨tb, 0, none⟩), .int .i64 (id : Nat), .string key] h K := by
  induction m using Nat.strongRecOn with
  | ind m ih =>
  intro h K P id f t E T TT nI hf ht nr hF hT
  have hn := E.n2
  have hpk := pgs_ok E
  obtain ⟨nd, pn, W, F⟩ := TrS_iff.1 TT
  have ok := hpk id nd pn
  have ll := ok.len
  have hw : P.why n (id : Nat) = 0 := pgs_why (by rw [pn]; rfl)
  rw [ids_N pn] at nI hT nr
  rw [ents_N pn] at hF hT
  obtain ⟨hid, nN⟩ := List.nodup_cons.1 nI
  have nr' : ∀ t, t < 4 → P.now.r t ∉ idsN (P.pgs D n) m nd := fun t ht hi => nr _ (List.mem_cons_of_mem _ hi) (fun e => hid (e ▸ hi)) t ht rfl
  apply btree_Tree_remove.calls
  unfold btree_Tree_remove.W
  refine load_spec E T _ (fun e => by rw [show P.pgs D n id = none from e] at pn; cases pn) fun nd' e h2 k' N2 => ?_
  have e : nd' = nd := Option.some.inj ((show P.pgs D n id = some nd' from e).symm.trans pn)
  subst e
  refine ⟨_, _, rfl, split_ne (fun e => absurd rfl e) fun _ => ?_⟩
  obtain ⟨a, c, No, fra⟩ := N2.ow
  have k0 := N2.k0
  have s2 := N2.sub
  have nk : ¬ S k' := S_out E k0
  have na : ∀ b, blkOf a b → ¬ S b := fun b hb => S_out E (fra b hb)
  have srt : kvSorted nd'.kv := by
    cases m with
    | zero => exact (keysOk_iff.1 W.2).2
    | succ m => exact (keysOk_iff.1 W.2.1.1).2
  have kd : ((nd'.kind : Nat) : Int) = if nd'.leaf = true then 1 else 2 := by unfold Nd.kind; split <;> rfl
  refine ⟨k', 0, rfl, _, No.ex.c0, ?_⟩
  rw [kd]
  cases m with
  | zero =>
    have hlf : nd'.leaf = true := W.1
    rw [if_pos hlf]
    refine split_eq (fun _ => place_spec No.ex srt (by omega) key fun h3 s3 => ⟨_, rfl, ?_⟩) fun e => absurd rfl e
    have s23 := s2.trans s3
    have N3 := No.vw.sub s3
    have hat := kvAt_le key nd'.kv
    rw [nd'.kv_len] at hat
    have le3 := N3.vw.le
    refine ⟨k', 0, rfl, _, _, _, N3.ex.c2, split_eq (fun g => hF h3 s23 ?_) fun g => ?_⟩
    · have g : ((kvAt key nd'.kv : Nat) : Int) = ((nd'.l.length : Nat) : Int) := g
      show kvIs key nd'.kv = false
      unfold kvIs
      rw [List.getElem?_eq_none (by rw [nd'.kv_len]; omega)]
    · have g : ¬ ((kvAt key nd'.kv : Nat) : Int) = ((nd'.l.length : Nat) : Int) := g
      have he : nd'.l[kvAt key nd'.kv]? = some (nd'.l[kvAt key nd'.kv]'(by omega)) := List.getElem?_eq_getElem (by omega)
      generalize nd'.l[kvAt key nd'.kv]'(by omega) = en at he
      obtain ⟨b, o, ea, g0, g1, g2⟩ := N3.ex.get he
      refine ⟨k', 0, rfl, _, _, _, N3.ex.c2, by omega, by show ((kvAt key nd'.kv : Nat) : Int) < ((nd'.l.length : Nat) : Int); omega, b, o, ea, _, by rw [Int.toNat_natCast]; exact g0, ?_⟩
      rw [beqS_val]
      refine split_not (fun ek => hF h3 s23 ?_) fun ek => ?_
      · show kvIs key nd'.kv = false
        unfold kvIs
        rw [Nd.kv_get he]; exact ek
      · have hi : kvIs key nd'.kv = true := by
          unfold kvIs
          rw [Nd.kv_get he]; exact ek
        have e1 : IntKind.i64.wrap (((kvAt key nd'.kv : Nat) : Int) + 1) = ((kvAt key nd'.kv + 1 : Nat) : Int) := by rw [wid (by omega) (by omega)]; omega
        rw [e1, Int.toNat_natCast, Int.toNat_natCast]
        have rs := N3.rest (q := kvAt key nd'.kv + 1) (by omega) (Sub.refl _)
        have ld : (nd'.l.drop (kvAt key nd'.kv + 1)).length = nd'.l.length - (kvAt key nd'.kv + 1) := List.length_drop
        have drp : nd'.l.take (kvAt key nd'.kv) ++ nd'.l.drop (kvAt key nd'.kv + 1) = dropL key nd'.l := rfl
        unfold RowAt at rs
        rw [ld] at rs
        refine ⟨k', 0, rfl, _, _, _, N3.ex.c2, by omega, by show ((kvAt key nd'.kv : Nat) : Int) ≤ ((c : Nat) : Int); omega, by omega, Int.le_refl _, k', 0, rfl, _, _, _, N3.ex.c2, by omega, by show ((kvAt key nd'.kv + 1 : Nat) : Int) ≤ ((nd'.l.length : Nat) : Int); omega, _, rs, fun a' c' x' => Sub h3 x' ∧ VwR enC 3 x' 100 a' c' (dropL key nd'.l) ∧ ∀ b, blkOf a' b → blkOf a b ∨ h3 b = none, ?_, ?_⟩
        · rintro a9 c9 x9 ⟨s9, V9, nb9⟩
          obtain ⟨r1, r2, r3⟩ := N3.set (n := kvAt key nd'.kv + (nd'.l.length - (kvAt key nd'.kv + 1))) s9 V9 (by rw [← drp, List.length_append, List.length_take, ld]; omega) nb9
          have kp : Keep S h (x9.put k' 2 [.slice a9 (kvAt key nd'.kv + (nd'.l.length - (kvAt key nd'.kv + 1))) c9]) := fun c o hc hs => r3 c o (s23 c o hc) fun e => by rw [e, k0] at hc; cases hc
          have E9 := (E.sub s23).out r3 fun c hc e => nk (e ▸ hc)
          have o9 : NdOk ⟨nd'.leaf, nd'.first, dropL key nd'.l⟩ := by
            refine ⟨fun e he => ok.en e (dropL_mem he), ok.first, ?_, ok.z⟩
            have h1 := ok.size
            have h2 := dropL_size nd'.leaf key nd'.l
            unfold Nd.size at h1 ⊢
            show Nd.base nd'.leaf + eszs nd'.leaf (dropL key nd'.l) ≤ 1024
            omega
          refine ⟨k', 0, rfl, r1, store_spec E9 (Blk.keep T kp nt) r2.ex o9 hw fun h4 E4 k4 => ⟨rfl, hT h4 _ E4 (kp.trans k4) hi ?_⟩⟩
          have W9 : Fw (P.pgs D n) 0 ⟨nd'.leaf, nd'.first, dropL key nd'.l⟩ f t := ⟨hlf, dropL_ok W.2 hi⟩
          obtain ⟨g1, g2, g3, g4, g5⟩ := store_law W9 trivial o9 hw hid nN
          exact ⟨g1, g2.trans (dropL_kv hi), by rw [g3]; exact g4, by rw [g3]; exact g5, Nat.le_refl _⟩
        · rw [slA_zero]
          refine append_cap appTEn enC_len enC_plain (i := kvAt key nd'.kv) (L := nd'.l) N3.vw (by omega) ld.symm rfl (by rw [ld]; omega) fun a' c' h' s V nb _ => ⟨s, V, nb⟩
  | succ m =>
    have hlf : nd'.leaf = false := W.1
    rw [if_neg (by rw [hlf]; decide)]
    obtain ⟨l1, l2, K1, c', A⟩ := kid_at' hpk W hf ht
    have hbe := A.be
    have hkid := A.kid
    have hl := A.l
    rw [hbe] at hkid
    have nsub : (ids (P.pgs D n) m c'.2).Nodup := by
      have := nN
      rw [A.is, idsK_append, idsK_append, idsK_one] at this
      exact (List.nodup_append.1 (List.nodup_append.1 this).1).2.1
    have apart : ∀ {P1 : Pg} {I'}, Mv n D P P1 (idsN (P.pgs D n) (m + 1) nd') I' → P1.pgs D n id = some nd' ∧ id ∉ I' := fun M => by
      have ap := M.apart (R := [id]) fun i hi => by rw [List.mem_singleton.1 hi]; exact ⟨by rw [pn]; rfl, hid⟩
      exact ⟨(ap.1 id List.mem_cons_self).trans pn, ap.2 id List.mem_cons_self⟩
    have lift : ∀ {P1 : Pg} {I'}, Mv n D P P1 (idsN (P.pgs D n) (m + 1) nd') I' → Mv n D P P1 (id :: idsN (P.pgs D n) (m + 1) nd') (id :: I') := fun M =>
      M.lift (fun i hi => List.mem_cons_of_mem _ hi) (fun i hi => (List.mem_cons.1 hi).elim (fun e => .inr (e ▸ List.mem_cons_self)) .inl) (by simp only [List.length_cons]; omega)
    have naA := A.na F
    have isA : kvIs key (entsN (P.pgs D n) (m + 1) nd') = kvIs key (ents (P.pgs D n) m c'.2) := by rw [A.es, kvIs_right _ A.lt, kvIs_left _ A.gt]
    have esA : (entsK (P.pgs D n) m K1).flatten ++ (kvDrop key (ents (P.pgs D n) m c'.2) ++ (entsK (P.pgs D n) m (l2.map clE)).flatten) = kvDrop key (entsN (P.pgs D n) (m + 1) nd') := by
      rw [A.es, kvDrop_right _ A.lt, kvDrop_left _ A.gt]
    have hnd : nd' = ⟨nd'.leaf, nd'.first, l1 ++ l2⟩ := by rw [← hl]
    have hlen : nd'.l.length = l1.length + l2.length := by rw [hl, List.length_append]
    have kids : ∀ l, (Nd.kids ⟨nd'.leaf, nd'.first, l1 ++ l⟩)[l1.length]? = some c'.2 := fun l => by
      rw [Nd.kids_cl _ f, A.cls, List.map_append, List.getElem?_append_right (by rw [List.length_map, A.len]; exact Nat.le_refl _), List.length_map, A.len, Nat.sub_self]; rfl
    refine split_eq (fun e => by cases e) fun _ => below_spec No.ex srt (by omega) key fun h3 s3 => ⟨_, rfl, kid_spec (No.ex.sub s3) hkid ⟨_, rfl, ?_⟩⟩
    have s23 := s2.trans s3
    refine ih m (by omega) (E.sub s23) (Blk.sub T s23) A.tr nsub A.lo A.hi (fun i hi _ t' ht' e => nr' t' ht' (by rw [e]; exact A.kid_sub i hi)) (fun h4 s4 hi => ⟨_, rfl, split_not (fun _ => hF h4 (s23.trans s4) (by rw [isA]; exact hi)) fun e => by cases e⟩) fun h4 P1 E4 k4 hi R => ⟨_, rfl, split_not (fun e => by cases e) fun _ => ?_⟩
    have hi' : kvIs key (entsN (P.pgs D n) (m + 1) nd') = true := by rw [isA]; exact hi
    obtain ⟨W1, e1, n1, M1, len1⟩ := A.one W nN R.tr R.mv R.nd
    have N4 := (No.vw.sub s3).keep k4 nk na
    have k04 : Keep S h h4 := (s23.keep S).trans k4
    have nr1 := M1.nonroot E.ok nr'
    have ei : ((kvBe key nd'.kv : Nat) : Int) - 1 = ((l1.length : Nat) : Int) - 1 := by rw [hbe]
    have ei2 : IntKind.i64.wrap (((l1.length : Nat) : Int) - 1 - 1) = ((l1.length : Nat) : Int) - 2 := by rw [wid (by omega) (by omega)]; omega
    rw [ei, ei2]
    rw [R.es] at e1
    -- behind both joins
    have last : ∀ b1 b2 y, RmF pb jb db S n D P m ⟨nd'.leaf, nd'.first, l1 ++ l2⟩ f t ((entsK (P.pgs D n) m K1).flatten ++ (kvDrop key (ents (P.pgs D n) m c'.2) ++ (entsK (P.pgs D n) m (l2.map clE)).flatten)) (idsN (P.pgs D n) (m + 1) nd') h k' (b1 || b2) y →
        bif b1 then CallsH Tryz.prog btree_Tree_store.id #[.pointer (some ⟨tb, 0, none⟩), .int .i64 (id : Nat), .pointer (some ⟨k', 0, none⟩)] y fun v h' => v = .tuple #[] ∧ K (.bool true) h'
        else bif b2 then CallsH Tryz.prog btree_Tree_store.id #[.pointer (some ⟨tb, 0, none⟩), .int .i64 (id : Nat), .pointer (some ⟨k', 0, none⟩)] y fun v h' => v = .tuple #[] ∧ K (.bool true) h'
        else K (.bool true) y := by
      rintro b1 b2 y ⟨P3, a3, c3, nd3, E3, kp3, N3, o3, W3, F3, n3, e3, M3, fr3, hb⟩
      rw [esA] at e3
      obtain ⟨pid, hid3⟩ := apart M3
      have hw3 : P3.why n (id : Nat) = 0 := pgs_why (by rw [pid]; rfl)
      have sto : CallsH Tryz.prog btree_Tree_store.id #[.pointer (some ⟨tb, 0, none⟩), .int .i64 (id : Nat), .pointer (some ⟨k', 0, none⟩)] y fun v h' => v = .tuple #[] ∧ K (.bool true) h' := by
        refine store_spec E3 (Blk.keep T kp3 nt) N3 o3 hw3 fun h5 E5 k5 => ⟨rfl, hT h5 _ E5 (kp3.trans k5) hi' ?_⟩
        obtain ⟨g1, g2, g3, g4, g5⟩ := store_law W3 F3 o3 hw3 hid3 n3
        exact ⟨g1, g2.trans e3, by rw [g3]; exact g4, by rw [g3]; exact (lift M3).trans g5, fr3⟩
      cases b1 with
      | true => exact sto
      | false =>
        cases b2 with
        | true => exact sto
        | false =>
          have : nd3 = nd' := (hb rfl).trans hnd.symm
          subst this
          refine hT y P3 E3 kp3 hi' ⟨TrS_iff.2 ⟨_, pid, W3, F3⟩, (ents_N pid).trans e3, ?_, ?_, fr3⟩
          · rw [ids_N pid]; exact List.nodup_cons.2 ⟨hid3, n3⟩
          · rw [ids_N pid]; exact lift M3
    have mid : ∀ b1 x, RmJ pb jb db S n D P m nd'.leaf nd'.first f t l1 l2 (entsK (P.pgs D n) m K1) (kvDrop key (ents (P.pgs D n) m c'.2) ++ (entsK (P.pgs D n) m (l2.map clE)).flatten) (idsN (P.pgs D n) (m + 1) nd') h k' b1 x →
        ∃ b54, Value.bool b1 = .bool b54 ∧ CallsH Tryz.prog btree_Tree_join.id #[.pointer (some ⟨tb, 0, none⟩), .pointer (some ⟨k', 0, none⟩), .int .i64 ((l1.length : Nat) - 2 : Int)] x fun v h56 => ∃ b57, v = .bool b57 ∧
          bif b54 then CallsH Tryz.prog btree_Tree_store.id #[.pointer (some ⟨tb, 0, none⟩), .int .i64 (id : Nat), .pointer (some ⟨k', 0, none⟩)] h56 fun v h' => v = .tuple #[] ∧ K (.bool true) h'
          else bif b57 then CallsH Tryz.prog btree_Tree_store.id #[.pointer (some ⟨tb, 0, none⟩), .int .i64 (id : Nat), .pointer (some ⟨k', 0, none⟩)] h56 fun v h' => v = .tuple #[] ∧ K (.bool true) h'
          else K (.bool true) h56 := fun b1 x J =>
      ⟨b1, rfl, before_spec nt (by omega) T k0 nk (by rw [← hnd]; exact ok) E.ok nr' (NA_left naA) (by unfold entsK; rw [List.length_map, A.len]) J fun b2 y F => ⟨b2, rfl, last b1 b2 y F⟩⟩
    have W1' : Fw (P1.pgs D n) (m + 1) ⟨nd'.leaf, nd'.first, l1 ++ l2⟩ f t := by rw [← hnd]; exact W1
    have n1' : (idsN (P1.pgs D n) (m + 1) ⟨nd'.leaf, nd'.first, l1 ++ l2⟩).Nodup := by rw [← hnd]; exact n1
    have e1' : entsK (P1.pgs D n) m (Nd.cl ⟨nd'.leaf, nd'.first, l1 ++ l2⟩ f) = entsK (P.pgs D n) m K1 ++ kvDrop key (ents (P.pgs D n) m c'.2) :: entsK (P.pgs D n) m (l2.map clE) := by rw [← hnd]; exact e1
    have M1' : Mv n D P P1 (idsN (P.pgs D n) (m + 1) nd') (idsN (P1.pgs D n) (m + 1) ⟨nd'.leaf, nd'.first, l1 ++ l2⟩) := by rw [← hnd]; exact M1
    have N4' : NdVw h4 k' a c ⟨nd'.leaf, nd'.first, l1 ++ l2⟩ := by rw [← hnd]; exact N4
    have naY := NA_tail (NA_right naA)
    cases l2 with
    | nil =>
      refine join_out N4.ex (by omega) _ (.inr ⟨by rw [hlen]; show ((l1.length : Nat) : Int) - 1 + 1 ≥ ((l1.length + 0 : Nat) : Int); omega, by omega⟩) (mid false h4 ?_)
      exact ⟨P1, a, c, [], _, _, E4, k04, N4', na, List.Sublist.refl _, W1', n1', e1', trivial, rfl, M1', R.fr, fun _ => rfl⟩
    | cons e l2 =>
      have eY : entsK (P.pgs D n) m ((e :: l2).map clE) = ents (P.pgs D n) m e.kid :: entsK (P.pgs D n) m (l2.map clE) := rfl
      rw [eY] at e1' naY
      have e1c : entsK (P1.pgs D n) m (Nd.cl ⟨nd'.leaf, nd'.first, l1 ++ e :: l2⟩ f) = entsK (P1.pgs D n) m K1 ++ ents (P1.pgs D n) m c'.2 :: ents (P1.pgs D n) m e.kid :: entsK (P1.pgs D n) m (l2.map clE) := by
        rw [A.cls, entsK_append]; rfl
      obtain ⟨x1, x2⟩ := List.append_inj (e1c.symm.trans e1') (by unfold entsK; rw [List.length_map, List.length_map])
      obtain ⟨x3, x4⟩ := List.cons.inj x2
      obtain ⟨x5, x6⟩ := List.cons.inj x4
      refine join_spec nt m E4 (Blk.keep T k04 nt) N4' nk na (by rw [← hnd]; exact ok) W1' n1' (by rw [← hnd]; exact nr1) A.cls kids (fun y sy hne => mid false y ?_) fun y P2 a2 c2 E2 kp2 N2 nb2 R2 => mid true y ?_
      · rw [x3, x5] at hne
        exact ⟨P1, a, c, e :: l2, _, _, E4.sub sy, k04.trans (sy.keep S), N4'.sub sy, na, List.Sublist.refl _, W1', n1', e1', ⟨hne, naY⟩, rfl, M1', R.fr, fun _ => rfl⟩
      · obtain ⟨r1, r2, r3, r4⟩ := join_up A.cls W1' n1' R2
        rw [x1, x3, x5, x6] at r2
        refine ⟨P2, a2, c2, l2, _, _, E2, (fun c o hc hs => kp2 c o (k04 c o hc hs) fun h' => h'.elim hs fun e => by rw [e, k0] at hc; cases hc), N2, nb2, List.sublist_cons_self _ _, r1, r3, r2, NA_join1 naY, ?_, M1'.trans r4, Nat.le_trans R.fr R2.fr, fun e => by cases e⟩
        rw [eY]
        simp only [List.flatten_cons, List.append_assoc]
end Go.Proofs.YthbogjbcecmopaaGreatDoor
namespace Go.Proofs.YthbogjbcecmopaaGreatDoor
open Go.Gx
set_option maxRecDepth 100000
set_option linter.unusedVariables false
variable {n : Nat} {D : Dk} {P P' : Pg} {h : Hp} {K : Value → Hp → Prop} {pb jb db : Nat} {S : Nat → Prop} {tb k : Nat}
def DrJ (pb jb db : Nat) (S : Nat → Prop) (n : Nat) (D : Dk) (k : Nat) (P : Pg) (L : List KV) (I : List Nat) (h x : Hp) (m : Nat) : Prop :=
  ∃ P1, PgAt x pb jb db S n D P1 ∧ Keep S h x ∧ P1.now.r k ≠ 0 ∧ TrS (P1.pgs D n) m (P1.now.r k) eB eB ∧ ents (P1.pgs D n) m (P1.now.r k) = L ∧ (ids (P1.pgs D n) m (P1.now.r k)).Nodup ∧ MvT n D k P P1 I (ids (P1.pgs D n) m (P1.now.r k)) ∧ P.freeN n ≤ P1.freeN n ∧ ∀ t, t < 4 → t ≠ k → P1.now.r t ∉ ids (P1.pgs D n) m (P1.now.r k)
theorem nonroot_t (E : POk n P) {I I' : List Nat} (M : MvT n D k P P' I I') (hr : ∀ t, t < 4 → t ≠ k → P.now.r t ∉ I) : ∀ t, t < 4 → t ≠ k → P'.now.r t ∉ I' := fun t ht hk hi => by
  rw [M.roots t hk] at hi
  rcases M.new _ hi with h | h
  · exact hr t ht hk h
  · by_cases e : P.now.r t = 0
    · rw [e, E.now.zero] at h; cases h
    · rw [(E.now.roots t ht).2 e] at h; cases h
set_option maxHeartbeats 4000000 in
theorem drop_spec (E : PgAt h pb jb db S n D P) (T : TrAt h tb pb k) (nt : ¬ S tb) (hk : k < 4) {hg : Nat} {L : List KV} {I : List Nat} (TT : TreeS (P.pgs D n) (P.now.r k) hg L I) (nr : ∀ t, t < 4 → t ≠ k → P.now.r t ∉ I) (key : ByteArray) (hF : kvIs key L = false → ∀ h', Sub h h' → K (.bool false) h')
    (hT : kvIs key L = true → ∀ h' P' hg' I', PgAt h' pb jb db S n D P' → Keep S h h' → TreeS (P'.pgs D n) (P'.now.r k) hg' (kvDrop key L) I' → MvT n D k P P' I I' → P.freeN n ≤ P'.freeN n → K (.bool true) h') :
    CallsH Tryz.prog btree_Tree_Drop.id #[.pointer (some ⟨tb, 0, none⟩), .string key] h K := by
  have hn := E.n2
  apply btree_Tree_Drop.calls
  unfold btree_Tree_Drop.W
  refine ⟨fun x => kvIs key L = true ∧ ∃ m, DrJ pb jb db S n D k P (kvDrop key L) I h x m, ?_, _, T.cell' 0 rfl, _, T.cell' 1 rfl, root_spec E hk ⟨_, rfl, Sub.refl _, split_eq (fun e0 => hF ?_ h (Sub.refl _)) fun e0 => ⟨_, T.cell' 0 rfl, _, T.cell' 1 rfl, root_spec E hk ⟨_, rfl, ?_⟩⟩⟩⟩
  · rintro x ⟨hi, m, J⟩
    refine ⟨fun x m => DrJ pb jb db S n D k P (kvDrop key L) I h x m, ⟨m, J⟩, ?_⟩
    rintro y m ⟨P1, E1, kp1, r0, T1, e1, n1, M1, fr1, nr1⟩
    have Ty : TrAt y tb pb k := Blk.keep T kp1 nt
    have hpk := pgs_ok E1
    obtain ⟨nd, pn, W, F⟩ := TrS_iff.1 T1
    have ok := hpk _ nd pn
    refine ⟨_, Ty.cell' 0 rfl, _, Ty.cell' 1 rfl, root_spec E1 hk ⟨_, rfl, load_spec E1 Ty _ (fun e => by rw [show P1.pgs D n _ = none from e] at pn; cases pn) fun nd' e z k' N => ⟨_, _, rfl, split_ne (fun e => absurd rfl e) fun _ => ?_⟩⟩⟩
    have e : nd' = nd := Option.some.inj ((show P1.pgs D n _ = some nd' from e).symm.trans pn)
    subst e
    obtain ⟨a, c, Ne, fra⟩ := N.ex
    have Ez := E1.sub N.sub
    have Tz : TrAt z tb pb k := Blk.sub Ty N.sub
    have kpz : Keep S h z := kp1.trans (N.sub.keep S)
    refine ⟨k', 0, rfl, _, _, _, Ne.c2, split_dec (fun g => hT hi z P1 (m + 1) _ Ez kpz ⟨r0, T1, e1.symm, rfl, n1, ?_⟩ M1 fr1) fun g => ?_⟩
    · have g : ((nd'.l.length : Nat) : Int) > 0 := g
      rw [← e1, ents_N pn]
      intro e0
      have := Fw_empty W F e0
      rw [this] at g
      exact absurd g (by decide)
    · have g : ¬ ((nd'.l.length : Nat) : Int) > 0 := g
      have hl : nd'.l = [] := List.length_eq_zero_iff.1 (by omega)
      have hw := pgs_why (P := P1) (D := D) (n := n) (i := P1.now.r k) (by rw [pn]; rfl)
      obtain ⟨u1, u2, u3⟩ := why_used hw
      rw [ids_N pn] at n1 M1 nr1
      rw [ents_N pn] at e1
      obtain ⟨hid, nN⟩ := List.nodup_cons.1 n1
      have kd : ((nd'.kind : Nat) : Int) = if nd'.leaf = true then 1 else 2 := by unfold Nd.kind; split <;> rfl
      -- both steps of the pager
      have step : (nd'.first = 0 ∨ P1.why n (nd'.first : Nat) = 0) → nd'.first ≠ P1.now.r k → ∀ K' : Value → Hp → Prop, (∀ x, PgAt x pb jb db S n D ((P1.point k nd'.first).give (P1.now.r k)) → Keep S z x → K' (.int .i64 0) x) →
          CallsH Tryz.prog pager_Pager_Point.id #[.pointer (some ⟨pb, 0, none⟩), .int .i64 (k : Nat), .int .i64 (nd'.first : Nat)] z fun v h27 => ∃ n28, v = .int .i64 n28 ∧ ∃ a29, h27.cell tb 0 = some (.pointer a29) ∧ CallsH Tryz.prog pager_Pager_Give.id #[.pointer a29, .int .i64 (P1.now.r k : Nat)] h27 K' := fun hf hne K' hK' => by
        refine ppoint_ok Ez hk hf fun h4 E4 st4 => ⟨_, rfl, _, (Blk.keep Tz st4.1 nt : TrAt h4 tb pb k).cell' 0 rfl, ?_⟩
        have hw4 : (P1.point k nd'.first).why n (P1.now.r k : Nat) = 0 := hw
        refine give_spec E4 _ (fun e => absurd hw4 e) (fun q eq _ ⟨t', ht', er⟩ => ?_) fun q eq _ _ h5 E5 st5 => ?_
        · have hq : q = P1.now.r k := by omega
          have er : upR P1.now.r k nd'.first t' = q := er
          rw [hq] at er
          by_cases e : t' = k
          · rw [e, upR_same] at er; exact absurd er hne
          · unfold upR at er
            rw [if_neg e] at er
            exact absurd (by rw [er]; exact List.mem_cons_self) (nr1 t' ht' e)
        · have hq : P1.now.r k = q := by omega
          subst hq
          exact hK' h5 E5 (st4.1.trans st5.1)
      have M3 : MvT n D k P ((P1.point k nd'.first).give (P1.now.r k)) I (idsN (P1.pgs D n) m nd') := (M1.trans (MvT.point k nd'.first _)).trans ((Mv.give (P := P1.point k nd'.first) u3 u1 _).t k)
      have fr3 : P.freeN n ≤ ((P1.point k nd'.first).give (P1.now.r k)).freeN n := by
        have := freeN_give (P := P1.point k nd'.first) u1 n
        have h2 : (P1.point k nd'.first).freeN n = P1.freeN n := rfl
        omega
      have rk : ((P1.point k nd'.first).give (P1.now.r k)).now.r k = nd'.first := upR_same _ _ _
      refine ⟨_, Tz.cell' 0 rfl, _, Tz.cell' 1 rfl, k', 0, rfl, _, Ne.c1, ?_⟩
      cases m with
      | zero =>
        have hlf : nd'.leaf = true := W.1
        have hz := ok.z hlf
        refine step (.inl hz) (by rw [hz]; omega) _ fun x Ex kpx => ⟨_, rfl, k', 0, rfl, _, (Ne.out kpx (S_out E1 N.k0) fun b hb => S_out E1 (fra b hb)).c0, ?_⟩
        rw [kd, if_pos hlf]
        refine split_eq (fun _ => hT hi x _ 0 [] Ex (kpz.trans kpx) ⟨rk.trans hz, ?_, rfl⟩ M3 fr3) fun e => absurd rfl e
        rw [← e1]
        show nd'.kv = []
        unfold Nd.kv
        rw [hl]; rfl
      | succ m =>
        have hlf : nd'.leaf = false := W.1
        have hch := W.2.2
        have ecl : nd'.cl eB = [(eB, nd'.first)] := by unfold Nd.cl; rw [hl]; rfl
        have eN : entsN (P1.pgs D n) (m + 1) nd' = ents (P1.pgs D n) m nd'.first := by
          show (entsK (P1.pgs D n) m (nd'.cl eB)).flatten = _
          rw [ecl]; unfold entsK; simp
        have iN : idsN (P1.pgs D n) (m + 1) nd' = ids (P1.pgs D n) m nd'.first := by
          show idsK (P1.pgs D n) m (nd'.cl eB) = _
          rw [ecl]; unfold idsK; simp
        rw [ecl] at hch
        have Tf : TrS (P1.pgs D n) m nd'.first eB eB := hch.1
        rw [iN] at hid nN M3
        rw [eN] at e1
        have fin : nd'.first ∈ ids (P1.pgs D n) m nd'.first := ids_self
        have hne : nd'.first ≠ P1.now.r k := fun e => hid (e ▸ fin)
        refine step (.inr (pgs_why (Tf.in_pg fin))) hne _ fun x Ex kpx => ⟨_, rfl, k', 0, rfl, _, (Ne.out kpx (S_out E1 N.k0) fun b hb => S_out E1 (fra b hb)).c0, ?_⟩
        rw [kd, if_neg (by rw [hlf]; decide)]
        have fr : ∀ i ∈ ids (P1.pgs D n) m nd'.first, ((P1.point k nd'.first).give (P1.now.r k)).pgs D n i = P1.pgs D n i := fun i hi => pgs_give_ne (P := P1.point k nd'.first) fun e => hid (e ▸ hi)
        obtain ⟨f1, f2, f3⟩ := Tf.tr.frame fr
        refine split_eq (fun e => by cases e) fun _ => ⟨m, by omega, _, Ex, kpz.trans kpx, ?_, ?_, ?_, ?_, ?_, fr3, ?_⟩
        · rw [rk]
          have := pgs_lt (P := P1) (D := D) (Tf.in_pg fin)
          omega
        · rw [rk]; exact Tf.frame fr
        · rw [rk]; exact f2.trans e1
        · rw [rk, f3]; exact nN
        · rw [rk, f3]; exact M3
        · intro t ht htk
          rw [rk, f3]
          show upR P1.now.r k nd'.first t ∉ _
          unfold upR
          rw [if_neg htk]
          exact fun h' => nr1 t ht htk (List.mem_cons_of_mem _ (by rw [iN]; exact h'))
  · cases hg with
    | zero => rw [TT.2.1]; rfl
    | succ m => exact absurd (by omega) TT.1
  · cases hg with
    | zero => exact absurd (by rw [TT.1]; rfl) e0
    | succ m =>
      obtain ⟨r0, T0, rfl, rfl, nI, _⟩ := TT
      refine remove_spec nt m E T T0 nI (blt_eB key) (fun h => absurd rfl h) (fun i hi hne t ht er => ?_) (fun h' s hi => ⟨_, rfl, split_not (fun _ => hF hi h' s) fun e => by cases e⟩) fun h' P1 E1 kp hi R => ⟨_, rfl, split_not (fun e => by cases e) fun _ => ⟨hi, m, P1, E1, kp, ?_, ?_, ?_, ?_, ?_, R.fr, ?_⟩⟩
      · by_cases e : t = k
        · rw [e] at er; exact hne er.symm
        · exact nr t ht e (er ▸ hi)
      · rw [R.mv.roots]; exact r0
      · rw [R.mv.roots]; exact R.tr
      · rw [R.mv.roots]; exact R.es
      · rw [R.mv.roots]; exact R.nd
      · rw [R.mv.roots]; exact R.mv.t k
      · intro t ht htk
        have := nonroot_t E.ok (R.mv.t k) nr t ht htk
        rw [R.mv.roots] at this ⊢
        exact this
def ClAt (x : Hp) (k1 : Nat) (l : List Nat) (M : Nat → Prop) : Prop := ∃ la lc, Blk x k1 107 [.slice la l.length lc] ∧ OwnR keyC 1 x 3 la lc l ∧ (∀ b, blkOf la b → b ≠ k1) ∧ ∀ c, M c ↔ (c = k1 ∨ blkOf la c)
set_option maxHeartbeats 4000000 in
theorem clear_spec (E : PgAt h pb jb db S n D P) (T : TrAt h tb pb k) (nt : ¬ S tb) (hk : k < 4) {hg : Nat} {L : List KV} {I : List Nat} (TT : TreeS (P.pgs D n) (P.now.r k) hg L I) (nr : ∀ t, t < 4 → t ≠ k → P.now.r t ∉ I)
    (hK : ∀ h' P', PgAt h' pb jb db S n D P' → Keep S h h' → P'.now.r k = 0 → MvT n D k P P' I [] → K (.tuple #[]) h') : CallsH Tryz.prog btree_Tree_Clear.id #[.pointer (some ⟨tb, 0, none⟩)] h K := by
  have hn := E.n2
  have high := TT.high
  have TT' := TT.tree
  have nI : I.Nodup := by
    cases hg with
    | zero => rw [TT.2.2]; exact List.nodup_nil
    | succ m => exact TT.2.2.2.2.1
  have vp := visit_perm TT'
  have nV : (visit (P.pgs D n) hg (P.now.r k)).Nodup := vp.nodup_iff.2 nI
  have used : ∀ i ∈ visit (P.pgs D n) hg (P.now.r k), (P.pgs D n i).isSome = true := fun i hi => TT.used i (vp.mem_iff.1 hi)
  have nrV : ∀ t, t < 4 → t ≠ k → P.now.r t ∉ visit (P.pgs D n) hg (P.now.r k) := fun t ht htk hi => nr t ht htk (vp.mem_iff.1 hi)
  apply btree_Tree_Clear.calls
  unfold btree_Tree_Clear.W
  intro k1 hk1
  have B1 := Blk.new h k1 107 [.slice none 0 0]
  have s1 := Sub.upd hk1 (.cells [Value.slice none 0 0].toArray 107 (0, 0))
  generalize h.upd k1 (.cells [Value.slice none 0 0].toArray 107 (0, 0)) = y at B1 s1 ⊢
  have tk1 : tb ≠ k1 := fun e => by subst e; unfold TrAt Blk at T; rw [T] at hk1; cases hk1
  have Ty : TrAt y tb pb k := Blk.sub T s1
  refine each_spec (B := n) (I := fun l M x => ClAt x k1 l M) ?_ ?_ ?_ rfl (M := fun c => c = k1) ⟨none, 0, B1, OwnR.nil _ _, (fun b ⟨o, s, e⟩ => by cases e), fun c => ⟨.inl, fun h => h.elim id fun ⟨o, s, e⟩ => by cases e⟩⟩ (E.sub s1) Ty hk (fun c hc e => S_out E hk1 (e ▸ hc)) tk1 TT' (by rw [vp.length_eq]; exact high.2) fun h3 M3 C3 st3 => ⟨rfl, ?_⟩
  · rintro l M x z ⟨la, lc, c1, c2, c3, c4⟩ s
    exact ⟨la, lc, c1.sub s, c2.sub s, c3, c4⟩
  · rintro l M x c ⟨la, lc, c1, c2, c3, c4⟩ hc e
    rcases (c4 c).1 hc with rfl | hc
    · unfold Blk at c1; rw [c1] at e; cases e
    · exact Own.in_heap c2 hc e
  · rintro l M x id nd k' a c hl ⟨la, lc, c1, c2, c3, c4⟩ e Ne K' hK'
    refine fnI (cap := [_]) (by kernel_rfl) ?_
    apply btree_Tree_Clear_1.calls
    unfold btree_Tree_Clear_1.W
    refine ⟨_, _, _, c1.cell' 0 rfl, fun k4 hk4 => ?_⟩
    have s4 := Sub.upd hk4 (.cells (keyC id).toArray 3 (0, 0))
    have B4 := Blk.new x k4 3 (keyC id)
    have c1' := c1.sub s4
    have c2' := c2.sub s4
    refine ⟨keyC id, B4.slice rfl, fun a' c' z => OwnR keyC 1 z 3 a' c' (l ++ [id]) ∧ Keep (blkOf la) (x.upd k4 (.cells (keyC id).toArray 3 (0, 0))) z ∧ ∀ b, blkOf a' b → blkOf la b ∨ (x.upd k4 (.cells (keyC id).toArray 3 (0, 0))) b = none, ?_, ?_⟩
    · rintro a' c' z ⟨o1, o2, o3⟩
      have B1z := c1'.keep o2 fun hb => c3 k1 hb rfl
      have ne' : ∀ b, blkOf a' b → b ≠ k1 := fun b hb e => by
        rcases o3 b hb with h' | h'
        · exact c3 b h' e
        · rw [e] at h'; unfold Blk at c1'; rw [c1'] at h'; cases h'
      have kz := Keep.put (fun c => c = k1) z 0 [.slice a' (l.length + 1) c'] rfl
      refine ⟨B1z.store (by show 1 ≤ 1; decide), hK' _ (fun c => c = k1 ∨ blkOf a' c) ⟨a', c', ?_, o1.keep kz ne', ne', fun c => Iff.rfl⟩ ⟨?_, ?_⟩⟩
      · rw [List.length_append]
        exact B1z.put 0 [.slice a' (l.length + 1) c']
      · exact ((s4.keep M).trans (o2.mono fun c hc => (c4 c).2 (.inr hc))).trans (kz.mono fun c hc => (c4 c).2 (.inl hc))
      · rintro c (hc | hc)
        · exact .inl ((c4 c).2 (.inl hc))
        · rcases o3 c hc with h' | h'
          · exact .inl ((c4 c).2 (.inr h'))
          · exact .inr (s4.none h')
    · exact append_ownR appTInt keyC_len keyC_plain (M := [id]) c2' rfl rfl (rowC_one _).symm (by show (2 * (l.length + 1) + 768) * 8 ≤ _; omega) fun a' c' z o1 o2 o3 => ⟨o1, o2, o3⟩
  · have s3 : Sub h h3 := st3.1.sub s1 fun c hc => by rw [hc]; exact hk1
    have E3 := E.sub s3
    have T3 : TrAt h3 tb pb k := Blk.sub T s3
    obtain ⟨la, lc, c1, c2, c3, c4⟩ := C3
    have nS : ∀ c, S c → ¬ (c = k1 ∨ blkOf la c) := fun c hc hm => by
      rcases st3.2 c ((c4 c).2 hm) with h' | h'
      · exact S_out E hk1 (h' ▸ hc)
      · exact E.in_heap hc (s1.none h')
    refine ⟨_, T3.cell' 0 rfl, _, T3.cell' 1 rfl, ppoint_ok E3 hk (.inl rfl) fun h7 E7 st7 => ⟨_, rfl, ?_⟩⟩
    have B7 := c1.keep st7.1 fun hs => nS _ hs (.inl rfl)
    have O7 := c2.keep st7.1 fun b hb hs => nS b hs (.inr hb)
    have kp7 : Keep S h h7 := (s3.keep S).trans st7.1
    generalize hV : visit (P.pgs D n) hg (P.now.r k) = V at nV used nrV B7 O7
    have VI : V.Perm I := by rw [← hV]; exact vp
    have hVn : V.length ≤ n := by rw [VI.length_eq]; exact high.2
    have M0 : MvT n D k P (P.point k 0) I V := by
      refine ⟨rfl, rfl, rfl, fun t ht => if_neg ht, fun j h _ => ⟨h, rfl⟩, fun j h => .inl (VI.mem_iff.1 h), by rw [VI.length_eq]; rfl⟩
    refine ⟨_, _, _, B7.cell' 0 rfl, fun i x m => ∃ (j : Nat) (P1 : Pg), i = (j : Int) ∧ j ≤ V.length ∧ m = V.length - j ∧ PgAt x pb jb db S n D P1 ∧ Keep S h x ∧ OwnR keyC 1 x 3 la lc V ∧ P1.now.r = upR P.now.r k 0 ∧ MvT n D k P P1 I (V.drop j) ∧ ∀ i ∈ V.drop j, P1.pgs D n i = P.pgs D n i, ⟨_, 0, P.point k 0, rfl, Nat.zero_le _, rfl, E7, kp7, O7, rfl, M0, fun i _ => rfl⟩, ?_⟩
    rintro i x m ⟨j, P1, rfl, hj, rfl, E1, kp1, O1, er, M1, hp⟩
    refine split_dec (fun g => ?_) fun g => ?_
    · have g : ((j : Nat) : Int) < ((V.length : Nat) : Int) := g
      have hj' : j < V.length := by omega
      obtain ⟨id, hid⟩ : ∃ id, V[j]? = some id := ⟨_, List.getElem?_eq_getElem hj'⟩
      obtain ⟨b, o, ea, hc⟩ := O1.row.get keyC_len (by decide) hid
      have hdr : V.drop j = id :: V.drop (j + 1) := by
        have := (List.getElem?_eq_some_iff.1 hid).2
        rw [← this, List.drop_eq_getElem_cons hj']
      have idV : id ∈ V := List.mem_of_getElem? hid
      have pid : P1.pgs D n id = P.pgs D n id := hp id (by rw [hdr]; exact List.mem_cons_self)
      have hw : P1.why n (id : Nat) = 0 := pgs_why (D := D) (by rw [pid]; exact used id idV)
      obtain ⟨u1, u2, u3⟩ := why_used hw
      have T1 : TrAt x tb pb k := Blk.keep T kp1 nt
      refine ⟨by omega, g, b, o, ea, _, by rw [Int.toNat_natCast]; exact hc 0 _ rfl, _, T1.cell' 0 rfl, give_spec E1 _ (fun e => absurd hw e) (fun q eq _ ⟨t', ht', e2⟩ => ?_) fun q eq _ _ h5 E5 st5 => ⟨_, rfl, V.length - (j + 1), by omega, j + 1, P1.give id, by rw [wid (by omega) (by omega)]; omega, by omega, rfl, ?_, kp1.trans st5.1, O1.keep st5.1 fun b hb hs => nS b hs (.inr hb), er, ?_, ?_⟩⟩
      · have hq : q = id := by omega
        have e2 : P1.now.r t' = q := e2
        rw [er, hq] at e2
        unfold upR at e2
        by_cases e : t' = k
        · rw [if_pos e] at e2
          omega
        · rw [if_neg e] at e2
          exact absurd (e2 ▸ idV) (nrV t' ht' e)
      · have hq : id = q := by omega
        subst hq
        exact E5
      · rw [hdr] at M1
        exact M1.trans ((Mv.give u3 u1 _).t k)
      · intro i hi
        have nd1 : (V.drop j).Nodup := nV.sublist (List.drop_sublist _ _)
        rw [hdr] at nd1
        have := (List.nodup_cons.1 nd1).1
        have ine : i ≠ id := fun e => this (e ▸ hi)
        exact (pgs_give_ne ine).trans (hp i (by rw [hdr]; exact List.mem_cons_of_mem _ hi))
    · have g : ¬ ((j : Nat) : Int) < ((V.length : Nat) : Int) := g
      have : j = V.length := by omega
      subst this
      rw [List.drop_length] at M1
      exact hK x P1 E1 kp1 (by rw [er]; exact upR_same _ _ _) M1
end Go.Proofs.YthbogjbcecmopaaGreatDoor
namespace Go.Proofs.YthbogjbcecmopaaGreatDoor
open Go.Gx
set_option maxRecDepth 100000
set_option linter.unusedVariables false

abbrev tPair : TypeId := 42
theorem appTP : AppT Tryz.prog tPair 2 32 := AppT.of (by kernel_rfl)
theorem kv_cell {h : Hp} {a : Option Addr} {L : List KV} (H : SliceAt h a (L.length * 2) (kvCells L)) {i : Nat} {p : KV} (hp : L[i]? = some p) :
    ∃ b o, a = some ⟨b, o, none⟩ ∧ h.cell b (o + i * 2) = some (.string p.1) ∧ h.cell b (o + i * 2 + 1) = some (.string p.2) := by
  have hi := (List.getElem?_eq_some_iff.1 hp).1
  obtain ⟨c1, c2⟩ := kvCells_get L i p hp
  obtain ⟨b, o, e, v, hv, hc⟩ := H.cell (i := i * 2) (by omega)
  obtain ⟨b', o', e', v', hv', hc'⟩ := H.cell (i := i * 2 + 1) (by omega)
  rw [e] at e'
  cases e'
  rw [c1] at hv; cases hv
  rw [c2] at hv'; cases hv'
  exact ⟨b, o, e, hc, by rw [Nat.add_assoc]; exact hc'⟩
theorem kvFind_spec {L : List KV} {a : Option Addr} {c : Nat} {h : Hp} (H : SliceAt h a (L.length * 2) (kvCells L)) (hL : L.length < 4294967296) (k : ByteArray) {K : Value → Hp → Prop}
    (hK : K (.tuple #[.int .i64 (kvAt k L : Nat), .bool (kvIs k L)]) h) : CallsH Tryz.prog ref08_Find.id #[.slice a L.length c, .string k] h K := by
  apply ref08_Find.calls
  unfold ref08_Find.W
  refine ⟨fun n x m => x = h ∧ ∃ i : Nat, n = (i : Int) ∧ i ≤ kvAt k L ∧ m = L.length - i, ⟨_, rfl, 0, rfl, by omega, rfl⟩, ?_⟩
  rintro n x m ⟨rfl, i, rfl, hi, rfl⟩
  have hle := kvAt_le k L
  refine split_dec (fun h1 => ?_) (fun h1 => ?_)
  · have h1' : i < L.length := by have : (i : Int) < ((L.length : Nat) : Int) := h1; omega
    have hp : L[i]? = some L[i] := List.getElem?_eq_getElem h1'
    obtain ⟨b, o, e, c1, c2⟩ := kv_cell H hp
    have ei : ((i : Nat) : Int).toNat = i := rfl
    rw [ei]
    refine ⟨by omega, h1, b, o, e, L[i].1, c1, ?_⟩
    rw [bltS_val]
    refine split_not (fun h2 => ⟨by omega, h1, b, o, e, L[i].1, c1, ?_⟩) (fun h2 => ?_)
    · have : i = kvAt k L := by
        by_cases hc : i < kvAt k L
        · rw [kvAt_before k L i _ hp hc] at h2; cases h2
        · omega
      rw [beqS_val]
      have e2 : decide (L[i].1 = k) = kvIs k L := by
        unfold kvIs
        rw [← this, hp]
      rw [e2, this]
      exact hK
    · refine ⟨L.length - (i + 1), by omega, rfl, i + 1, by rw [wid (by omega) (by omega)]; omega, ?_, rfl⟩
      by_cases hc : i = kvAt k L
      · have := kvAt_at k L L[i] (by rw [← hc]; exact hp)
        rw [this] at h2; cases h2
      · omega
  · have h1 : ¬ i < L.length := by
      intro hc
      apply h1
      show (i : Int) < ((L.length : Nat) : Int)
      omega
    have e : kvAt k L = L.length := by omega
    have e2 : kvIs k L = false := by
      unfold kvIs
      rw [e, List.getElem?_eq_none (Nat.le_refl _)]
    rw [e, e2] at hK
    exact hK
theorem kv_part {h : Hp} {a : Option Addr} {L : List KV} (H : SliceAt h a (L.length * 2) (kvCells L)) {c i n : Nat} (hc : L.length ≤ c) (hi : i + n ≤ L.length) : SliceAt h (slA c i 2 a) (n * 2) (kvCells ((L.drop i).take n)) := by
  have := H.part (m := c) (l := i) (k := n * 2) (sz := 2) (by omega) (by omega)
  rw [kvCells_drop, kvCells_take] at this
  exact this
theorem kvPut_len (k v : ByteArray) (L : List KV) : (kvPut k v L).length = kvAt k L + 1 + (L.length - (if kvIs k L then kvAt k L + 1 else kvAt k L)) := by
  unfold kvPut
  have := kvAt_le k L
  rw [List.length_append, List.length_take, List.length_cons, List.length_drop]; omega
def NewKV (h h' : Hp) (a : Option Addr) (c : Nat) (L : List KV) : Prop := Sub h h' ∧ (∀ b, blkOf a b → h b = none) ∧ Go.Gx.Own h' tPair 2 a L.length c (kvCells L)
theorem kvPut_spec {L : List KV} {a : Option Addr} {c : Nat} {h : Hp} (H : SliceAt h a (L.length * 2) (kvCells L)) (hc : L.length ≤ c) (hL : L.length < 4294967296) (k v : ByteArray) {K : Value → Hp → Prop}
    (hK : ∀ h' a' c', NewKV h h' a' c' (kvPut k v L) → K (.slice a' (kvPut k v L).length c') h') : CallsH Tryz.prog ref08_Put.id #[.slice a L.length c, .string k, .string v] h K := by
  apply ref08_Put.calls
  unfold ref08_Put.W
  have hle := kvAt_le k L
  have ei : ((kvAt k L : Nat) : Int).toNat = kvAt k L := rfl
  refine kvFind_spec H hL k ⟨_, _, rfl, by omega, by show ((kvAt k L : Nat) : Int) ≤ ((c : Nat) : Int); omega, kvCells (L.take (kvAt k L)), ?_, ?_⟩
  · have := kv_part H (c := c) (i := 0) (n := kvAt k L) hc (by omega)
    rw [List.drop_zero] at this; exact this
  have hl1 : (L.take (kvAt k L)).length = kvAt k L := by rw [List.length_take]; omega
  rw [ei]
  refine ⟨fun a' c' x => Sub h x ∧ (∀ b, blkOf a' b → h b = none) ∧ Go.Gx.Own x tPair 2 a' (0 + kvAt k L) c' ([] ++ kvCells (L.take (kvAt k L))), ?_,
    append_new appTP (Sub.refl h) (by rintro b ⟨o, s, e⟩; cases e) (Own.nil _ _ _) (by rw [kvCells_length, hl1]) (kvCells_plain _) (by omega) fun a' c' x g1 g2 g3 => ⟨g1, g2, g3⟩⟩
  rintro a1 c1 x1 ⟨hs1, hf1, ho1⟩ k10 hk10
  refine ⟨kvCells [(k, v)], (Blk.new _ _ _ (kvCells [(k, v)])).slice rfl, fun a' c' x => Sub h x ∧ (∀ b, blkOf a' b → h b = none) ∧ Go.Gx.Own x tPair 2 a' (0 + kvAt k L + 1) c' ([] ++ kvCells (L.take (kvAt k L)) ++ kvCells [(k, v)]), ?_,
    append_new appTP (hs1.trans (Sub.upd hk10 _)) hf1 (ho1.sub (Sub.upd hk10 _)) rfl (kvCells_plain _) (by omega) fun a' c' x g1 g2 g3 => ⟨g1, g2, g3⟩⟩
  rintro a2 c2 x2 ⟨hs2, hf2, ho2⟩
  have hlen := kvPut_len k v L
  have fin : ∀ (i : Nat), i ≤ L.length → i = (if kvIs k L then kvAt k L + 1 else kvAt k L) → ∀ (n : Int), n = (i : Int) → (0 ≤ n ∧ n ≤ Int.ofNat L.length ∧ ∃ xs, SliceAt x2 (slA c n.toNat 2 a) ((L.length - n.toNat) * 2) xs ∧ ∃ J : Option Addr → Nat → Hp → Prop, (∀ a' c' x, J a' c' x → K (.slice a' (0 + kvAt k L + 1 + (L.length - n.toNat)) c') x) ∧ appendC Tryz.prog tPair a2 (0 + kvAt k L + 1) c2 x2 xs (L.length - n.toNat) J) := by
    intro i hi hie n hn
    subst hn
    have en : ((i : Nat) : Int).toNat = i := rfl
    rw [en]
    refine ⟨by omega, by show ((i : Nat) : Int) ≤ ((L.length : Nat) : Int); omega, kvCells (L.drop i), ?_, fun a' c' x => NewKV h x a' c' (kvPut k v L), ?_, ?_⟩
    · have := kv_part (H.sub hs2) (c := c) (i := i) (n := L.length - i) hc (by omega)
      rw [List.take_of_length_le (by simp)] at this
      exact this
    · intro a' c' x hx
      have e : 0 + kvAt k L + 1 + (L.length - i) = (kvPut k v L).length := by rw [hlen, ← hie]; omega
      rw [e]
      exact hK x a' c' hx
    · refine append_new appTP hs2 hf2 ho2 (by rw [kvCells_length, List.length_drop]) (kvCells_plain _) (by omega) fun a' c' x g1 g2 g3 => ⟨g1, g2, ?_⟩
      have e : 0 + kvAt k L + 1 + (L.length - i) = (kvPut k v L).length := by rw [hlen, ← hie]; omega
      rw [e] at g3
      have e2 : [] ++ kvCells (L.take (kvAt k L)) ++ kvCells [(k, v)] ++ kvCells (L.drop i) = kvCells (kvPut k v L) := by
        unfold kvPut
        rw [← hie, List.nil_append, ← kvCells_append, ← kvCells_append, List.append_assoc]; rfl
      rw [e2] at g3
      exact g3
  refine split_cond (fun h1 => ?_) (fun h1 => ?_)
  · have hlt := kvAt_lt h1
    exact fin (kvAt k L + 1) (by omega) (by rw [if_pos h1]) _ (by rw [wid (by omega) (by omega)]; omega)
  · exact fin (kvAt k L) (by omega) (by rw [if_neg (by rw [h1]; decide)]) _ rfl
theorem kvDrop_spec {L : List KV} {a : Option Addr} {c : Nat} {h : Hp} (H : SliceAt h a (L.length * 2) (kvCells L)) (hc : L.length ≤ c) (hL : L.length < 4294967296) (k : ByteArray) {K : Value → Hp → Prop}
    (h1 : kvIs k L = false → K (.tuple #[.slice a L.length c, .bool false]) h)
    (h2 : kvIs k L = true → ∀ h' a' c', NewKV h h' a' c' (kvDrop k L) → K (.tuple #[.slice a' (kvDrop k L).length c', .bool true]) h') : CallsH Tryz.prog ref08_Drop.id #[.slice a L.length c, .string k] h K := by
  apply ref08_Drop.calls
  unfold ref08_Drop.W
  have hle := kvAt_le k L
  have ei : ((kvAt k L : Nat) : Int).toNat = kvAt k L := rfl
  refine kvFind_spec H hL k ⟨_, _, rfl, split_not (fun g => h1 g) (fun g => ?_)⟩
  have hlt := kvAt_lt g
  have hl1 : (L.take (kvAt k L)).length = kvAt k L := by rw [List.length_take]; omega
  have w1 : IntKind.i64.wrap (((kvAt k L : Nat) : Int) + 1) = ((kvAt k L + 1 : Nat) : Int) := by rw [wid (by omega) (by omega)]; omega
  have ei1 : ((kvAt k L + 1 : Nat) : Int).toNat = kvAt k L + 1 := rfl
  rw [ei, w1, ei1]
  refine ⟨by omega, by show ((kvAt k L : Nat) : Int) ≤ ((c : Nat) : Int); omega, kvCells (L.take (kvAt k L)), ?_, ?_⟩
  · have := kv_part H (c := c) (i := 0) (n := kvAt k L) hc (by omega)
    rw [List.drop_zero] at this; exact this
  refine ⟨fun a' c' x => Sub h x ∧ (∀ b, blkOf a' b → h b = none) ∧ Go.Gx.Own x tPair 2 a' (0 + kvAt k L) c' ([] ++ kvCells (L.take (kvAt k L))), ?_,
    append_new appTP (Sub.refl h) (by rintro b ⟨o, s, e⟩; cases e) (Own.nil _ _ _) (by rw [kvCells_length, hl1]) (kvCells_plain _) (by omega) fun a' c' x g1 g2 g3 => ⟨g1, g2, g3⟩⟩
  rintro a1 c1 x1 ⟨hs1, hf1, ho1⟩
  have hd : kvDrop k L = L.take (kvAt k L) ++ L.drop (kvAt k L + 1) := by unfold kvDrop; rw [if_pos g]
  have e : 0 + kvAt k L + (L.length - (kvAt k L + 1)) = (kvDrop k L).length := by rw [hd, List.length_append, List.length_drop, hl1]; omega
  refine ⟨by omega, by show ((kvAt k L + 1 : Nat) : Int) ≤ ((L.length : Nat) : Int); omega, kvCells (L.drop (kvAt k L + 1)), ?_, fun a' c' x => NewKV h x a' c' (kvDrop k L), ?_, ?_⟩
  · have := kv_part (H.sub hs1) (c := c) (i := kvAt k L + 1) (n := L.length - (kvAt k L + 1)) hc (by omega)
    rw [List.take_of_length_le (by simp)] at this
    exact this
  · intro a' c' x hx
    rw [e]
    exact h2 g x a' c' hx
  · refine append_new appTP hs1 hf1 ho1 (by rw [kvCells_length, List.length_drop]) (kvCells_plain _) (by omega) fun a' c' x g1 g2 g3 => ⟨g1, g2, ?_⟩
    rw [e] at g3
    have e2 : [] ++ kvCells (L.take (kvAt k L)) ++ kvCells (L.drop (kvAt k L + 1)) = kvCells (kvDrop k L) := by
      rw [hd, List.nil_append, ← kvCells_append]
    rw [e2] at g3
    exact g3
theorem kvRange_spec {L : List KV} {a : Option Addr} {c : Nat} {h : Hp} (H : SliceAt h a (L.length * 2) (kvCells L)) (hL : L.length < 4294967296) (k1 k2 : ByteArray) (most : Nat) {K : Value → Hp → Prop}
    (hK : ∀ h' a' c', NewKV h h' a' c' (kvRange k1 k2 most L) → K (.slice a' (kvRange k1 k2 most L).length c') h') : CallsH Tryz.prog ref08_Range.id #[.slice a L.length c, .string k1, .string k2, .int .i64 most] h K := by
  apply ref08_Range.calls
  unfold ref08_Range.W
  refine ⟨fun a' l' c' n x m => ∃ i : Nat, n = (i : Int) ∧ i ≤ L.length ∧ m = L.length - i ∧ l' = (kvRange k1 k2 most (L.take i)).length ∧ NewKV h x a' c' (kvRange k1 k2 most (L.take i)),
    ⟨_, 0, rfl, by omega, rfl, by simp [kvRange], Sub.refl _, (by rintro b ⟨o, s, e⟩; cases e), ?_⟩, ?_⟩
  · have : kvRange k1 k2 most (L.take 0) = [] := by simp [kvRange]
    rw [this]; exact Own.nil _ _ _
  rintro a' l' c' n x m ⟨i, rfl, hi, rfl, rfl, hs, hf, ho⟩
  refine split_dec (fun g1 => ?_) (fun g1 => ?_)
  · have g1' : i < L.length := by have : (i : Int) < ((L.length : Nat) : Int) := g1; omega
    have hp : L[i]? = some L[i] := List.getElem?_eq_getElem g1'
    obtain ⟨b, o, e, d1, d2⟩ := kv_cell (H.sub hs) hp
    have ei : ((i : Nat) : Int).toNat = i := rfl
    have w1 : IntKind.i64.wrap ((i : Int) + 1) = ((i + 1 : Nat) : Int) := by rw [wid (by omega) (by omega)]; omega
    have ht : L.take (i + 1) = L.take i ++ [L[i]] := by rw [List.take_add_one, hp]; rfl
    have hll : (kvRange k1 k2 most (L.take i)).length ≤ i := by
      unfold kvRange
      rw [List.length_take]
      have := List.length_filter_le (kvIn k1 k2) (L.take i)
      rw [List.length_take] at this; omega
    have stay : (kvIn k1 k2 L[i] = false ∨ most ≤ (kvRange k1 k2 most (L.take i)).length) → kvRange k1 k2 most (L.take (i + 1)) = kvRange k1 k2 most (L.take i) := by
      intro hh
      unfold kvRange at hh ⊢
      rw [ht, List.filter_append]
      rcases hh with hh | hh
      · rw [List.filter_cons_of_neg (by rw [hh]; decide), List.filter_nil, List.append_nil]
      · rw [List.length_take] at hh
        rw [List.take_append_of_le_length (by omega)]
    have go : kvIn k1 k2 L[i] = true → (kvRange k1 k2 most (L.take i)).length < most → kvRange k1 k2 most (L.take (i + 1)) = kvRange k1 k2 most (L.take i) ++ [L[i]] := by
      intro hh hm
      unfold kvRange at hm ⊢
      rw [ht, List.filter_append, List.filter_cons_of_pos hh, List.filter_nil]
      rw [List.length_take] at hm
      rw [List.take_of_length_le (l := (L.take i).filter (kvIn k1 k2) ++ [L[i]]) (by rw [List.length_append, List.length_cons, List.length_nil]; omega), List.take_of_length_le (l := (L.take i).filter (kvIn k1 k2)) (by omega)]
    rw [ei, w1]
    have skip : (kvIn k1 k2 L[i] = false ∨ most ≤ (kvRange k1 k2 most (L.take i)).length) → ∃ k, k < L.length - i ∧ (∃ j : Nat, ((i + 1 : Nat) : Int) = (j : Int) ∧ j ≤ L.length ∧ k = L.length - j ∧ (kvRange k1 k2 most (L.take i)).length = (kvRange k1 k2 most (L.take j)).length ∧ NewKV h x a' c' (kvRange k1 k2 most (L.take j))) := by
      intro hh
      refine ⟨_, ?_, i + 1, rfl, by omega, rfl, by rw [stay hh], by rw [stay hh]; exact ⟨hs, hf, ho⟩⟩
      omega
    refine ⟨by omega, g1, b, o, e, _, d1, ?_⟩
    rw [bltS_val]
    refine split_not (fun g2 => ⟨by omega, g1, b, o, e, _, d1, ?_⟩) (fun g2 => skip (.inl (by unfold kvIn; rw [g2]; rfl)))
    rw [bltS_val, beqS_val]
    refine split_cond (fun g3 => ?_) (fun g3 => skip (.inl (by unfold kvIn; rw [g2, g3]; rfl)))
    refine split_dec (fun g4 => ?_) (fun g4 => skip (.inr ?_))
    · have g4 : (kvRange k1 k2 most (L.take i)).length < most := by
        have : (((kvRange k1 k2 most (L.take i)).length : Nat) : Int) < (most : Int) := g4
        omega
      refine ⟨by omega, g1, b, o, e, _, d1, _, d2, fun k hk => ?_⟩
      have hgo := go (by unfold kvIn; rw [g2, g3]; rfl) g4
      refine ⟨kvCells [L[i]], (Blk.new _ _ _ (kvCells [L[i]])).slice rfl, fun a2 c2 y => NewKV h y a2 c2 (kvRange k1 k2 most (L.take (i + 1))), ?_, ?_⟩
      · intro a2 c2 y hy
        refine ⟨_, ?_, i + 1, rfl, by omega, rfl, by rw [hgo, List.length_append]; rfl, hy⟩
        omega
      · refine append_new appTP (hs.trans (Sub.upd hk _)) hf (ho.sub (Sub.upd hk _)) rfl (kvCells_plain _) (by omega) fun a2 c2 y u1 u2 u3 => ⟨u1, u2, ?_⟩
        rw [hgo, List.length_append, kvCells_append]
        exact u3
    · have : ¬ (((kvRange k1 k2 most (L.take i)).length : Nat) : Int) < (most : Int) := g4
      omega
  · have hie : i = L.length := by
      have : ¬ (i : Int) < ((L.length : Nat) : Int) := g1
      omega
    subst hie
    rw [List.take_length] at ho ⊢
    exact hK x a' c' ⟨hs, hf, ho⟩

theorem NewKV.row {h h' : Hp} {a : Option Addr} {c : Nat} {L : List KV} (N : NewKV h h' a c L) : NewR kvC 2 tPair h h' a c L := ⟨N.1, N.2.1, N.2.2⟩
end Go.Proofs.YthbogjbcecmopaaGreatDoor
namespace Go.Proofs.YthbogjbcecmopaaGreatDoor
open Go.Gx
set_option maxRecDepth 100000
set_option linter.unusedVariables false
variable {n : Nat} {D : Dk} {P P' : Pg} {h : Hp} {K : Value → Hp → Prop} {pb jb db : Nat} {S : Nat → Prop} {tb k : Nat}
theorem refMay_spec (k v : ByteArray) (hK : K (.bool (may k v)) h) : CallsH Tryz.prog ref08_May.id #[.string k, .string v] h K := by
  apply ref08_May.calls
  unfold ref08_May.W
  unfold may at hK
  refine split_dec (fun e1 => split_dec (fun e2 => ?_) fun e2 => ?_) fun e1 => ?_
  · have e1 : (k.size : Int) ≥ 1 := e1
    have e2 : (k.size : Int) ≤ 64 := e2
    rw [hb_eq]
    have : decide (Int.ofNat v.size ≤ 400) = decide (1 ≤ k.size ∧ k.size ≤ 64 ∧ v.size ≤ 400) := decide_eq_decide.2 ⟨fun h => by have h : (v.size : Int) ≤ 400 := h; omega, fun h => by show (v.size : Int) ≤ 400; omega⟩
    rw [this]; exact hK
  · have e2 : ¬ (k.size : Int) ≤ 64 := e2
    rw [decide_eq_false (by omega)] at hK; exact hK
  · have e1 : ¬ (k.size : Int) ≥ 1 := e1
    rw [decide_eq_false (by omega)] at hK; exact hK
theorem same_spec {L M : List KV} {a b : Option Addr} {c d : Nat} (H : SliceAt h a (L.length * 2) (kvCells L)) (G : SliceAt h b (M.length * 2) (kvCells M)) (hL : L.length < 4294967296) (e : L = M) (hK : K (.bool true) h) :
    CallsH Tryz.prog ref08_Same.id #[.slice a L.length c, .slice b M.length d] h K := by
  subst e
  apply ref08_Same.calls
  unfold ref08_Same.W
  refine split_ne (fun e => absurd rfl e) fun _ => ⟨fun i x m => x = h ∧ ∃ j : Nat, i = (j : Int) ∧ j ≤ L.length ∧ m = L.length - j, ⟨_, rfl, 0, rfl, Nat.zero_le _, rfl⟩, ?_⟩
  rintro i x m ⟨rfl, j, rfl, hj, rfl⟩
  refine split_dec (fun g => ?_) fun _ => hK
  have g : ((j : Nat) : Int) < ((L.length : Nat) : Int) := g
  obtain ⟨p, hp⟩ : ∃ p, L[j]? = some p := ⟨_, List.getElem?_eq_getElem (by omega)⟩
  obtain ⟨b1, o1, e1, c1, c2⟩ := kv_cell H hp
  obtain ⟨b2, o2, e2, d1, d2⟩ := kv_cell G hp
  refine ⟨by omega, g, b1, o1, e1, _, by rw [Int.toNat_natCast]; exact c1, _, by rw [Int.toNat_natCast]; exact c2, by omega, g, b2, o2, e2, _, by rw [Int.toNat_natCast]; exact d1, _, by rw [Int.toNat_natCast]; exact d2, ?_⟩
  have hh : ∀ s : ByteArray, beqS s s = true := fun s => by rw [beqS_val]; exact decide_eq_true rfl
  rw [hh, hh]
  refine split_not (fun e => by cases e) fun _ => ⟨L.length - (j + 1), by omega, rfl, j + 1, by rw [wid (by omega) (by omega)]; omega, by omega, rfl⟩
theorem kvGetR_spec {L : List KV} {a : Option Addr} {c : Nat} (H : SliceAt h a (L.length * 2) (kvCells L)) (hL : L.length < 4294967296) (k : ByteArray) (hK : K (.tuple #[.string ((kvGet k L).getD eB), .bool (kvGet k L).isSome]) h) : CallsH Tryz.prog ref08_Get.id #[.slice a L.length c, .string k] h K := by
  apply ref08_Get.calls
  unfold ref08_Get.W
  refine kvFind_spec H hL k ⟨_, _, rfl, ?_⟩
  cases hi : kvIs k L with
  | false =>
    have : kvGet k L = none := by unfold kvGet; rw [hi]; rfl
    rw [this] at hK
    exact split_not (fun _ => hK) fun e => by cases e
  | true =>
    have hlt := kvAt_lt hi
    obtain ⟨p, hp⟩ : ∃ p, L[kvAt k L]? = some p := ⟨_, List.getElem?_eq_getElem hlt⟩
    have : kvGet k L = some p.2 := by unfold kvGet; rw [hi, hp]; rfl
    rw [this] at hK
    obtain ⟨b1, o1, e1, c1, c2⟩ := kv_cell H hp
    exact split_not (fun e => by cases e) fun _ => ⟨by omega, by show ((kvAt k L : Nat) : Int) < ((L.length : Nat) : Int); omega, b1, o1, e1, _, by rw [Int.toNat_natCast]; exact c2, hK⟩
theorem light_spec (a b c : Int) (x y z : ByteArray) (hF : K (.bool false) h) (hT : x.size ≤ 500 → y.size ≤ 500 → z.size ≤ 1000 → K (.bool true) h) : CallsH Tryz.prog law15_light.id #[.agg #[.int .i64 a, .int .i64 b, .int .i64 c, .string x, .string y, .string z]] h K := by
  apply law15_light.calls
  unfold law15_light.W
  refine split_dec (fun e1 => split_dec (fun e2 => ?_) fun _ => hF) fun _ => hF
  have e1 : (x.size : Int) ≤ 500 := e1
  have e2 : (y.size : Int) ≤ 500 := e2
  rw [hb_eq]
  by_cases e3 : Int.ofNat z.size ≤ 1000
  · rw [decide_eq_true e3]
    have e3 : (z.size : Int) ≤ 1000 := e3
    exact hT (by omega) (by omega) (by omega)
  · rw [decide_eq_false e3]; exact hF
theorem newPg_tree (n : Nat) (D : Dk) (k : Nat) : TreeS (newPg.pgs D n) (newPg.now.r k) 0 [] [] := ⟨rfl, rfl, rfl⟩
theorem root0 {hg : Nat} {L : List KV} {I : List Nat} (TT : TreeS (P.pgs D n) (P.now.r k) hg L I) : 0 ∉ I := fun h0 => by
  have := pgs_lt (D := D) (P := P) (TT.used 0 h0)
  omega
theorem TreeS.nil {pg : Nat → Option Nd} {root hg : Nat} {I : List Nat} (T : TreeS pg root hg [] I) : hg = 0 ∧ root = 0 ∧ I = [] := by
  cases hg with
  | zero => exact ⟨rfl, T.1, T.2.2⟩
  | succ m => exact absurd rfl T.2.2.2.2.2
set_option maxHeartbeats 2000000 in
theorem lives_spec (hK : ∀ h', Sub h h' → K (.bool true) h') : CallsH Tryz.prog law15_lives.id #[] h K := by
  apply law15_lives.calls
  unfold law15_lives.W
  refine opened_spec 4 (by decide) (by decide) fun h2 tb pb jb db S s2 E fr T n2 nt => ⟨_, _, _, rfl, ?_⟩
  have f0 : newPg.freeN 4 = 3 := by decide
  have m0 : may (bytesL [97]) (bytesL [120]) = true := by decide
  refine ⟨fun x => ∃ P1 hg1 I1, PgAt x pb jb db S 4 (Dk.new (8 * 4 + 1)) P1 ∧ Keep S h2 x ∧ TreeS (P1.pgs (Dk.new (8 * 4 + 1)) 4) (P1.now.r 1) hg1 (kvPut (bytesL [97]) (bytesL [120]) []) I1 ∧ MvT 4 (Dk.new (8 * 4 + 1)) 1 newPg P1 [] I1 ∧ I1.length = 1, ?_, split_cond (fun e => by cases e) fun _ => ?_⟩
  · rintro x ⟨P1, hg1, I1, E1, kp1, TT, M1, l1⟩
    have T1 : TrAt x tb pb 1 := Blk.keep T kp1 nt
    have kg : kvGet (bytesL [97]) (kvPut (bytesL [97]) (bytesL [120]) []) = some (bytesL [120]) := by decide
    have fr1 := M1.free
    refine get_spec E1 T1 (by decide) TT.tree _ fun h9 s9 => ⟨_, _, rfl, ?_⟩
    rw [kg]
    refine split_beqS (fun _ => split_cond (fun _ => ?_) fun e => by cases e) fun e => absurd rfl e
    have E9 := E1.sub s9
    have T9 : TrAt h9 tb pb 1 := Blk.sub T1 s9
    refine drop_spec E9 T9 nt (by decide) TT (fun t ht htk hi => ?_) _ (fun e => absurd e (by decide)) fun _ h13 P2 hg2 I2 E2 kp2 TT2 M2 fr2 => ⟨_, rfl, split_cond (fun _ => ?_) fun e => by cases e⟩
    · have : P1.now.r t = 0 := M1.roots t htk
      rw [this] at hi
      exact root0 TT hi
    · have e0 : kvDrop (bytesL [97]) (kvPut (bytesL [97]) (bytesL [120]) []) = [] := by decide
      rw [e0] at TT2
      obtain ⟨rfl, r0, rfl⟩ := TT2.nil
      have T2 : TrAt h13 tb pb 1 := Blk.keep T9 kp2 nt
      have fr3 := M2.free
      refine height_spec E2 T2 (by decide) TT2.tree (by decide) fun h16 s16 => ⟨_, rfl, split_eq (fun _ => free_spec (E2.sub s16) ⟨_, rfl, ?_⟩) fun e => absurd rfl e⟩
      have : P2.freeN 4 = 3 := by
        simp only [List.length_nil] at fr1 fr3
        omega
      have ev : hb (((3 : Nat) : Int) == 3) = true := by rw [hb_eq]; rfl
      rw [this, ev]
      refine hK _ ?_
      have k02 : Keep S h2 h16 := kp1.trans ((s9.keep S).trans (kp2.trans (s16.keep S)))
      exact k02.sub s2 fr
  · refine put_spec E T nt (by decide) (newPg_tree 4 _ 1) _ _ (fun e => absurd e (by decide)) (fun _ e => by omega) fun _ _ h22 P1 hg1 I1 E1 kp1 TT M1 l1 => ⟨_, rfl, split_ne (fun e => absurd rfl e) fun _ => ?_⟩
    have T1 : TrAt h22 tb pb 1 := Blk.keep T kp1 nt
    have hh := TT.high
    have h1 : 1 ≤ hg1 := by
      cases hg1 with
      | zero => exact absurd TT.2.1 (kvPut_ne _ _)
      | succ m => omega
    have l1 : I1.length ≤ 0 + 0 + 1 := l1
    have e1 : hg1 = 1 := by omega
    subst e1
    have fr1 := M1.free
    simp only [List.length_nil] at fr1
    refine height_spec E1 T1 (by decide) TT.tree (by decide) fun h25 s25 => ⟨_, rfl, split_ne (fun e => absurd rfl e) fun _ => free_spec (E1.sub s25) ⟨_, rfl, split_ne (fun e => absurd ?_ e) fun _ => ⟨P1, 1, I1, E1.sub s25, kp1.trans (s25.keep S), TT, M1, by omega⟩⟩⟩
    have : P1.freeN 4 = 2 := by omega
    rw [this]; rfl
theorem kvNx_le {key : ByteArray} {L : List KV} : (if kvIs key L then kvAt key L + 1 else kvAt key L) ≤ L.length := by
  have := kvAt_le key L
  split
  · rename_i e; have := kvAt_lt e; omega
  · omega
set_option maxHeartbeats 1000000 in
theorem beside_spec (E : PgAt h pb jb db S n D P) (T : TrAt h tb pb k) (hk : k < 4) {hg : Nat} {L : List KV} {I : List Nat} (TT : Tree (P.pgs D n) (P.now.r k) hg L I) {la : Option Addr} {lc : Nat} (H : SliceAt h la (L.length * 2) (kvCells L)) (hL : L.length < 4294967296) (key : ByteArray) (hkey : key.size ≤ 100000) (hK : ∀ h', Sub h h' → K (.bool true) h') :
    CallsH Tryz.prog law15_beside.id #[.pointer (some ⟨tb, 0, none⟩), .slice la L.length lc, .string key] h K := by
  have hs := (TT.small (pgs_ok E)).2
  have hat := kvAt_le key L
  apply law15_beside.calls
  unfold law15_beside.W
  refine kvFind_spec H hL key ⟨_, _, rfl, prev_spec E T hk TT key fun h6 s6 => ⟨_, _, _, rfl, fun x => Sub h x, ?_, ?_⟩⟩
  · intro x sx
    refine ⟨fun i y => i = ((if kvIs key L then kvAt key L + 1 else kvAt key L : Nat) : Int) ∧ y = x, ?_, ?_⟩
    · rintro i y ⟨rfl, rfl⟩
      refine next_spec (E.sub sx) (Blk.sub T sx) hk TT key hkey fun h16 s16 => ⟨_, _, _, rfl, ?_⟩
      rw [nextGt_at hs]
      have sxx := sx.trans s16
      have hnx := kvNx_le (key := key) (L := L)
      generalize (if kvIs key L then kvAt key L + 1 else kvAt key L) = j at hnx
      cases hj : L[j]? with
      | none =>
        have : L.length ≤ j := List.getElem?_eq_none_iff.1 hj
        have ed : hb (decide (((j : Nat) : Int) < Int.ofNat L.length)) = false := by
          rw [hb_eq]
          exact decide_eq_false fun h => by have h : ((j : Nat) : Int) < ((L.length : Nat) : Int) := h; omega
        rw [ed]
        have hh : ∀ s : ByteArray, beqS s s = true := fun s => by rw [beqS_val]; exact decide_eq_true rfl
        refine split_cond (fun _ => split_cond (fun e => by cases e) fun _ => split_not (fun _ => ?_) fun e => by cases e) fun e => by cases e
        show K (.bool (beqS eB eB && (beqS eB eB && true))) h16
        rw [hh]
        exact hK h16 sxx
      | some p =>
        have hlt := (List.getElem?_eq_some_iff.1 hj).1
        have ed : hb (decide (((j : Nat) : Int) < Int.ofNat L.length)) = true := by
          rw [hb_eq]
          exact decide_eq_true (by show ((j : Nat) : Int) < ((L.length : Nat) : Int); omega)
        rw [ed]
        obtain ⟨b1, o1, e1, c1, c2⟩ := kv_cell (H.sub sxx) hj
        have hh : ∀ s : ByteArray, beqS s s = true := fun s => by rw [beqS_val]; exact decide_eq_true rfl
        refine split_cond (fun _ => split_cond (fun _ => ⟨by omega, by show ((j : Nat) : Int) < ((L.length : Nat) : Int); omega, b1, o1, e1, _, by rw [Int.toNat_natCast]; exact c1, _, by rw [Int.toNat_natCast]; exact c2, ?_⟩) fun e => by cases e) fun e => by cases e
        show bif beqS p.1 p.1 && (beqS p.2 p.2 && true) then _ else _
        rw [hh, hh]
        exact hK h16 sxx
    · cases hi : kvIs key L with
      | true => exact ⟨by rw [wid (by omega) (by omega)]; show _ = ((kvAt key L + 1 : Nat) : Int); omega, rfl⟩
      | false => exact ⟨rfl, rfl⟩
  · rw [lastLt_at hs]
    by_cases e0 : kvAt key L = 0
    · rw [if_pos e0, e0]
      have ev : hb (decide (((0 : Nat) : Int) > 0)) = false := by rw [hb_eq]; rfl
      rw [ev]
      have hh : ∀ s : ByteArray, beqS s s = true := fun s => by rw [beqS_val]; exact decide_eq_true rfl
      refine split_cond (fun e => by cases e) fun _ => split_cond (fun e => by cases e) fun _ => split_not (fun _ => ?_) fun e => by cases e
      show bif !(beqS eB eB && (beqS eB eB && true)) then _ else _
      rw [hh]
      exact split_not (fun e => by cases e) fun _ => s6
    · rw [if_neg e0]
      obtain ⟨p, hp⟩ : ∃ p, L[kvAt key L - 1]? = some p := ⟨_, List.getElem?_eq_getElem (by omega)⟩
      rw [hp]
      have ed : hb (decide (((kvAt key L : Nat) : Int) > 0)) = true := by
        rw [hb_eq]; exact decide_eq_true (by omega)
      have e1 : IntKind.i64.wrap (((kvAt key L : Nat) : Int) - 1) = ((kvAt key L - 1 : Nat) : Int) := by rw [wid (by omega) (by omega)]; omega
      rw [ed, e1]
      obtain ⟨b1, o1, e2, c1, c2⟩ := kv_cell (H.sub s6) hp
      have hh : ∀ s : ByteArray, beqS s s = true := fun s => by rw [beqS_val]; exact decide_eq_true rfl
      refine split_cond (fun e => by cases e) fun _ => split_cond (fun _ => ⟨by omega, by show ((kvAt key L - 1 : Nat) : Int) < ((L.length : Nat) : Int); omega, b1, o1, e2, _, by rw [Int.toNat_natCast]; exact c1, _, by rw [Int.toNat_natCast]; exact c2, ?_⟩) fun e => by cases e
      show bif !(beqS p.1 p.1 && (beqS p.2 p.2 && true)) then _ else _
      rw [hh, hh]
      exact split_not (fun e => by cases e) fun _ => s6
end Go.Proofs.YthbogjbcecmopaaGreatDoor
