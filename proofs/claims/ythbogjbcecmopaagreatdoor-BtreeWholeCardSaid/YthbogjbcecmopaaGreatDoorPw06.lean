/- What the pager's own steps make of the pages as nodes. Conditions: those that each lemma names. Slices that are cut to their length, and appends to them; nodes over them. Conditions: those that each lemma names. Cells replaced; what a put makes of a page. Conditions: those that each lemma names. A node stored, or parted and stored: what becomes of the trees. Conditions: those that each lemma names. Two pages put together: what becomes of the trees. Conditions: those that each lemma names. A node's entries: put, parted. Conditions: those that each contract names. What an insertion makes of the trees: steps of its law. Conditions: those that each lemma names. An entry put below a page. Conditions: the pager stands, the tree is right, as many pages are free as it may need. Put. Conditions: the pager stands, the tree is right. Two pages put together, if they fit. Conditions: the pager stands, the node above stands in memory. A key taken away below a page. Conditions: the pager stands, the tree is right, no page below is another root. Drop, Clear. Conditions: the pager stands, the tree is right, no page of it is another root. What the plain list's functions make of entries in a list. Conditions: the entries lie in memory as they are named; fewer than 2^32 of them. The law's own functions: what may be, the same entries, the example, those beside a key. Conditions: those that each contract names. What a commit leaves of the pages; a value; a put and what the map says of it; the entries from a key to another one. Conditions: those that each contract names. From a contract over heaps to a law's row: what a reading of arguments says of their cells, and what a call that keeps the old heap leaves. From a slice that a law is given to a row of elements. Conditions: the elements are of a type of numbers, bools, texts. The core of BtreePlays. Conditions: the operations lie in a row. Heads are read as they were written; what is on the disk behind a failure, as trees. Conditions: right heads. The core of BtreeWhole. Conditions: the operations, and what is picked, lie in rows. -/
import Derived.Test.YthbogjbcecmopaaGreatDoorPw05
import Derived.KernelRfl
import Derived.ProofKit
import Derived.OpenShut
import Derived.ChangeOld
import Derived.Below
import Derived.Carry
import Derived.Deep.Slices
namespace Go.Proofs.YthbogjbcecmopaaGreatDoor
open Go.Gx
set_option maxRecDepth 100000
set_option linter.unusedVariables false
variable {n : Nat} {D : Dk} {P P' : Pg}
theorem pgs_congr {i : Nat} (hu : P'.now.u i = P.now.u i) (hd : dget P'.d i = dget P.d i) : P'.pgs D n i = P.pgs D n i := by
  unfold Pg.pgs Pg.node Pg.why Pg.page
  rw [Int.toNat_natCast, hu, hd]
theorem pgs_write_ne {i j : Nat} {s : ByteArray} (h : j ≠ i) : (P.write i s).pgs D n j = P.pgs D n j :=
  pgs_congr rfl (by show dget (dset P.d i s) j = _; rw [dget_set, if_neg h])
theorem pgs_write_same {i : Nat} {nd : Nd} (hw : P.why n (i : Nat) = 0) (o : NdOk nd) : (P.write i (pageB nd)).pgs D n i = some nd := by
  have hw' : (P.write i (pageB nd)).why n (i : Nat) = 0 := hw
  unfold Pg.pgs Pg.node
  rw [if_pos hw', Int.toNat_natCast]
  unfold Pg.page
  show parseB ((dget (dset P.d i (pageB nd)) i).getD _) = _
  rw [dget_set, if_pos rfl]
  exact parse_page o
theorem pgs_alloc_ne {i j : Nat} (h : j ≠ i) : (P.alloc i).pgs D n j = P.pgs D n j :=
  pgs_congr (upU_ne _ _ h) (by show dget (dset P.d i _) j = _; rw [dget_set, if_neg h])
theorem pgs_give_ne {i j : Nat} (h : j ≠ i) : (P.give i).pgs D n j = P.pgs D n j :=
  pgs_congr (upU_ne _ _ h) (by show dget (ddel P.d i) j = _; rw [dget_del, if_neg h])
theorem freeN_alloc {i : Nat} (hu : P.now.u i = false) (j : Nat) : (P.alloc i).freeN j + (if i < j then 1 else 0) = P.freeN j := by
  induction j with
  | zero => rfl
  | succ j ih =>
    rw [freeN_step, freeN_step]
    show _ + (if upU P.now.u i true j = true then 0 else 1) + _ = _
    by_cases e : j = i
    · subst e
      rw [upU_same, hu, if_pos rfl, if_pos (by omega), if_neg (by decide)]
      rw [if_neg (by omega)] at ih
      omega
    · rw [upU_ne _ _ e]
      by_cases g : i < j
      · rw [if_pos (show i < j + 1 by omega)]
        rw [if_pos g] at ih
        omega
      · rw [if_neg (show ¬ i < j + 1 by omega)]
        rw [if_neg g] at ih
        omega
theorem freeN_give {i : Nat} (hu : P.now.u i = true) (j : Nat) : (P.give i).freeN j = P.freeN j + (if i < j then 1 else 0) := by
  induction j with
  | zero => rfl
  | succ j ih =>
    rw [freeN_step, freeN_step]
    show _ + (if upU P.now.u i false j = true then 0 else 1) = _
    by_cases e : j = i
    · subst e
      rw [upU_same, hu, if_pos (show j < j + 1 by omega), if_pos rfl, if_neg (by decide)]
      rw [if_neg (by omega)] at ih
      omega
    · rw [upU_ne _ _ e]
      by_cases g : i < j
      · rw [if_pos (show i < j + 1 by omega)]
        rw [if_pos g] at ih
        omega
      · rw [if_neg (show ¬ i < j + 1 by omega)]
        rw [if_neg g] at ih
        omega
structure Mv (n : Nat) (D : Dk) (P P' : Pg) (I I' : List Nat) : Prop where
  good : P'.good = P.good
  pts : P'.pts = P.pts
  ser : P'.now.s = P.now.s
  roots : P'.now.r = P.now.r
  out : ∀ i, P.now.u i = true → i ∉ I → P'.now.u i = true ∧ P'.pgs D n i = P.pgs D n i
  new : ∀ i ∈ I', i ∈ I ∨ P.now.u i = false
  free : P'.freeN n + I'.length = P.freeN n + I.length
theorem Mv.refl (n : Nat) (D : Dk) (P : Pg) (I : List Nat) : Mv n D P P I I := ⟨rfl, rfl, rfl, rfl, fun i h _ => ⟨h, rfl⟩, fun i h => .inl h, rfl⟩
theorem Mv.trans {P2 : Pg} {I I1 I2 : List Nat} (a : Mv n D P P' I I1) (b : Mv n D P' P2 I1 I2) : Mv n D P P2 I I2 := by
  have no : ∀ i, P.now.u i = true → i ∉ I → i ∉ I1 := fun i h1 h2 h3 => (a.new i h3).elim h2 fun h => by rw [h1] at h; cases h
  refine ⟨b.good.trans a.good, b.pts.trans a.pts, b.ser.trans a.ser, b.roots.trans a.roots, fun i h1 h2 => ?_, fun i hi => ?_, ?_⟩
  · obtain ⟨g1, g2⟩ := a.out i h1 h2
    obtain ⟨g3, g4⟩ := b.out i g1 (no i h1 h2)
    exact ⟨g3, g4.trans g2⟩
  · rcases b.new i hi with h | h
    · exact a.new i h
    · by_cases h1 : P.now.u i = true
      · by_cases h2 : i ∈ I
        · exact .inl h2
        · rw [(a.out i h1 h2).1] at h; cases h
      · exact .inr (by simpa using h1)
  · have := a.free
    have := b.free
    omega
theorem Mv.lift {A A' I I' : List Nat} (M : Mv n D P P' A A') (h1 : ∀ i ∈ A, i ∈ I) (h2 : ∀ i ∈ I', i ∈ A' ∨ i ∈ I) (hl : I'.length + A.length = I.length + A'.length) : Mv n D P P' I I' := by
  refine ⟨M.good, M.pts, M.ser, M.roots, fun i g1 g2 => M.out i g1 fun h => g2 (h1 i h), fun i hi => ?_, ?_⟩
  · rcases h2 i hi with h | h
    · exact (M.new i h).imp (h1 i) id
    · exact .inl h
  · have := M.free
    omega
theorem Mv.write {I : List Nat} {i : Nat} (hi : i ∈ I) (s : ByteArray) : Mv n D P (P.write i s) I I :=
  ⟨rfl, rfl, rfl, rfl, fun j h1 h2 => ⟨h1, pgs_write_ne fun e => h2 (e ▸ hi)⟩, fun j h => .inl h, rfl⟩
theorem Mv.alloc {i : Nat} (hi : i < n) (hu : P.now.u i = false) (I : List Nat) : Mv n D P (P.alloc i) I (i :: I) := by
  refine ⟨rfl, rfl, rfl, rfl, fun j h1 h2 => ?_, fun j hj => ?_, ?_⟩
  · have : j ≠ i := fun e => by rw [e, hu] at h1; cases h1
    exact ⟨(upU_ne _ _ this).trans h1, pgs_alloc_ne this⟩
  · rcases List.mem_cons.1 hj with rfl | h
    · exact .inr hu
    · exact .inl h
  · have := freeN_alloc hu n
    rw [if_pos hi] at this
    rw [List.length_cons]; omega
theorem Mv.give {i : Nat} (hi : i < n) (hu : P.now.u i = true) (I : List Nat) : Mv n D P (P.give i) (i :: I) I := by
  refine ⟨rfl, rfl, rfl, rfl, fun j h1 h2 => ?_, fun j hj => .inl (List.mem_cons_of_mem _ hj), ?_⟩
  · have : j ≠ i := fun e => h2 (e ▸ List.mem_cons_self)
    exact ⟨(upU_ne _ _ this).trans h1, pgs_give_ne this⟩
  · have := freeN_give hu n
    rw [if_pos hi] at this
    rw [List.length_cons]; omega
theorem pgs_used {i : Nat} (e : (P.pgs D n i).isSome = true) : P.now.u i = true := by
  have := (why_iff.1 (pgs_why e)).1
  unfold Pg.used at this
  rw [Bool.and_eq_true_iff, Bool.and_eq_true_iff, Int.toNat_natCast] at this
  exact this.2.2
theorem Mv.apart {I I' R : List Nat} (M : Mv n D P P' I I') (hR : ∀ i ∈ R, (P.pgs D n i).isSome = true ∧ i ∉ I) : (∀ i ∈ R, P'.pgs D n i = P.pgs D n i) ∧ ∀ i ∈ R, i ∉ I' := by
  refine ⟨fun i hi => (M.out i (pgs_used (hR i hi).1) (hR i hi).2).2, fun i hi h => ?_⟩
  rcases M.new i h with h | h
  · exact (hR i hi).2 h
  · rw [pgs_used (hR i hi).1] at h; cases h
theorem TrS.in_pg {m id : Nat} {f t : ByteArray} (T : TrS (P.pgs D n) m id f t) {i : Nat} (hi : i ∈ ids (P.pgs D n) m id) : (P.pgs D n i).isSome = true := T.tr.in_pg i hi
theorem ChS.in_pg {m : Nat} {t : ByteArray} {K : List Cl} (h : ChP (TrS (P.pgs D n) m) t K) {i : Nat} (hi : i ∈ idsK (P.pgs D n) m K) : (P.pgs D n i).isSome = true := by
  obtain ⟨c, hc, hi⟩ := List.mem_flatMap.1 hi
  obtain ⟨f, t', T⟩ := ChP_at h hc
  exact T.in_pg hi
variable {h : Hp} {K : Value → Hp → Prop} {pb jb db : Nat} {S : Nat → Prop} {tb k : Nat}
theorem store_spec (E : PgAt h pb jb db S n D P) (T : TrAt h tb pb k) {kk : Nat} {a : Option Addr} {c : Nat} {nd : Nd} (N : NdEx h kk a c nd) (o : NdOk nd) {id : Nat} (hw : P.why n (id : Nat) = 0)
    (hK : ∀ h', PgAt h' pb jb db S n D (P.write id (pageB nd)) → Keep S h h' → K (.tuple #[]) h') : CallsH Tryz.prog btree_Tree_store.id #[.pointer (some ⟨tb, 0, none⟩), .int .i64 (id : Nat), .pointer (some ⟨kk, 0, none⟩)] h K := by
  apply btree_Tree_store.calls
  unfold btree_Tree_store.W
  refine ⟨_, T.cell' 0 rfl, nbytes_spec N o fun h1 s1 => ⟨_, rfl, s1, ?_⟩⟩
  refine pwrite_spec (E.sub s1) _ _ (fun e => absurd hw e) (fun _ e => absurd (pageB_size o) e) fun j ej _ _ h2 E2 st => ⟨_, rfl, ?_⟩
  have : id = j := by omega
  subst this
  exact hK h2 E2 ((s1.keep S).trans st.1)
end Go.Proofs.YthbogjbcecmopaaGreatDoor
namespace Go.Proofs.YthbogjbcecmopaaGreatDoor
open Go.Gx
set_option maxRecDepth 100000
set_option linter.unusedVariables false
theorem put_nil (h : Hp) (b o : Nat) : h.put b o [] = h := by
  unfold Hp.put
  split
  · rename_i cs t f hb
    funext c
    show (h.upd b (.cells cs t f)) c = h c
    by_cases e : c = b
    · rw [e, Hp.upd_same, hb]
    · rw [Hp.upd_ne _ _ e]
  · rfl
section
variable {α : Type} {f : α → List Value} {sz : Nat}
structure VwR (f : α → List Value) (sz : Nat) (h : Hp) (e : TypeId) (a : Option Addr) (c : Nat) (L : List α) : Prop where
  row : RowAt f sz h a L
  le : L.length ≤ c
  vw : (a = none ∧ c = 0) ∨ ∃ b ws, a = some ⟨b, 0, none⟩ ∧ Blk h b e ws ∧ c * sz ≤ ws.length
theorem own_vw {h : Hp} {e : TypeId} {a : Option Addr} {c : Nat} {L : List α} (O : OwnR f sz h e a c L) : VwR f sz h e a c L := by
  refine ⟨O.row, O.le, ?_⟩
  obtain ⟨h1, h2, h3⟩ := O
  rcases h3 with h3 | ⟨b, rest, e1, h3, h4⟩
  · exact .inl h3
  · refine .inr ⟨b, _, e1, h3, ?_⟩
    rw [List.length_append, h1, h4, ← Nat.add_mul]
    exact Nat.mul_le_mul_right _ (by omega)
theorem VwR.keep {S : Nat → Prop} {h h' : Hp} {e : TypeId} {a : Option Addr} {c : Nat} {L : List α} (H : VwR f sz h e a c L) (s : Keep S h h') (hn : ∀ c, blkOf a c → ¬ S c) : VwR f sz h' e a c L := by
  refine ⟨H.row.keep s hn, H.le, ?_⟩
  rcases H.vw with h1 | ⟨b, ws, e1, h1, h2⟩
  · exact .inl h1
  · exact .inr ⟨b, ws, e1, h1.keep s (hn b ⟨0, none, e1⟩), h2⟩
theorem VwR.sub {h h' : Hp} {e : TypeId} {a : Option Addr} {c : Nat} {L : List α} (H : VwR f sz h e a c L) (s : Sub h h') : VwR f sz h' e a c L := H.keep (S := fun _ => False) (s.keep _) fun _ _ h => h
theorem VwR.take (hf : ∀ x, (f x).length = sz) {h : Hp} {e : TypeId} {a : Option Addr} {c : Nat} {L : List α} (H : VwR f sz h e a c L) {i : Nat} (hi : i ≤ L.length) : VwR f sz h e a i (L.take i) ∨ (a = none ∧ i = 0) := by
  rcases H.vw with ⟨e1, e2⟩ | ⟨b, ws, e1, h1, h2⟩
  · right
    have := H.le
    exact ⟨e1, by omega⟩
  · left
    refine ⟨?_, by rw [List.length_take]; omega, .inr ⟨b, ws, e1, h1, Nat.le_trans (Nat.mul_le_mul_right _ (by have := H.le; omega)) h2⟩⟩
    have := H.row.part hf (i := 0) (n := i) H.le (by omega)
    rw [slA_zero, List.drop_zero] at this
    exact this
theorem VwR.in_heap {h : Hp} {e : TypeId} {a : Option Addr} {c : Nat} {L : List α} (H : VwR f sz h e a c L) {b : Nat} (hb : blkOf a b) : h b ≠ none := by
  obtain ⟨o, s, hb⟩ := hb
  rcases H.vw with ⟨e1, _⟩ | ⟨b', ws, e1, h3, _⟩
  · rw [e1] at hb; cases hb
  · rw [e1] at hb; cases hb
    rw [h3.get]; simp
theorem append_cap {P : Program} {e : TypeId} {by_ : Nat} (T : AppT P e sz by_) (hf : ∀ x, (f x).length = sz) (hp : ∀ x, plainP (f x)) {h : Hp} {a : Option Addr} {c : Nat} {L M : List α} {i n : Nat} {ys : List Value} {J : Option Addr → Nat → Hp → Prop} (V : VwR f sz h e a c L)
    (hi : i ≤ L.length) (hn : n = M.length) (hy : ys = rowC f M) (hb : (2 * (i + M.length) + 768) * by_ ≤ 281474976710656)
    (hJ : ∀ a' c' h', Sub h h' → VwR f sz h' e a' c' (L.take i ++ M) → (∀ b, blkOf a' b → blkOf a b ∨ h b = none) → (M ≠ [] → NewR f sz e h h' a' c' (L.take i ++ M)) → J a' c' h') : appendC P e a i i h ys n J := by
  subst hn; subst hy
  unfold appendC appendI
  have hok : (okT P e && Nat.blt 0 (byT P e)) = true := by
    rw [T.ok, T.by_]
    have := T.bpos
    simp [Nat.blt, Nat.ble_eq]; omega
  rw [hok]
  simp only [Bool.not_true, cond_false, T.sz, T.by_, leN, ltN, nadd, nmul, nsub]
  have tl : (L.take i).length = i := by rw [List.length_take]; omega
  refine ⟨fun hc => ?_, fun hc => ⟨hb, rowC f (L.take i), ?_, fun nc hnc => ?_⟩⟩
  · have hM : M = [] := List.length_eq_zero_iff.1 (by omega)
    subst hM
    rcases V.take hf hi with V' | ⟨rfl, rfl⟩
    · have hJ := hJ a i h (Sub.refl h) (by rw [List.append_nil]; exact V') (fun b hb => .inl hb) fun h => absurd rfl h
      rcases V'.vw with ⟨rfl, rfl⟩ | ⟨b, ws, e1, h1, h2⟩
      · exact .inl ⟨rfl, rfl, _, _, rfl, hJ⟩
      · subst e1
        refine .inr ⟨b, 0, rfl, ?_⟩
        unfold plainW storeH rowC
        refine ⟨h1.store (by rw [Nat.zero_add]; exact h2), ?_⟩
        rw [List.flatMap_nil, put_nil]
        exact ⟨_, _, rfl, hJ⟩
    · exact .inl ⟨rfl, rfl, _, _, rfl, hJ none 0 h (Sub.refl h) ⟨RowAt.nil h none, Nat.le_refl _, .inl ⟨rfl, rfl⟩⟩ (fun b ⟨o, s, e⟩ => by cases e) fun h => absurd rfl h⟩
  · have := V.row.part hf (i := 0) (n := i) V.le (by omega)
    rw [slA_zero, List.drop_zero] at this
    unfold RowAt at this
    rw [tl] at this
    exact this
  · unfold zeroCs
    obtain ⟨z, hz, hzl⟩ := T.zero
    rw [hz]
    simp only []
    have : Nat.beq (cellsOfV z).length (szT P e) = true := by rw [hzl, T.sz]; exact Nat.beq_refl _
    rw [this]
    simp only [cond_true]
    intro k hk
    refine ⟨_, _, rfl, ?_⟩
    have hblk := Blk.new h k e (rowC f (L.take i) ++ rowC f M ++ (List.replicate (nc - (i + M.length)) (cellsOfV z)).flatten)
    have own : OwnR f sz (h.upd k (.cells (rowC f (L.take i) ++ rowC f M ++ (List.replicate (nc - (i + M.length)) (cellsOfV z)).flatten).toArray e (0, 0))) e (some ⟨k, 0, none⟩) nc (L.take i ++ M) := by
      unfold OwnR
      rw [List.length_append, tl, rowC_append]
      refine ⟨?_, hnc, .inr ⟨k, _, rfl, hblk, by simp [hzl]⟩⟩
      rw [List.length_append, rowC_length hf, rowC_length hf, tl, Nat.add_mul]
    have s := Sub.upd hk (.cells (rowC f (L.take i) ++ rowC f M ++ (List.replicate (nc - (i + M.length)) (cellsOfV z)).flatten).toArray e (0, 0))
    exact hJ _ _ _ s (own_vw own) (fun b ⟨o, s, e2⟩ => by cases e2; exact .inr hk) fun _ => ⟨s, fun b ⟨o, s, e2⟩ => by cases e2; exact hk, own⟩
end
structure NdVw (h : Hp) (k : Nat) (a : Option Addr) (c : Nat) (nd : Nd) : Prop where
  blk : Blk h k 97 (ndC nd a c)
  vw : VwR enC 3 h 100 a c nd.l
  ne : ∀ b, blkOf a b → b ≠ k
theorem NdVw.ex {h : Hp} {k : Nat} {a : Option Addr} {c : Nat} {nd : Nd} (N : NdVw h k a c nd) : NdEx h k a c nd := ⟨N.blk, N.vw.row, N.vw.le, N.ne⟩
theorem NdOw.vw {h : Hp} {k : Nat} {a : Option Addr} {c : Nat} {nd : Nd} (N : NdOw h k a c nd) : NdVw h k a c nd := ⟨N.ex.blk, own_vw N.own, N.ex.ne⟩
theorem NdVw.keep {S : Nat → Prop} {h h' : Hp} {k : Nat} {a : Option Addr} {c : Nat} {nd : Nd} (N : NdVw h k a c nd) (s : Keep S h h') (h1 : ¬ S k) (h2 : ∀ b, blkOf a b → ¬ S b) : NdVw h' k a c nd := ⟨N.blk.keep s h1, N.vw.keep s h2, N.ne⟩
theorem NdVw.sub {h h' : Hp} {k : Nat} {a : Option Addr} {c : Nat} {nd : Nd} (N : NdVw h k a c nd) (s : Sub h h') : NdVw h' k a c nd := N.keep (S := fun _ => False) (s.keep _) (fun h => h) fun _ _ h => h
theorem NdVw.set {h h' : Hp} {k : Nat} {a a' : Option Addr} {c c' n : Nat} {nd : Nd} {L : List En} (N : NdVw h k a c nd) (s : Sub h h') (V : VwR enC 3 h' 100 a' c' L) (hn : n = L.length) (nb : ∀ b, blkOf a' b → blkOf a b ∨ h b = none) :
    StoreOk h' k 2 1 ∧ NdVw (h'.put k 2 [.slice a' n c']) k a' c' ⟨nd.leaf, nd.first, L⟩ ∧ Keep (fun c => c = k) h (h'.put k 2 [.slice a' n c']) := by
  subst hn
  have B := N.blk.sub s
  have ne' : ∀ b, blkOf a' b → b ≠ k := fun b hb e => by
    subst e
    rcases nb b hb with h1 | h1
    · exact N.ne b h1 rfl
    · have := N.blk; unfold Blk at this; rw [this] at h1; cases h1
  have kp : Keep (fun c => c = k) h' (h'.put k 2 [.slice a' L.length c']) := Keep.put _ _ _ _ rfl
  exact ⟨B.store (by show 2 + 1 ≤ 3; decide), ⟨B.put 2 [.slice a' L.length c'], V.keep kp ne', ne'⟩, (s.keep _).trans kp⟩
end Go.Proofs.YthbogjbcecmopaaGreatDoor
namespace Go.Proofs.YthbogjbcecmopaaGreatDoor
open Go.Gx
set_option maxRecDepth 100000
set_option linter.unusedVariables false
variable {n : Nat} {D : Dk} {P P' : Pg} {h : Hp} {K : Value → Hp → Prop} {pb jb db : Nat} {S : Nat → Prop} {tb k : Nat}
theorem idsK_one (pg : Nat → Option Nd) (m : Nat) (c : Cl) : idsK pg m [c] = ids pg m c.2 := by unfold idsK; simp
theorem nodup3 {A B C : List Nat} : (A ++ B ++ C).Nodup ↔ B.Nodup ∧ (A ++ C).Nodup ∧ ∀ i ∈ A ++ C, i ∉ B := by
  have : (A ++ B ++ C).Perm (B ++ (A ++ C)) := by
    rw [List.append_assoc]
    exact (List.perm_append_comm_assoc A B C)
  rw [this.nodup_iff, List.nodup_append]
  constructor
  · rintro ⟨h1, h2, h3⟩
    exact ⟨h1, h2, fun i hi hb => h3 i hb i hi rfl⟩
  · rintro ⟨h1, h2, h3⟩
    exact ⟨h1, h2, fun i hi j hj e => h3 j hj (e ▸ hi)⟩
theorem ChS.repl {m : Nat} {t : ByteArray} {K1 X X' K2 : List Cl} (h : ChP (TrS (P.pgs D n) m) t (K1 ++ X ++ K2)) (nd : (idsK (P.pgs D n) m (K1 ++ X ++ K2)).Nodup) (M : Mv n D P P' (idsK (P.pgs D n) m X) (idsK (P'.pgs D n) m X')) (hX : ChP (TrS (P'.pgs D n) m) (hdK t K2) X') (hh : hdK (hdK t K2) X' = hdK (hdK t K2) X) (nX : (idsK (P'.pgs D n) m X').Nodup) :
    ChP (TrS (P'.pgs D n) m) t (K1 ++ X' ++ K2) ∧ entsK (P'.pgs D n) m (K1 ++ X' ++ K2) = entsK (P.pgs D n) m K1 ++ entsK (P'.pgs D n) m X' ++ entsK (P.pgs D n) m K2 ∧ (idsK (P'.pgs D n) m (K1 ++ X' ++ K2)).Nodup ∧
      Mv n D P P' (idsK (P.pgs D n) m (K1 ++ X ++ K2)) (idsK (P'.pgs D n) m (K1 ++ X' ++ K2)) ∧ ((idsK (P'.pgs D n) m (K1 ++ X' ++ K2)).length + (idsK (P.pgs D n) m X).length = (idsK (P.pgs D n) m (K1 ++ X ++ K2)).length + (idsK (P'.pgs D n) m X').length) := by
  obtain ⟨h12, h3⟩ := ChP_append.1 h
  obtain ⟨h1, h2⟩ := ChP_append.1 h12
  have eI : idsK (P.pgs D n) m (K1 ++ X ++ K2) = idsK (P.pgs D n) m K1 ++ idsK (P.pgs D n) m X ++ idsK (P.pgs D n) m K2 := by rw [idsK_append, idsK_append]
  rw [eI] at nd ⊢
  obtain ⟨n1, n2, n3⟩ := nodup3.1 nd
  have ap := M.apart (R := idsK (P.pgs D n) m K1 ++ idsK (P.pgs D n) m K2) fun i hi => ⟨(List.mem_append.1 hi).elim (fun h => ChS.in_pg h1 h) (fun h => ChS.in_pg h3 h), n3 i hi⟩
  obtain ⟨a1, a2, a3⟩ := ChS.frame h1 fun i hi => ap.1 i (List.mem_append_left _ hi)
  obtain ⟨b1, b2, b3⟩ := ChS.frame h3 fun i hi => ap.1 i (List.mem_append_right _ hi)
  have ei : idsK (P'.pgs D n) m (K1 ++ X' ++ K2) = idsK (P.pgs D n) m K1 ++ idsK (P'.pgs D n) m X' ++ idsK (P.pgs D n) m K2 := by rw [idsK_append, idsK_append, a3, b3]
  have hl : (idsK (P.pgs D n) m K1 ++ idsK (P'.pgs D n) m X' ++ idsK (P.pgs D n) m K2).length + (idsK (P.pgs D n) m X).length = (idsK (P.pgs D n) m K1 ++ idsK (P.pgs D n) m X ++ idsK (P.pgs D n) m K2).length + (idsK (P'.pgs D n) m X').length := by
    simp only [List.length_append]; omega
  rw [ei]
  refine ⟨ChP_append.2 ⟨ChP_append.2 ⟨?_, hX⟩, b1⟩, by rw [entsK_append, entsK_append, a2, b2], nodup3.2 ⟨nX, n2, ap.2⟩, M.lift (fun i hi => List.mem_append_left _ (List.mem_append_right _ hi)) (fun i hi => ?_) hl, hl⟩
  · rw [hh]; exact a1
  · rcases List.mem_append.1 hi with hi | hi
    · rcases List.mem_append.1 hi with hi | hi
      · exact .inr (List.mem_append_left _ (List.mem_append_left _ hi))
      · exact .inl hi
    · exact .inr (List.mem_append_right _ hi)
theorem Mv.nonroot (E : POk n P) {I I' : List Nat} (M : Mv n D P P' I I') (hr : ∀ t, t < 4 → P.now.r t ∉ I) : ∀ t, t < 4 → P'.now.r t ∉ I' := fun t ht hi => by
  rw [M.roots] at hi
  rcases M.new _ hi with h | h
  · exact hr t ht h
  · by_cases e : P.now.r t = 0
    · rw [e, E.now.zero] at h; cases h
    · rw [(E.now.roots t ht).2 e] at h; cases h
structure EnsOk (nd : Nd) : Prop where
  en : ∀ e ∈ nd.l, EnOk nd.leaf e
  first : nd.first < 65536
  z : nd.leaf = true → nd.first = 0
theorem NdOk.ens {nd : Nd} (o : NdOk nd) : EnsOk nd := ⟨o.en, o.first, o.z⟩
theorem EnsOk.ok {nd : Nd} (o : EnsOk nd) (h : nd.size ≤ 1024) : NdOk nd := ⟨o.en, o.first, h, o.z⟩
theorem esz_le {lf : Bool} {e : En} (h : EnOk lf e) : 4 ≤ Nd.esz lf e ∧ Nd.esz lf e ≤ if lf then 467 else 67 := by
  have h2 := h.1
  unfold may at h2
  have h2 := of_decide_eq_true h2
  unfold Nd.esz
  cases lf with
  | true => rw [if_pos rfl, if_pos rfl]; omega
  | false => rw [if_neg (by decide), if_neg (by decide)]; omega
theorem eszs_len {lf : Bool} : ∀ {l : List En}, (∀ e ∈ l, EnOk lf e) → 4 * l.length ≤ eszs lf l
  | [], _ => Nat.zero_le _
  | e :: l, h => by
    have := eszs_len fun e' he => h e' (List.mem_cons_of_mem _ he)
    have := (esz_le (h e List.mem_cons_self)).1
    rw [eszs_cons, List.length_cons]; omega
def putL (x : En) (l : List En) : List En := l.take (kvAt x.key (l.map En.kv)) ++ x :: l.drop (if kvIs x.key (l.map En.kv) then kvAt x.key (l.map En.kv) + 1 else kvAt x.key (l.map En.kv))
theorem putL_kv (x : En) (l : List En) : (putL x l).map En.kv = kvPut x.key x.val (l.map En.kv) := by
  unfold putL kvPut
  rw [List.map_append, List.map_cons, List.map_take, List.map_drop]; rfl
theorem putL_mem {x e : En} {l : List En} (h : e ∈ putL x l) : e = x ∨ e ∈ l := by
  unfold putL at h
  rcases List.mem_append.1 h with h | h
  · exact .inr (List.mem_of_mem_take h)
  · rcases List.mem_cons.1 h with h | h
    · exact .inl h
    · exact .inr (List.mem_of_mem_drop h)
theorem eszs_drop_le (lf : Bool) (l : List En) (i : Nat) : eszs lf (l.drop i) ≤ eszs lf l := by
  conv => rhs; rw [← List.take_append_drop i l, eszs_append]
  omega
theorem putL_size (lf : Bool) (x : En) (l : List En) : eszs lf (putL x l) ≤ eszs lf l + Nd.esz lf x := by
  unfold putL
  have h : eszs lf l = eszs lf (l.take (kvAt x.key (l.map En.kv))) + eszs lf (l.drop (kvAt x.key (l.map En.kv))) := by rw [← eszs_append, List.take_append_drop]
  rw [eszs_append, eszs_cons, h]
  split
  · have := eszs_drop_le lf (l.drop (kvAt x.key (l.map En.kv))) 1
    rw [List.drop_drop] at this
    omega
  · omega
theorem putL_ok {f t : ByteArray} {x : En} {l : List En} (h : keysOk f t l) (hf : blt x.key f = false) (ht : below t x.key) : keysOk f t (putL x l) := by
  obtain ⟨h1, h2⟩ := keysOk_iff.1 h
  refine keysOk_iff.2 ⟨fun e he => ?_, ?_⟩
  · rcases putL_mem he with rfl | he
    · exact ⟨hf, ht⟩
    · exact h1 e he
  · rw [putL_kv]
    exact kvPut_sorted h2 _ _
def dropL (k : ByteArray) (l : List En) : List En := l.take (kvAt k (l.map En.kv)) ++ l.drop (kvAt k (l.map En.kv) + 1)
theorem dropL_kv {k : ByteArray} {l : List En} (h : kvIs k (l.map En.kv) = true) : (dropL k l).map En.kv = kvDrop k (l.map En.kv) := by
  unfold dropL kvDrop
  rw [if_pos h, List.map_append, List.map_take, List.map_drop]
theorem dropL_mem {k : ByteArray} {e : En} {l : List En} (h : e ∈ dropL k l) : e ∈ l := by
  unfold dropL at h
  rcases List.mem_append.1 h with h | h
  · exact List.mem_of_mem_take h
  · exact List.mem_of_mem_drop h
theorem dropL_size (lf : Bool) (k : ByteArray) (l : List En) : eszs lf (dropL k l) ≤ eszs lf l := by
  unfold dropL
  have h : eszs lf l = eszs lf (l.take (kvAt k (l.map En.kv))) + eszs lf (l.drop (kvAt k (l.map En.kv))) := by rw [← eszs_append, List.take_append_drop]
  have := eszs_drop_le lf (l.drop (kvAt k (l.map En.kv))) 1
  rw [List.drop_drop] at this
  rw [eszs_append, h]
  omega
theorem dropL_ok {f t k : ByteArray} {l : List En} (h : keysOk f t l) (hi : kvIs k (l.map En.kv) = true) : keysOk f t (dropL k l) := by
  obtain ⟨h1, h2⟩ := keysOk_iff.1 h
  refine keysOk_iff.2 ⟨fun e he => h1 e (dropL_mem he), ?_⟩
  rw [dropL_kv hi]
  exact kvDrop_sorted h2 _
theorem cut_at (lf : Bool) (l : List En) (half : Nat) (h : half ≤ Nd.base lf + eszs lf l) : ∃ q, q ≤ l.length ∧ half ≤ Nd.base lf + eszs lf (l.take q) ∧ ∀ j, j < q → Nd.base lf + eszs lf (l.take j) < half := by
  have : ∀ d, d ≤ l.length → (∀ j, j < l.length - d → Nd.base lf + eszs lf (l.take j) < half) → ∃ q, q ≤ l.length ∧ half ≤ Nd.base lf + eszs lf (l.take q) ∧ ∀ j, j < q → Nd.base lf + eszs lf (l.take j) < half := by
    intro d
    induction d with
    | zero => exact fun _ hj => ⟨l.length, Nat.le_refl _, by rw [List.take_length]; exact h, hj⟩
    | succ d ih =>
      intro hd hj
      by_cases e : Nd.base lf + eszs lf (l.take (l.length - (d + 1))) < half
      · refine ih (by omega) fun j hj2 => ?_
        by_cases e2 : j = l.length - (d + 1)
        · rw [e2]; exact e
        · exact hj j (by omega)
      · exact ⟨l.length - (d + 1), by omega, by omega, hj⟩
  exact this l.length (Nat.le_refl _) fun j hj => by omega
theorem eszs_take_succ {lf : Bool} {l : List En} {j : Nat} {e : En} (he : l[j]? = some e) : eszs lf (l.take (j + 1)) = eszs lf (l.take j) + Nd.esz lf e := by
  rw [List.take_add_one, he, eszs_append]; unfold eszs; simp
theorem eszs_split (lf : Bool) (l : List En) (j : Nat) : eszs lf l = eszs lf (l.take j) + eszs lf (l.drop j) := by rw [← eszs_append, List.take_append_drop]
theorem cut_parts {l : List En} {c : Nat} (h : c < l.length) : ∃ e l2, l = l.take c ++ e :: l2 ∧ l[c]? = some e ∧ l.drop c = e :: l2 ∧ (l.take c).length = c := by
  refine ⟨l[c], l.drop (c + 1), ?_, List.getElem?_eq_getElem h, List.drop_eq_getElem_cons h, by rw [List.length_take]; omega⟩
  rw [← List.drop_eq_getElem_cons h, List.take_append_drop]
theorem cut_leaf {l : List En} {q : Nat} (ok : ∀ e ∈ l, EnOk true e) (h1 : 1024 < 3 + eszs true l) (h2 : 3 + eszs true l ≤ 1491) (hq : q ≤ l.length) (g1 : (3 + eszs true l) / 2 ≤ 3 + eszs true (l.take q)) (g2 : ∀ j, j < q → 3 + eszs true (l.take j) < (3 + eszs true l) / 2)
    {c : Nat} (hc : c = if 1024 < 3 + eszs true (l.take q) then q - 1 else q) : 1 ≤ q ∧ 1 ≤ c ∧ c < l.length ∧ 3 + eszs true (l.take c) ≤ 1024 ∧ 3 + eszs true (l.drop c) ≤ 1024 := by
  have q1 : 1 ≤ q := by
    rcases Nat.eq_zero_or_pos q with e | e
    · subst e
      rw [List.take_zero] at g1
      have : eszs true [] = 0 := rfl
      omega
    · exact e
  have hlt : q - 1 < l.length := by omega
  have he : l[q - 1]? = some l[q - 1] := List.getElem?_eq_getElem hlt
  have e1 := eszs_take_succ (lf := true) he
  rw [show q - 1 + 1 = q by omega] at e1
  have e2 := (esz_le (ok _ (List.mem_of_getElem? he))).2
  rw [if_pos rfl] at e2
  have e3 := g2 (q - 1) (by omega)
  have sp := eszs_split true l c
  by_cases g : 1024 < 3 + eszs true (l.take q)
  · rw [if_pos g] at hc
    subst hc
    refine ⟨q1, ?_, by omega, by omega, by omega⟩
    rcases Nat.eq_zero_or_pos (q - 1) with e | e
    · have : eszs true (l.take (q - 1)) = 0 := by rw [e, List.take_zero]; rfl
      omega
    · exact e
  · rw [if_neg g] at hc
    subst hc
    refine ⟨q1, q1, ?_, by omega, by omega⟩
    rcases Nat.lt_or_ge c l.length with e | e
    · exact e
    · rw [List.take_of_length_le e] at g
      omega
theorem cut_inner {l : List En} {q : Nat} (ok : ∀ e ∈ l, EnOk false e) (h1 : 1024 < 5 + eszs false l) (h2 : 5 + eszs false l ≤ 1091) (hq : q ≤ l.length) (g1 : (5 + eszs false l) / 2 ≤ 5 + eszs false (l.take q)) (g2 : ∀ j, j < q → 5 + eszs false (l.take j) < (5 + eszs false l) / 2) :
    1 ≤ q ∧ q + 1 < l.length ∧ 5 + eszs false (l.take q) ≤ 1024 ∧ 5 + eszs false (l.drop (q + 1)) ≤ 1024 := by
  have q1 : 1 ≤ q := by
    rcases Nat.eq_zero_or_pos q with e | e
    · subst e
      rw [List.take_zero] at g1
      have : eszs false [] = 0 := rfl
      omega
    · exact e
  have hlt : q - 1 < l.length := by omega
  have he : l[q - 1]? = some l[q - 1] := List.getElem?_eq_getElem hlt
  have e1 := eszs_take_succ (lf := false) he
  rw [show q - 1 + 1 = q by omega] at e1
  have e2 := (esz_le (ok _ (List.mem_of_getElem? he))).2
  rw [if_neg (by decide)] at e2
  have e3 := g2 (q - 1) (by omega)
  have sp := eszs_split false l q
  have sp1 := eszs_split false l (q + 1)
  have lt : q < l.length := by
    rcases Nat.lt_or_ge q l.length with e | e
    · exact e
    · rw [List.take_of_length_le e] at e1
      omega
  have e4 := eszs_take_succ (lf := false) (List.getElem?_eq_getElem lt)
  have e5 := (esz_le (ok _ (List.getElem_mem lt))).2
  rw [if_neg (by decide)] at e5
  refine ⟨q1, ?_, by omega, by omega⟩
  rcases Nat.lt_or_ge (q + 1) l.length with e | e
  · exact e
  · rw [List.take_of_length_le e] at e4
    omega
end Go.Proofs.YthbogjbcecmopaaGreatDoor
namespace Go.Proofs.YthbogjbcecmopaaGreatDoor
open Go.Gx
set_option maxRecDepth 100000
set_option linter.unusedVariables false
variable {n : Nat} {D : Dk} {P P' : Pg}
theorem Fw.in_pg {m : Nat} {nd : Nd} {f t : ByteArray} (h : Fw (P.pgs D n) m nd f t) {i : Nat} (hi : i ∈ idsN (P.pgs D n) m nd) : (P.pgs D n i).isSome = true := by
  cases m with
  | zero => cases hi
  | succ m => exact ChS.in_pg h.2.2 hi
theorem store_law {m id : Nat} {nd : Nd} {f t : ByteArray} (h : Fw (P.pgs D n) m nd f t) (hn : Fn (P.pgs D n) m nd) (o : NdOk nd) (hw : P.why n (id : Nat) = 0) (hid : id ∉ idsN (P.pgs D n) m nd) (nN : (idsN (P.pgs D n) m nd).Nodup) :
    TrS ((P.write id (pageB nd)).pgs D n) m id f t ∧ ents ((P.write id (pageB nd)).pgs D n) m id = entsN (P.pgs D n) m nd ∧ ids ((P.write id (pageB nd)).pgs D n) m id = id :: idsN (P.pgs D n) m nd ∧
      (id :: idsN (P.pgs D n) m nd).Nodup ∧ Mv n D P (P.write id (pageB nd)) (id :: idsN (P.pgs D n) m nd) (id :: idsN (P.pgs D n) m nd) := by
  obtain ⟨g1, g2, g3⟩ := TrS.put (pg' := (P.write id (pageB nd)).pgs D n) (id := id) h hn (pgs_write_same hw o) fun i hi => pgs_write_ne fun e => hid (e ▸ hi)
  exact ⟨g1, g2, g3, List.nodup_cons.2 ⟨hid, nN⟩, Mv.write List.mem_cons_self _⟩
theorem why_alloc {i id : Nat} (hw : P.why n (id : Nat) = 0) : (P.alloc i).why n (id : Nat) = 0 := by
  obtain ⟨j, e, h1, h2, h3⟩ := why_ok hw
  refine why_i (by omega) (by omega) ?_
  show upU P.now.u i true id = true
  by_cases e2 : id = i
  · rw [e2, upU_same]
  · rw [upU_ne _ _ e2, show id = j by omega]; exact h3
theorem why_used {id : Nat} (hw : P.why n (id : Nat) = 0) : P.now.u id = true ∧ 1 ≤ id ∧ id < n := by
  obtain ⟨j, e, h1, h2, h3⟩ := why_ok hw
  rw [show id = j by omega]; exact ⟨h3, h1, h2⟩
theorem part_law {m id i : Nat} {lf : Bool} {fi : Nat} {l1 l2 : List En} {e : En} {f t : ByteArray} (h : Fw (P.pgs D n) m ⟨lf, fi, l1 ++ e :: l2⟩ f t) (hn : Fn (P.pgs D n) m ⟨lf, fi, l1 ++ e :: l2⟩) (o1 : NdOk ⟨lf, fi, l1⟩) (o2 : NdOk (rightN lf e l2)) (hw : P.why n (id : Nat) = 0)
    (hid : id ∉ idsN (P.pgs D n) m ⟨lf, fi, l1 ++ e :: l2⟩) (nN : (idsN (P.pgs D n) m ⟨lf, fi, l1 ++ e :: l2⟩).Nodup) (i1 : 1 ≤ i) (hi : i < n) (hu : P.now.u i = false) {P4 : Pg} (hP : P4 = ((P.alloc i).write id (pageB ⟨lf, fi, l1⟩)).write i (pageB (rightN lf e l2))) :
    TrS (P4.pgs D n) m id f e.key ∧ TrS (P4.pgs D n) m i e.key t ∧ ents (P4.pgs D n) m id = entsN (P.pgs D n) m ⟨lf, fi, l1⟩ ∧ ents (P4.pgs D n) m i = entsN (P.pgs D n) m (rightN lf e l2) ∧
      (ids (P4.pgs D n) m id ++ ids (P4.pgs D n) m i).Nodup ∧ Mv n D P P4 (id :: idsN (P.pgs D n) m ⟨lf, fi, l1 ++ e :: l2⟩) (ids (P4.pgs D n) m id ++ ids (P4.pgs D n) m i) ∧
      (ids (P4.pgs D n) m id ++ ids (P4.pgs D n) m i).length = (idsN (P.pgs D n) m ⟨lf, fi, l1 ++ e :: l2⟩).length + 2 := by
  have ins : ∀ j ∈ idsN (P.pgs D n) m ⟨lf, fi, l1 ++ e :: l2⟩, P.now.u j = true := fun j hj => pgs_used (h.in_pg hj)
  obtain ⟨g1, g2, g3, g4, g5⟩ := h.part
  obtain ⟨n1, n2⟩ := g5 hn
  obtain ⟨u1, u2, u3⟩ := why_used hw
  have ne : id ≠ i := fun e => by rw [e, hu] at u1; cases u1
  have inN : i ∉ idsN (P.pgs D n) m ⟨lf, fi, l1 ++ e :: l2⟩ := fun hj => by have := ins i hj; rw [hu] at this; cases this
  have pgj : ∀ j, j ≠ id → j ≠ i → P4.pgs D n j = P.pgs D n j := fun j h1 h2 => by rw [hP]; exact (pgs_write_ne h2).trans ((pgs_write_ne h1).trans (pgs_alloc_ne h2))
  have hw2 : ((P.alloc i).write id (pageB ⟨lf, fi, l1⟩)).why n (i : Nat) = 0 := why_i i1 hi (upU_same _ _ _)
  have pid : P4.pgs D n id = some ⟨lf, fi, l1⟩ := by rw [hP]; exact (pgs_write_ne ne).trans (pgs_write_same (why_alloc hw) o1)
  have pi : P4.pgs D n i = some (rightN lf e l2) := by rw [hP]; exact pgs_write_same hw2 o2
  rw [g4] at hid nN inN ins
  obtain ⟨a1, a2, a3⟩ := TrS.put (pg' := P4.pgs D n) g1 n1 pid fun j hj => pgj j (fun e => hid (e ▸ List.mem_append_left _ hj)) fun e => inN (e ▸ List.mem_append_left _ hj)
  obtain ⟨b1, b2, b3⟩ := TrS.put (pg' := P4.pgs D n) g2 n2 pi fun j hj => pgj j (fun e => hid (e ▸ List.mem_append_right _ hj)) fun e => inN (e ▸ List.mem_append_right _ hj)
  rw [a3, b3, g4]
  have hl : ∀ j, j ∈ (id :: idsN (P.pgs D n) m ⟨lf, fi, l1⟩) ++ i :: idsN (P.pgs D n) m (rightN lf e l2) ↔ j = i ∨ j = id ∨ j ∈ idsN (P.pgs D n) m ⟨lf, fi, l1⟩ ++ idsN (P.pgs D n) m (rightN lf e l2) := fun j => by
    simp only [List.mem_append, List.mem_cons]
    constructor
    · rintro ((h | h) | (h | h))
      · exact .inr (.inl h)
      · exact .inr (.inr (.inl h))
      · exact .inl h
      · exact .inr (.inr (.inr h))
    · rintro (h | h | h | h)
      · exact .inr (.inl h)
      · exact .inl (.inl h)
      · exact .inl (.inr h)
      · exact .inr (.inr h)
  have pm : ((id :: idsN (P.pgs D n) m ⟨lf, fi, l1⟩) ++ i :: idsN (P.pgs D n) m (rightN lf e l2)).Perm (i :: id :: (idsN (P.pgs D n) m ⟨lf, fi, l1⟩ ++ idsN (P.pgs D n) m (rightN lf e l2))) := List.perm_middle
  refine ⟨a1, b1, a2, b2, pm.nodup_iff.2 (List.nodup_cons.2 ⟨fun h => (List.mem_cons.1 h).elim (fun e => ne e.symm) inN, List.nodup_cons.2 ⟨hid, nN⟩⟩), ?_, ?_⟩
  · have M1 := Mv.alloc (D := D) hi hu (id :: (idsN (P.pgs D n) m ⟨lf, fi, l1⟩ ++ idsN (P.pgs D n) m (rightN lf e l2)))
    have M2 := Mv.write (n := n) (D := D) (P := P.alloc i) (I := i :: id :: (idsN (P.pgs D n) m ⟨lf, fi, l1⟩ ++ idsN (P.pgs D n) m (rightN lf e l2))) (i := id) (List.mem_cons_of_mem _ List.mem_cons_self) (pageB ⟨lf, fi, l1⟩)
    have M3 := Mv.write (n := n) (D := D) (P := (P.alloc i).write id (pageB ⟨lf, fi, l1⟩)) (I := i :: id :: (idsN (P.pgs D n) m ⟨lf, fi, l1⟩ ++ idsN (P.pgs D n) m (rightN lf e l2))) (i := i) List.mem_cons_self (pageB (rightN lf e l2))
    rw [← hP] at M3
    have M := (M1.trans M2).trans M3
    refine ⟨M.good, M.pts, M.ser, M.roots, M.out, fun j hj => M.new j (pm.mem_iff.1 hj), ?_⟩
    have := M.free
    rw [pm.length_eq]; exact this
  · rw [pm.length_eq]; simp
structure InsN (n : Nat) (D : Dk) (P P' : Pg) (m id : Nat) (f t : ByteArray) (L : List KV) (I : List Nat) (room : Nat) : Prop where
  tr : TrS (P'.pgs D n) m id f t
  es : ents (P'.pgs D n) m id = L
  nd : (ids (P'.pgs D n) m id).Nodup
  mv : Mv n D P P' I (ids (P'.pgs D n) m id)
  len : (ids (P'.pgs D n) m id).length ≤ I.length + room
structure InsS (n : Nat) (D : Dk) (P P' : Pg) (m id : Nat) (f t : ByteArray) (L : List KV) (I : List Nat) (room : Nat) (e : En) : Prop where
  tr : TrS (P'.pgs D n) m id f e.key
  tr2 : TrS (P'.pgs D n) m e.kid e.key t
  es : ents (P'.pgs D n) m id ++ ents (P'.pgs D n) m e.kid = L
  ne : ents (P'.pgs D n) m id ≠ []
  ne2 : ents (P'.pgs D n) m e.kid ≠ []
  nd : (ids (P'.pgs D n) m id ++ ids (P'.pgs D n) m e.kid).Nodup
  mv : Mv n D P P' I (ids (P'.pgs D n) m id ++ ids (P'.pgs D n) m e.kid)
  len : (ids (P'.pgs D n) m id ++ ids (P'.pgs D n) m e.kid).length ≤ I.length + room
  lo : blt f e.key = true
  hi : below t e.key
  ok : EnOk false e
end Go.Proofs.YthbogjbcecmopaaGreatDoor
namespace Go.Proofs.YthbogjbcecmopaaGreatDoor
open Go.Gx
set_option maxRecDepth 100000
set_option linter.unusedVariables false
variable {n : Nat} {D : Dk} {P P1 P' : Pg}
theorem Fw_empty {pg : Nat → Option Nd} {m : Nat} {nd : Nd} {f t : ByteArray} (h : Fw pg m nd f t) (hn : Fn pg m nd) (e : entsN pg m nd = []) : nd.l = [] := by
  cases m with
  | zero => exact List.map_eq_nil_iff.1 e
  | succ m =>
    have e : (entsK pg m (nd.cl eB)).flatten = [] := e
    cases hl : nd.l with
    | nil => rfl
    | cons x l =>
      refine absurd e (NA_ne hn ?_)
      unfold entsK Nd.cl
      rw [hl]; simp
theorem mergeN_size {a b : Nd} {s : ByteArray} (hl : a.leaf = b.leaf) : (mergeN a s b).size = (if a.leaf then 0 else 3 + s.size) + a.size + eszs a.leaf b.l := by
  unfold mergeN Nd.size
  cases e : a.leaf with
  | true =>
    show Nd.base true + eszs true (a.l ++ b.l) = 0 + (Nd.base true + eszs true a.l) + eszs true b.l
    rw [eszs_append]; omega
  | false =>
    show Nd.base false + eszs false (a.l ++ ⟨s, eB, b.first⟩ :: b.l) = (3 + s.size) + (Nd.base false + eszs false a.l) + eszs false b.l
    rw [eszs_append, eszs_cons]
    have : Nd.esz false ⟨s, eB, b.first⟩ = 3 + s.size := rfl
    rw [this]; omega
theorem mergeN_ens {a b : Nd} {s : ByteArray} (oa : EnsOk a) (ob : EnsOk b) (hl : a.leaf = b.leaf) (hs : may s eB = true) : EnsOk (mergeN a s b) := by
  refine ⟨fun e he => ?_, oa.first, oa.z⟩
  show EnOk a.leaf e
  have he : e ∈ if a.leaf then a.l ++ b.l else a.l ++ ⟨s, eB, b.first⟩ :: b.l := he
  have hb := ob.en
  rw [← hl] at hb
  cases e1 : a.leaf with
  | true =>
    rw [e1, if_pos rfl] at he
    rw [← e1]
    exact (List.mem_append.1 he).elim (oa.en e) (hb e)
  | false =>
    rw [e1, if_neg (by decide)] at he
    rw [← e1]
    rcases List.mem_append.1 he with he | he
    · exact oa.en e he
    · rcases List.mem_cons.1 he with rfl | he
      · rw [e1]; exact ⟨hs, ob.first, rfl⟩
      · exact hb e he
theorem may_key64 {k v : ByteArray} (h : may k v = true) : k.size ≤ 64 ∧ 1 ≤ k.size := by
  unfold may at h
  have := of_decide_eq_true h
  omega
theorem merge_fits {pg : Nat → Option Nd} {m : Nat} {a b : Nd} {f s t : ByteArray} (ha : Fw pg m a f s) (na : Fn pg m a) (hb : Fw pg m b s t) (nb : Fn pg m b) (hl : a.leaf = b.leaf) (hs : s.size ≤ 64) (e1 : entsN pg m a = []) (e2 : entsN pg m b = []) : (mergeN a s b).size ≤ 1024 := by
  rw [mergeN_size hl]
  unfold Nd.size
  rw [Fw_empty ha na e1, Fw_empty hb nb e2]
  have : eszs a.leaf [] = 0 := rfl
  rw [this]
  unfold Nd.base
  cases a.leaf with
  | true => rw [if_pos rfl, if_pos rfl]; omega
  | false => rw [if_neg (by decide), if_neg (by decide)]; omega
theorem join_law {m cid eid : Nat} {a b nd1 : Nd} {f s t : ByteArray} (pa : P.pgs D n cid = some a) (pb : P.pgs D n eid = some b) (nI : (ids (P.pgs D n) m cid ++ ids (P.pgs D n) m eid).Nodup)
    (wa : Fw (P.pgs D n) m a f s) (wb : Fw (P.pgs D n) m b s t) (h : Fw (P1.pgs D n) m nd1 f t) (hn : Fn (P1.pgs D n) m nd1) (o : NdOk nd1) (he : entsN (P1.pgs D n) m nd1 = entsN (P.pgs D n) m a ++ entsN (P.pgs D n) m b)
    (M : Mv n D P P1 (idsN (P.pgs D n) m a ++ idsN (P.pgs D n) m b) (idsN (P1.pgs D n) m nd1)) (nN : (idsN (P1.pgs D n) m nd1).Nodup) (fr : P.freeN n ≤ P1.freeN n) {P3 : Pg} (hP : P3 = (P1.write cid (pageB nd1)).give eid) :
    P1.why n (cid : Nat) = 0 ∧ (P1.write cid (pageB nd1)).why n (eid : Nat) = 0 ∧ TrS (P3.pgs D n) m cid f t ∧ ents (P3.pgs D n) m cid = ents (P.pgs D n) m cid ++ ents (P.pgs D n) m eid ∧ (ids (P3.pgs D n) m cid).Nodup ∧
      Mv n D P P3 (ids (P.pgs D n) m cid ++ ids (P.pgs D n) m eid) (ids (P3.pgs D n) m cid) ∧ P.freeN n ≤ P3.freeN n := by
  rw [ids_N pa, ids_N pb] at nI ⊢
  rw [ents_N pa, ents_N pb]
  have pm : ((cid :: idsN (P.pgs D n) m a) ++ eid :: idsN (P.pgs D n) m b).Perm (eid :: cid :: (idsN (P.pgs D n) m a ++ idsN (P.pgs D n) m b)) := List.perm_middle
  have n1 := List.nodup_cons.1 (pm.nodup_iff.1 nI)
  have n2 := List.nodup_cons.1 n1.2
  have ne : cid ≠ eid := fun e => n1.1 (e ▸ List.mem_cons_self)
  have ap := M.apart (R := [cid, eid]) fun i hi => by
    rcases List.mem_cons.1 hi with rfl | hi
    · exact ⟨by rw [pa]; rfl, n2.1⟩
    · rw [List.mem_singleton.1 hi]
      exact ⟨by rw [pb]; rfl, fun h => n1.1 (List.mem_cons_of_mem _ h)⟩
  have c1 : P1.pgs D n cid = some a := (ap.1 cid List.mem_cons_self).trans pa
  have e1 : P1.pgs D n eid = some b := (ap.1 eid (List.mem_cons_of_mem _ List.mem_cons_self)).trans pb
  have cN := ap.2 cid List.mem_cons_self
  have eN := ap.2 eid (List.mem_cons_of_mem _ List.mem_cons_self)
  have wc : P1.why n (cid : Nat) = 0 := pgs_why (by rw [c1]; rfl)
  have we : (P1.write cid (pageB nd1)).why n (eid : Nat) = 0 := pgs_why (P := P1) (D := D) (by rw [e1]; rfl)
  obtain ⟨u1, u2, u3⟩ := why_used we
  have pj : ∀ j, j ≠ cid → j ≠ eid → P3.pgs D n j = P1.pgs D n j := fun j h1 h2 => by rw [hP]; exact (pgs_give_ne h2).trans (pgs_write_ne h1)
  have pc : P3.pgs D n cid = some nd1 := by rw [hP]; exact (pgs_give_ne ne).trans (pgs_write_same wc o)
  obtain ⟨g1, g2, g3⟩ := TrS.put (pg' := P3.pgs D n) h hn pc fun j hj => pj j (fun e => cN (e ▸ hj)) fun e => eN (e ▸ hj)
  rw [g3]
  have M1 := M.lift (I := (cid :: idsN (P.pgs D n) m a) ++ eid :: idsN (P.pgs D n) m b) (I' := eid :: cid :: idsN (P1.pgs D n) m nd1) (fun i hi => pm.mem_iff.2 (List.mem_cons_of_mem _ (List.mem_cons_of_mem _ hi))) (fun i hi => by
      rcases List.mem_cons.1 hi with rfl | hi
      · exact .inr (pm.mem_iff.2 List.mem_cons_self)
      · rcases List.mem_cons.1 hi with rfl | hi
        · exact .inr (pm.mem_iff.2 (List.mem_cons_of_mem _ List.mem_cons_self))
        · exact .inl hi) (by rw [pm.length_eq]; simp only [List.length_cons]; omega)
  have M2 := Mv.write (n := n) (D := D) (P := P1) (I := eid :: cid :: idsN (P1.pgs D n) m nd1) (i := cid) (List.mem_cons_of_mem _ List.mem_cons_self) (pageB nd1)
  have M3 := Mv.give (D := D) u3 u1 (cid :: idsN (P1.pgs D n) m nd1)
  rw [← hP] at M3
  refine ⟨wc, we, g1, g2.trans he, List.nodup_cons.2 ⟨cN, nN⟩, (M1.trans M2).trans M3, ?_⟩
  have := freeN_give (P := P1.write cid (pageB nd1)) u1 n
  rw [← hP] at this
  have h2 : (P1.write cid (pageB nd1)).freeN n = P1.freeN n := rfl
  omega
end Go.Proofs.YthbogjbcecmopaaGreatDoor
namespace Go.Proofs.YthbogjbcecmopaaGreatDoor
open Go.Gx
set_option maxRecDepth 100000
set_option linter.unusedVariables false
variable {n : Nat} {D : Dk} {P : Pg} {h : Hp} {K : Value → Hp → Prop} {pb jb db : Nat} {S : Nat → Prop} {tb k : Nat}
theorem nput_spec {kk : Nat} {a : Option Addr} {c : Nat} {nd : Nd} (N : NdVw h kk a c nd) (x : En) {i : Nat} (hi : i ≤ nd.l.length) (hl : nd.l.length < 65536)
    (hK : ∀ h' a' c', NdVw h' kk a' c' ⟨nd.leaf, nd.first, nd.l.take i ++ x :: nd.l.drop i⟩ → Keep (fun c => c = kk) h h' → (∀ b, blkOf a' b → h b = none) → K (.tuple #[]) h') :
    CallsH Tryz.prog btree_node_put.id #[.pointer (some ⟨kk, 0, none⟩), .int .i64 (i : Nat), .agg #[.string x.key, .string x.val, .int .i64 (x.kid : Nat)]] h K := by
  have le := N.vw.le
  apply btree_node_put.calls
  unfold btree_node_put.W
  refine ⟨_, _, _, N.ex.c2, by omega, by show (i : Int) ≤ (c : Int); omega, by omega, by show ((i : Nat) : Int) ≤ ((((i : Nat) : Int).toNat : Nat) : Int); omega, _, _, _, N.ex.c2, by omega, by show (i : Int) ≤ (nd.l.length : Int); omega, fun k7 hk7 => ?_⟩
  rw [Int.toNat_natCast, slA_zero]
  have s7 := Sub.upd hk7 (.cells (enC x).toArray 100 (0, 0))
  have B7 := Blk.new h k7 100 (enC x)
  refine ⟨s7, _, B7.slice rfl, fun a' c' h' => NewR enC 3 100 h h' a' c' (nd.l.take i ++ [x]), ?_, append_cap appTEn enC_len enC_plain (N.vw.sub s7) hi (M := [x]) rfl (rowC_one _).symm (by show (2 * (i + 1) + 768) * 40 ≤ _; omega) fun a' c' h' s V nb NR => (NR (by simp)).back s7⟩
  intro a' c' h' R
  have Nh := N.sub R.sub
  have V2 := Nh.vw.row.part enC_len (i := i) (n := nd.l.length - i) Nh.vw.le (by omega)
  have hd : (nd.l.drop i).length = nd.l.length - i := List.length_drop
  rw [List.take_of_length_le (Nat.le_of_eq hd)] at V2
  unfold RowAt at V2
  rw [hd] at V2
  have hln : (nd.l.take i ++ [x]).length = i + 1 := by rw [List.length_append, List.length_take, Nat.min_eq_left hi]; rfl
  refine ⟨R.sub, _, V2, fun a'' c'' h'' => NewR enC 3 100 h h'' a'' c'' (nd.l.take i ++ x :: nd.l.drop i), ?_, append_row appTEn enC_len enC_plain R (M := nd.l.drop i) hln.symm hd.symm rfl (by rw [hln, hd]; omega) fun a'' c'' h'' R2 => by rw [List.append_assoc] at R2; exact R2⟩
  intro a'' c'' h'' R2
  obtain ⟨g1, g2, g3⟩ := N.set (n := i + 1 + (nd.l.length - i)) R2.sub (own_vw R2.own) (by rw [List.length_append, List.length_cons, List.length_take, List.length_drop]; omega) fun b hb => .inr (R2.new b hb)
  exact ⟨g1, hK _ _ _ g2 g3 R2.new⟩
theorem NdVw.view {kk : Nat} {a : Option Addr} {c : Nat} {nd : Nd} (N : NdVw h kk a c nd) {j : Nat} (hj : j ≤ nd.l.length) {x : Hp} {k2 : Nat} (s : Sub h x) (h0 : h k2 = none) (B : Blk x k2 97 (ndC ⟨nd.leaf, nd.first, nd.l.take j⟩ a j)) : NdEx x k2 a j ⟨nd.leaf, nd.first, nd.l.take j⟩ := by
  refine ⟨B, ?_, by show (nd.l.take j).length ≤ j; rw [List.length_take]; omega, fun b hb e => N.vw.in_heap hb (e ▸ h0)⟩
  have := (N.vw.row.sub s).part enC_len (i := 0) (n := j) N.vw.le (by omega)
  rw [slA_zero, List.drop_zero] at this
  exact this
theorem blk_slA {m l s : Nat} {a : Option Addr} {b : Nat} (hb : blkOf (slA m l s a) b) : blkOf a b := by
  unfold slA at hb
  split at hb
  · exact hb
  · obtain ⟨o, s', e⟩ := hb
    cases a with
    | none => cases e
    | some ad =>
      obtain ⟨b', o', sp⟩ := ad
      simp [Addr.add] at e
      split at e <;> (cases e; exact ⟨_, _, rfl⟩)
theorem NdVw.rest {kk : Nat} {a : Option Addr} {c : Nat} {nd : Nd} (N : NdVw h kk a c nd) {q : Nat} (hq : q ≤ nd.l.length) {x : Hp} (s : Sub h x) : RowAt enC 3 x (slA c q 3 a) (nd.l.drop q) := by
  have := (N.vw.row.sub s).part enC_len (i := q) (n := nd.l.length - q) N.vw.le (by omega)
  rw [List.take_of_length_le (by rw [List.length_drop]; exact Nat.le_refl _)] at this
  exact this
theorem free_some (E : PgAt h pb jb db S n D P) (hf : 1 ≤ P.freeN n) : ¬ ∀ j, 1 ≤ j → j < n → P.now.u j = true := by
  intro H
  have : ∀ j, j ≤ n → P.freeN j = 0 := by
    intro j
    induction j with
    | zero => exact fun _ => rfl
    | succ j ih =>
      intro hj
      rw [freeN_step, ih (by omega)]
      by_cases e : j = 0
      · subst e; rw [E.ok.now.zero]; rfl
      · rw [H j (by omega) (by omega)]; rfl
  have := this n (Nat.le_refl _)
  omega
theorem tdiv2 (a : Nat) (h : a < 2147483648) : IntKind.i64.wrap ((a : Int).tdiv 2) = ((a / 2 : Nat) : Int) := by
  rw [Int.tdiv_eq_ediv_of_nonneg (by omega), wid (by omega) (by omega)]; omega
def cutN (nd : Nd) (q : Nat) : Nat := if nd.leaf then (if 1024 < Nd.base true + eszs true (nd.l.take q) then q - 1 else q) else q
set_option maxHeartbeats 4000000 in
theorem part_spec (E : PgAt h pb jb db S n D P) (T : TrAt h tb pb k) (nt : ¬ S tb) {kk : Nat} {a : Option Addr} {c : Nat} {nd : Nd} (N : NdVw h kk a c nd) (nk : ¬ S kk) (na : ∀ b, blkOf a b → ¬ S b) (o : EnsOk nd) (h1 : 1024 < nd.size) (h2 : nd.size ≤ if nd.leaf then 1491 else 1091) (hf : 1 ≤ P.freeN n) {id : Nat} (hw : P.why n (id : Nat) = 0)
    (hK : ∀ l1 e l2 i u h', nd.l = l1 ++ e :: l2 → NdOk ⟨nd.leaf, nd.first, l1⟩ → NdOk (rightN nd.leaf e l2) → l1 ≠ [] → (nd.leaf = false → l2 ≠ []) → 1 ≤ i → i < n → P.now.u i = false →
      PgAt h' pb jb db S n D (((P.alloc i).write id (pageB ⟨nd.leaf, nd.first, l1⟩)).write i (pageB (rightN nd.leaf e l2))) → Keep S h h' → Blk h' u 100 (enC ⟨e.key, eB, i⟩) → h u = none → K (.tuple #[.pointer (some ⟨u, 0, none⟩), .int .i64 0]) h') :
    CallsH Tryz.prog btree_Tree_part.id #[.pointer (some ⟨tb, 0, none⟩), .int .i64 (id : Nat), .pointer (some ⟨kk, 0, none⟩)] h K := by
  have le := N.vw.le
  have ll := eszs_len o.en
  have hsz : nd.size = Nd.base nd.leaf + eszs nd.leaf nd.l := rfl
  have h3' : nd.size ≤ 1491 := by split at h2 <;> omega
  apply btree_Tree_part.calls
  unfold btree_Tree_part.W
  refine ⟨_, T.cell' 0 rfl, alloc_spec E (fun H => absurd H (free_some E hf)) fun i i1 i2 i3 _ h3 E3 st3 => ⟨_, _, rfl, split_ne (fun e => absurd rfl e) fun _ => ?_⟩⟩
  have N3 := N.keep st3.1 nk na
  have T3 : TrAt h3 tb pb k := Blk.keep T st3.1 nt
  refine nsize_spec N3.ex (by omega) (by omega) ⟨_, rfl, by decide, _, N3.ex.c0, _, N3.ex.c1, fun k11 hk11 => ?_⟩
  obtain ⟨q, hq1, hq2, hq3⟩ := cut_at nd.leaf nd.l (nd.size / 2) (by omega)
  have B11 := Blk.new h3 k11 97 (ndC ⟨nd.leaf, nd.first, nd.l.take 0⟩ none 0)
  have s11 := Sub.upd hk11 (.cells (ndC ⟨nd.leaf, nd.first, nd.l.take 0⟩ none 0).toArray 97 (0, 0))
  refine ⟨fun i x m => ∃ j : Nat, i = (j : Int) ∧ j ≤ q ∧ m = q - j ∧ Sub h3 x ∧ ∃ la lc, (∀ b, blkOf la b → blkOf a b) ∧ NdEx x k11 la lc ⟨nd.leaf, nd.first, nd.l.take j⟩, ⟨_, 0, rfl, Nat.zero_le _, rfl, s11, none, 0, (fun b ⟨o, s, e⟩ => by cases e), B11, RowAt.nil _ _, Nat.le_refl _, fun b ⟨o, s, e⟩ => by cases e⟩, ?_⟩
  rintro z x m ⟨j, rfl, hj, rfl, sx, la, lc, bl, L⟩
  have Nx := N3.sub sx
  have tl := eszs_take_le nd.leaf nd.l j
  have tn : (nd.l.take j).length ≤ nd.l.length := by rw [List.length_take]; omega
  refine nsize_spec L (by show Nd.base nd.leaf + eszs nd.leaf (nd.l.take j) < _; omega) (by show (nd.l.take j).length < _; omega) ⟨_, rfl, ?_⟩
  rw [tdiv2 _ (by omega)]
  have es : (Nd.size ⟨nd.leaf, nd.first, nd.l.take j⟩ : Nat) = Nd.base nd.leaf + eszs nd.leaf (nd.l.take j) := rfl
  refine split_dec (fun g => ?_) fun g => ?_
  · have g : ((Nd.size ⟨nd.leaf, nd.first, nd.l.take j⟩ : Nat) : Int) < ((nd.size / 2 : Nat) : Int) := g
    have hjq : j < q := by
      rcases Nat.lt_or_ge j q with h' | h'
      · exact h'
      · have : j = q := by omega
        subst this; omega
    have e1 : IntKind.i64.wrap ((j : Int) + 1) = ((j + 1 : Nat) : Int) := by rw [wid (by omega) (by omega)]; omega
    rw [e1, Int.toNat_natCast]
    simp only [slA_zero]
    have Bx := L.blk.put 2 [.slice a (j + 1) (j + 1)]
    have sput : Sub h3 (x.put k11 2 [.slice a (j + 1) (j + 1)]) := (Keep.put (fun c => c = k11) x _ _ rfl).sub sx fun c e => by rw [e]; exact hk11
    have ej : (nd.l.take (j + 1)).length = j + 1 := by rw [List.length_take]; omega
    have Bx' : Blk (x.put k11 2 [.slice a (j + 1) (j + 1)]) k11 97 (ndC ⟨nd.leaf, nd.first, nd.l.take (j + 1)⟩ a (j + 1)) := by
      unfold ndC
      show Blk _ k11 97 [_, _, .slice a (nd.l.take (j + 1)).length (j + 1)]
      rw [ej]; exact Bx
    exact ⟨_, _, _, Nx.ex.c2, by omega, by show ((j + 1 : Nat) : Int) ≤ (c : Int); omega, by omega, by show ((j + 1 : Nat) : Int) ≤ ((j + 1 : Nat) : Int); omega, L.blk.store (by show 2 + 1 ≤ 3; decide), q - (j + 1), by omega, j + 1, rfl, hjq, rfl, sput, a, j + 1, fun b hb => hb, N3.view (by omega) sput hk11 Bx'⟩
  · have g : ¬ ((Nd.size ⟨nd.leaf, nd.first, nd.l.take j⟩ : Nat) : Int) < ((nd.size / 2 : Nat) : Int) := g
    have hjq : j = q := by
      rcases Nat.lt_or_ge j q with h' | h'
      · have := hq3 j h'; omega
      · omega
    subst hjq
    obtain ⟨c1, c2, c3, c4, c5⟩ : 1 ≤ j ∧ 1 ≤ cutN nd j ∧ cutN nd j < nd.l.length ∧ Nd.base nd.leaf + eszs nd.leaf (nd.l.take (cutN nd j)) ≤ 1024 ∧ (nd.leaf = true → Nd.base true + eszs true (nd.l.drop (cutN nd j)) ≤ 1024) ∧ (nd.leaf = false → cutN nd j + 1 < nd.l.length ∧ Nd.base false + eszs false (nd.l.drop (cutN nd j + 1)) ≤ 1024) := by
      unfold cutN
      have oen := o.en
      cases hlf : nd.leaf with
      | true =>
        rw [hlf] at hsz hq2 hq3 h2 oen
        rw [if_pos rfl] at h2
        have := cut_leaf oen (by have : Nd.base true = 3 := rfl; omega) (by have : Nd.base true = 3 := rfl; omega) hq1 (by rw [hsz] at hq2; exact hq2) (fun j hj => by have := hq3 j hj; rw [hsz] at this; exact this) rfl
        exact ⟨this.1, this.2.1, this.2.2.1, this.2.2.2.1, fun _ => this.2.2.2.2, fun e => by cases e⟩
      | false =>
        rw [hlf] at hsz hq2 hq3 h2 oen
        rw [if_neg (by decide)] at h2
        have := cut_inner oen (by have : Nd.base false = 5 := rfl; omega) (by have : Nd.base false = 5 := rfl; omega) hq1 (by rw [hsz] at hq2; exact hq2) (fun j hj => by have := hq3 j hj; rw [hsz] at this; exact this)
        exact ⟨this.1, this.1, by have := this.2.1; show j < _; omega, this.2.2.1, (fun e => by cases e), fun _ => ⟨this.2.1, this.2.2.2⟩⟩
    obtain ⟨c5, c6⟩ := c5
    obtain ⟨e, l2, hl, hle, hdr, hlen⟩ := cut_parts c3
    generalize hcut : cutN nd j = q at c2 c3 c4 c5 c6 hl hle hdr hlen
    have kd : ((nd.kind : Nat) : Int) = if nd.leaf = true then 1 else 2 := by unfold Nd.kind; split <;> rfl
    have oe : ∀ e' ∈ e :: l2, EnOk nd.leaf e' := fun e' he' => o.en e' (by rw [hl]; exact List.mem_append_right _ he')
    have o1 : NdOk ⟨nd.leaf, nd.first, nd.l.take q⟩ := ⟨fun e' he' => o.en e' (List.mem_of_mem_take he'), o.first, c4, o.z⟩
    have o2 : NdOk (rightN nd.leaf e l2) := by
      have hd1 : nd.l.drop (q + 1) = l2 := by rw [← List.drop_drop, hdr]; rfl
      cases hlf : nd.leaf with
      | true =>
        rw [hlf] at oe
        have := c5 hlf
        rw [hdr] at this
        exact ⟨oe, by show 0 < 65536; decide, this, fun _ => rfl⟩
      | false =>
        rw [hlf] at oe
        have := (c6 hlf).2
        rw [hd1] at this
        exact ⟨fun e' he' => oe e' (List.mem_cons_of_mem _ he'), (oe e List.mem_cons_self).2.1, this, fun e => by cases e⟩
    have l1ne : nd.l.take q ≠ [] := fun e => by rw [e] at hlen; have : 0 = q := hlen; omega
    have l2ne : nd.leaf = false → l2 ≠ [] := fun hlf e0 => by
      have := congrArg List.length hdr
      rw [e0, List.length_drop] at this
      have h2 := (c6 hlf).1
      have this : nd.l.length - q = 1 := this
      omega
    refine ⟨fun i x => i = (q : Int) ∧ Sub h3 x ∧ ∃ la lc, (∀ b, blkOf la b → blkOf a b) ∧ NdEx x k11 la lc ⟨nd.leaf, nd.first, nd.l.take q⟩, ?_, _, Nx.ex.c0, ?_⟩
    · rintro z y ⟨rfl, sy, la', lc', bl', L'⟩
      have Ny := N3.sub sy
      refine ⟨_, Ny.ex.c0, _, _, _, Ny.ex.c2, by omega, by show (q : Int) ≤ (nd.l.length : Int); omega, fun k31 hk31 => ?_⟩
      have hx : setL (setL [Value.int .i64 0, .int .i64 0, .slice none 0 0] 0 [.int .i64 (nd.kind : Nat)]) 2 [.slice (slA c ((q : Nat) : Int).toNat 3 a) (nd.l.length - ((q : Nat) : Int).toNat) (c - ((q : Nat) : Int).toNat)] = [.int .i64 (nd.kind : Nat), .int .i64 0, .slice (slA c q 3 a) (nd.l.length - q) (c - q)] := by rw [Int.toNat_natCast]; rfl
      rw [hx, Int.toNat_natCast]
      have B31 := Blk.new y k31 97 [.int .i64 (nd.kind : Nat), .int .i64 0, .slice (slA c q 3 a) (nd.l.length - q) (c - q)]
      have s31 := Sub.upd hk31 (.cells [Value.int .i64 (nd.kind : Nat), .int .i64 0, .slice (slA c q 3 a) (nd.l.length - q) (c - q)].toArray 97 (0, 0))
      generalize y.upd k31 (.cells [Value.int .i64 (nd.kind : Nat), .int .i64 0, .slice (slA c q 3 a) (nd.l.length - q) (c - q)].toArray 97 (0, 0)) = y1 at B31 s31 ⊢
      have sy1 := sy.trans s31
      have n31 : h3 k31 = none := sy.none hk31
      have ld : (nd.l.drop q).length = nd.l.length - q := List.length_drop
      have ne31 : ∀ {i : Nat} b, blkOf (slA c i 3 a) b → b ≠ k31 := fun b hb e => N3.vw.in_heap (blk_slA hb) (e ▸ n31)
      have R0 : NdEx y1 k31 (slA c q 3 a) (c - q) ⟨nd.leaf, 0, nd.l.drop q⟩ := ⟨by unfold ndC; show Blk _ _ _ [_, _, .slice _ (nd.l.drop q).length _]; rw [ld]; exact B31, N3.rest (by omega) sy1, by show (nd.l.drop q).length ≤ _; rw [ld]; omega, ne31⟩
      obtain ⟨b, of, ea, g0, g1, g2⟩ := R0.get (i := 0) (e := e) (by show (nd.l.drop q)[0]? = _; rw [hdr]; rfl)
      rw [Nat.zero_mul, Nat.add_zero] at g0 g1 g2
      refine ⟨_, _, _, B31.cell' 2 rfl, split_cond (fun _ => ⟨b, of, ea, _, g0, fun k38 hk38 => ?_⟩) fun e2 => ?_⟩
      rotate_left
      · have : Nat.blt 0 (nd.l.length - q) = true := Nat.blt_eq.mpr (by omega)
        rw [this] at e2; cases e2
      have hx2 : setL (setL [Value.string (bytesL []), .string (bytesL []), .int .i64 0] 0 [.string e.key]) 2 [.int .i64 ((i : Nat) : Int)] = enC ⟨e.key, eB, i⟩ := rfl
      have hx3 : #[Value.string e.key, .string (bytesL []), .int .i64 ((i : Nat) : Int)] = (enC ⟨e.key, eB, i⟩).toArray := rfl
      rw [hx2, hx3]
      have B38 := Blk.new y1 k38 100 (enC ⟨e.key, eB, i⟩)
      have s38 := Sub.upd hk38 (.cells (enC ⟨e.key, eB, i⟩).toArray 100 (0, 0))
      generalize y1.upd k38 (.cells (enC ⟨e.key, eB, i⟩).toArray 100 (0, 0)) = y2 at B38 s38 ⊢
      have sy2 := sy1.trans s38
      have n38 : h3 k38 = none := sy1.none hk38
      have R2 := R0.sub s38
      have L2 := (L'.sub s31).sub s38
      have N2 := N3.sub sy2
      have ek := B31.keep (s38.keep (fun _ => False)) fun h => h
      have dj : k38 ≠ k31 := fun e => by have := B31; unfold Blk at this; rw [← e, hk38] at this; cases this
      have dj2 : k11 ≠ k31 := fun e => by have := L'.blk; unfold Blk at this; rw [e, hk31] at this; cases this
      refine ⟨fun x => Sub h3 x ∧ NdEx x k11 la' lc' ⟨nd.leaf, nd.first, nd.l.take q⟩ ∧ Blk x k38 100 (enC ⟨e.key, eB, i⟩) ∧ ∃ ra rc, NdEx x k31 ra rc (rightN nd.leaf e l2) ∧ ∀ b, blkOf ra b → ¬ S b, ?_, _, N2.ex.c0, ?_⟩
      · rintro x ⟨sx, Lx, Bx, ra, rc, Rx, nra⟩
        have Tx : TrAt x tb pb k := Blk.sub T3 sx
        refine store_spec (E3.sub sx) Tx Lx o1 (why_alloc hw) fun h4 E4 k4 => ⟨rfl, ?_⟩
        refine store_spec E4 (Blk.keep Tx k4 nt) (Rx.out k4 (S_out E3 n31) nra) o2 (why_i i1 i2 (upU_same _ _ _)) fun h5 E5 k5 => ⟨rfl, ?_⟩
        refine hK _ e l2 i k38 h5 hl o1 o2 l1ne l2ne i1 i2 i3 E5 (st3.1.trans ((sx.keep S).trans (k4.trans k5))) ((Bx.keep k4 (S_out E3 n38)).keep k5 (S_out E3 n38)) ?_
        exact Classical.byContradiction fun hne => by
          by_cases hS : S k38
          · exact E3.in_heap hS n38
          · obtain ⟨ob, hob⟩ := Option.ne_none_iff_exists'.1 hne
            rw [st3.1 _ _ hob hS] at n38; cases n38
      · rw [kd]
        by_cases hlf : nd.leaf = true
        · rw [if_pos hlf]
          have er : rightN nd.leaf e l2 = ⟨nd.leaf, 0, nd.l.drop q⟩ := by rw [hlf, hdr]; rfl
          refine split_eq (fun e => by cases e) fun _ => ⟨sy2, L2, B38, _, _, by rw [er]; exact R2, fun b hb => na b (blk_slA hb)⟩
        · rw [if_neg hlf]
          have hlf' : nd.leaf = false := by simpa using hlf
          have B31' := B31.sub s38
          have P1 := B31'.put 1 [.int .i64 (e.kid : Nat)]
          have P2 := P1.put 2 [.slice (slA (c - q) 1 3 (slA c q 3 a)) (nd.l.length - q - 1) (c - q - 1)]
          have kp : Keep (fun c => c = k31) y2 ((y2.put k31 1 [.int .i64 (e.kid : Nat)]).put k31 2 [.slice (slA (c - q) 1 3 (slA c q 3 a)) (nd.l.length - q - 1) (c - q - 1)]) := (Keep.put (fun c => c = k31) _ _ _ rfl).trans (Keep.put (fun c => c = k31) _ _ _ rfl)
          obtain ⟨b', of', ea', q0, q1, q2⟩ := R2.get (i := 0) (e := e) (by show (nd.l.drop q)[0]? = _; rw [hdr]; rfl)
          rw [Nat.zero_mul, Nat.add_zero] at q2
          have hl2 : l2.length = nd.l.length - q - 1 := by
            have := congrArg List.length hdr
            rw [ld, List.length_cons] at this; omega
          refine split_eq (fun _ => ⟨_, _, _, B31'.cell' 2 rfl, split_cond (fun _ => ⟨b', of', ea', _, q2, B31'.store (by show 1 + 1 ≤ 3; decide), _, _, _, P1.cell' 2 rfl, by decide, by show (1 : Int) ≤ ((nd.l.length - q : Nat) : Int); omega, P1.store (by show 2 + 1 ≤ 3; decide), ?_⟩) fun e2 => ?_⟩) fun e => absurd rfl e
          · refine ⟨kp.sub sy2 fun c e => by rw [e]; exact n31, L2.out kp dj2 fun b hb e => N3.vw.in_heap (bl' b hb) (e ▸ n31), B38.keep kp dj, slA (c - q) 1 3 (slA c q 3 a), c - q - 1, ⟨?_, ?_, ?_, ?_⟩, fun b hb => na b (blk_slA (blk_slA hb))⟩
            · rw [hlf']
              unfold ndC
              have e1 : ((nd.kind : Nat) : Int) = 2 := by rw [kd, if_neg hlf]
              rw [e1] at P2
              show Blk _ k31 97 [.int .i64 2, .int .i64 (e.kid : Nat), .slice _ l2.length _]
              rw [hl2]; exact P2
            · rw [hlf']
              have := R2.row.part enC_len (c := c - q) (i := 1) (n := l2.length) (by show (nd.l.drop q).length ≤ _; rw [ld]; omega) (by show 1 + l2.length ≤ (nd.l.drop q).length; rw [ld]; omega)
              have e3 : ((nd.l.drop q).drop 1).take l2.length = l2 := by rw [hdr]; show l2.take l2.length = l2; rw [List.take_length]
              rw [show (Nd.l ⟨nd.leaf, 0, nd.l.drop q⟩) = nd.l.drop q from rfl, e3] at this
              exact this.keep kp fun b hb e => ne31 b (blk_slA hb) e
            · rw [hlf']; show l2.length ≤ c - q - 1; omega
            · exact fun b hb e => ne31 b (blk_slA hb) e
          · have : Nat.blt 0 (nd.l.length - q) = true := Nat.blt_eq.mpr (by omega)
            rw [this] at e2; cases e2
    · rw [kd]
      by_cases hlf : nd.leaf = true
      · rw [if_pos hlf]
        have hcut := hcut
        unfold cutN at hcut
        rw [if_pos hlf] at hcut
        have eb : Nd.base nd.leaf + eszs nd.leaf (nd.l.take j) = Nd.base true + eszs true (nd.l.take j) := by rw [hlf]
        refine split_eq (fun _ => nsize_spec L (by show Nd.base nd.leaf + eszs nd.leaf (nd.l.take j) < _; omega) (by show (nd.l.take j).length < _; omega) ⟨_, rfl, split_dec (fun g => ?_) fun g => ?_⟩) fun e => absurd rfl e
        · have g : ((Nd.size ⟨nd.leaf, nd.first, nd.l.take j⟩ : Nat) : Int) > 1024 := g
          rw [if_pos (by omega)] at hcut
          have e1 : IntKind.i64.wrap ((j : Int) - 1) = ((q : Nat) : Int) := by rw [wid (by omega) (by omega)]; omega
          rw [e1, Int.toNat_natCast]
          simp only [slA_zero]
          have Bx := L.blk.put 2 [.slice a q q]
          have sput : Sub h3 (x.put k11 2 [.slice a q q]) := (Keep.put (fun c => c = k11) x _ _ rfl).sub sx fun c e => by rw [e]; exact hk11
          have Bx' : Blk (x.put k11 2 [.slice a q q]) k11 97 (ndC ⟨nd.leaf, nd.first, nd.l.take q⟩ a q) := by
            unfold ndC
            show Blk _ k11 97 [_, _, .slice a (nd.l.take q).length q]
            rw [hlen]; exact Bx
          exact ⟨_, _, _, Nx.ex.c2, by omega, by show ((q : Nat) : Int) ≤ (c : Int); omega, by omega, by show ((q : Nat) : Int) ≤ ((q : Nat) : Int); omega, L.blk.store (by show 2 + 1 ≤ 3; decide), trivial, sput, a, q, fun b hb => hb, N3.view (by omega) sput hk11 Bx'⟩
        · have g : ¬ ((Nd.size ⟨nd.leaf, nd.first, nd.l.take j⟩ : Nat) : Int) > 1024 := g
          rw [if_neg (by omega)] at hcut
          subst hcut
          exact ⟨rfl, sx, la, lc, bl, L⟩
      · rw [if_neg hlf]
        have hcut := hcut
        unfold cutN at hcut
        rw [if_neg hlf] at hcut
        subst hcut
        exact split_eq (fun e => by cases e) fun _ => ⟨rfl, sx, la, lc, bl, L⟩
end Go.Proofs.YthbogjbcecmopaaGreatDoor
namespace Go.Proofs.YthbogjbcecmopaaGreatDoor
open Go.Gx
set_option maxRecDepth 100000
set_option linter.unusedVariables false
variable {n : Nat} {D : Dk} {P P1 P' : Pg}
theorem le_blt_trans {a b c : ByteArray} (h1 : blt b a = false) (h2 : blt b c = true) : blt a c = true := by
  cases e : blt a b with
  | true => exact blt_trans e h2
  | false => rw [blt_total e h1]; exact h2
theorem may_eB {k v : ByteArray} (h : may k v = true) : may k eB = true := by
  have := may_key64 h
  unfold may
  exact decide_eq_true ⟨this.2, this.1, by decide⟩
theorem insN_store {m id : Nat} {nd : Nd} {f t : ByteArray} (h : Fw (P.pgs D n) m nd f t) (hn : Fn (P.pgs D n) m nd) (o : NdOk nd) (hw : P.why n (id : Nat) = 0) (hid : id ∉ idsN (P.pgs D n) m nd) (nN : (idsN (P.pgs D n) m nd).Nodup) :
    InsN n D P (P.write id (pageB nd)) m id f t (entsN (P.pgs D n) m nd) (id :: idsN (P.pgs D n) m nd) 0 := by
  obtain ⟨g1, g2, g3, g4, g5⟩ := store_law h hn o hw hid nN
  exact ⟨g1, g2, by rw [g3]; exact g4, by rw [g3]; exact g5, by rw [g3]; exact Nat.le_refl _⟩
theorem insS_part (hn2 : n ≤ 128) {m id i : Nat} {lf : Bool} {fi : Nat} {l1 l2 : List En} {e : En} {f t : ByteArray} (h : Fw (P.pgs D n) m ⟨lf, fi, l1 ++ e :: l2⟩ f t) (hn : Fn (P.pgs D n) m ⟨lf, fi, l1 ++ e :: l2⟩) (o1 : NdOk ⟨lf, fi, l1⟩) (o2 : NdOk (rightN lf e l2)) (hw : P.why n (id : Nat) = 0)
    (hid : id ∉ idsN (P.pgs D n) m ⟨lf, fi, l1 ++ e :: l2⟩) (nN : (idsN (P.pgs D n) m ⟨lf, fi, l1 ++ e :: l2⟩).Nodup) (i1 : 1 ≤ i) (hi : i < n) (hu : P.now.u i = false) (hl1 : l1 ≠ []) (hl2 : lf = false → l2 ≠ []) (ok : may e.key e.val = true) :
    InsS n D P (((P.alloc i).write id (pageB ⟨lf, fi, l1⟩)).write i (pageB (rightN lf e l2))) m id f t (entsN (P.pgs D n) m ⟨lf, fi, l1 ++ e :: l2⟩) (id :: idsN (P.pgs D n) m ⟨lf, fi, l1 ++ e :: l2⟩) 1 ⟨e.key, eB, i⟩ := by
  obtain ⟨g1, g2, g3, g4, g5, g6, g7⟩ := part_law h hn o1 o2 hw hid nN i1 hi hu rfl
  obtain ⟨w1, w2, w3, w4, w5⟩ := h.part
  obtain ⟨n1, n2⟩ := w5 hn
  obtain ⟨x1, l1', rfl⟩ : ∃ x l, l1 = x :: l := by
    cases l1 with
    | nil => exact absurd rfl hl1
    | cons x l => exact ⟨x, l, rfl⟩
  refine ⟨g1, g2, by rw [g3, g4, w3], fun e0 => ?_, fun e0 => ?_, g5, g6, by rw [g7]; exact Nat.le_refl _, ?_, ?_, ⟨may_eB ok, by show i < 65536; omega, rfl⟩⟩
  · rw [g3] at e0
    have := Fw_empty w1 n1 e0
    cases this
  · have e0 : ents _ m i = [] := e0
    rw [g4] at e0
    have := Fw_empty w2 n2 e0
    unfold rightN at this
    cases lf with
    | true => cases this
    | false => exact hl2 rfl this
  · show blt f e.key = true
    cases m with
    | zero =>
      have k1 := keysOk_iff.1 h.2
      have k2 := List.pairwise_append.1 (by have := k1.2; rw [List.map_append, List.map_cons] at this; exact this)
      exact le_blt_trans (k1.1 x1 (List.mem_append_left _ List.mem_cons_self)).1 (k2.2.2 _ (List.mem_map_of_mem List.mem_cons_self) _ List.mem_cons_self)
    | succ m => exact h.2.1.2 e (List.mem_append_right _ List.mem_cons_self)
  · show below t e.key
    have hk : keysOk f t (x1 :: l1' ++ e :: l2) := by
      cases m with
      | zero => exact h.2
      | succ m => exact h.2.1.1
    exact ((keysOk_iff.1 hk).1 e (List.mem_append_right _ List.mem_cons_self)).2
theorem InsN.comp {m id r r' : Nat} {f t : ByteArray} {L : List KV} {I I1 : List Nat} (M : Mv n D P P1 I I1) (hl : I1.length ≤ I.length + r) (R : InsN n D P1 P' m id f t L I1 r') : InsN n D P P' m id f t L I (r + r') :=
  ⟨R.tr, R.es, R.nd, M.trans R.mv, by have := R.len; omega⟩
theorem InsS.comp {m id r r' : Nat} {f t : ByteArray} {L : List KV} {I I1 : List Nat} {e : En} (M : Mv n D P P1 I I1) (hl : I1.length ≤ I.length + r) (R : InsS n D P1 P' m id f t L I1 r' e) : InsS n D P P' m id f t L I (r + r') e :=
  ⟨R.tr, R.tr2, R.es, R.ne, R.ne2, R.nd, M.trans R.mv, by have := R.len; omega, R.lo, R.hi, R.ok⟩
structure KidAt (pg : Nat → Option Nd) (m : Nat) (nd : Nd) (f t k : ByteArray) (l1 l2 : List En) (K1 : List Cl) (c : Cl) : Prop where
  l : nd.l = l1 ++ l2
  be : l1.length = kvBe k nd.kv
  cl : nd.cl f = K1 ++ c :: l2.map clE
  cls : ∀ l, Nd.cl ⟨nd.leaf, nd.first, l1 ++ l⟩ f = K1 ++ c :: l.map clE
  len : K1.length = l1.length
  kid : nd.kids[l1.length]? = some c.2
  tr : TrS pg m c.2 c.1 (hdK t (l2.map clE))
  lo : blt k c.1 = false
  hi : below (hdK t (l2.map clE)) k
  lt : ∀ p ∈ (entsK pg m K1).flatten, blt p.1 k = true
  gt : ∀ p ∈ (entsK pg m (l2.map clE)).flatten, blt k p.1 = true
  ge : blt c.1 f = false
  le : ∀ x, below (hdK t (l2.map clE)) x → below t x
theorem kid_at' {pg : Nat → Option Nd} (O : PgOk pg) {m : Nat} {nd : Nd} {f t k : ByteArray} (h : Fw pg (m + 1) nd f t) (hf : blt k f = false) (ht : below t k) : ∃ l1 l2 K1 c, KidAt pg m nd f t k l1 l2 K1 c := by
  obtain ⟨l1, l2, K1, c, a1, a2, a3, a4, a5, a6, a7, a8, a9, a10, a11, a12, a13⟩ := kid_at O h hf ht
  exact ⟨l1, l2, K1, c, a1, a2, a3, a4, a5, a6, a7, a8, a9, a10, a11, a12, a13⟩
section
variable {m : Nat} {nd : Nd} {f t k : ByteArray} {l1 l2 : List En} {K1 : List Cl} {c : Cl} (A : KidAt (P.pgs D n) m nd f t k l1 l2 K1 c)
include A
theorem KidAt.es : entsN (P.pgs D n) (m + 1) nd = (entsK (P.pgs D n) m K1).flatten ++ (ents (P.pgs D n) m c.2 ++ (entsK (P.pgs D n) m (l2.map clE)).flatten) := by
  show (entsK (P.pgs D n) m (nd.cl f)).flatten = _
  rw [A.cl, entsK_append, List.flatten_append]; rfl
theorem KidAt.is : idsN (P.pgs D n) (m + 1) nd = idsK (P.pgs D n) m (K1 ++ [c] ++ l2.map clE) := by
  show idsK (P.pgs D n) m (nd.cl f) = _
  rw [A.cl, List.append_assoc]; rfl
theorem KidAt.kid_sub : ∀ i ∈ ids (P.pgs D n) m c.2, i ∈ idsN (P.pgs D n) (m + 1) nd := fun i hi => by
  rw [A.is, idsK_append, idsK_append, idsK_one]
  exact List.mem_append_left _ (List.mem_append_right _ hi)
theorem KidAt.na (hn : Fn (P.pgs D n) (m + 1) nd) : NA (entsK (P.pgs D n) m K1 ++ ents (P.pgs D n) m c.2 :: entsK (P.pgs D n) m (l2.map clE)) := by
  have hn : NA (entsK (P.pgs D n) m (nd.cl f)) := hn
  rw [A.cl, entsK_append] at hn
  exact hn
theorem KidAt.one (h : Fw (P.pgs D n) (m + 1) nd f t) (nN : (idsN (P.pgs D n) (m + 1) nd).Nodup) (T1 : TrS (P1.pgs D n) m c.2 c.1 (hdK t (l2.map clE))) (M : Mv n D P P1 (ids (P.pgs D n) m c.2) (ids (P1.pgs D n) m c.2)) (n1 : (ids (P1.pgs D n) m c.2).Nodup) :
    Fw (P1.pgs D n) (m + 1) nd f t ∧ entsK (P1.pgs D n) m (nd.cl f) = entsK (P.pgs D n) m K1 ++ ents (P1.pgs D n) m c.2 :: entsK (P.pgs D n) m (l2.map clE) ∧ (idsN (P1.pgs D n) (m + 1) nd).Nodup ∧ Mv n D P P1 (idsN (P.pgs D n) (m + 1) nd) (idsN (P1.pgs D n) (m + 1) nd) ∧
      (idsN (P1.pgs D n) (m + 1) nd).length + (ids (P.pgs D n) m c.2).length = (idsN (P.pgs D n) (m + 1) nd).length + (ids (P1.pgs D n) m c.2).length := by
  have hc := h.2.2
  have ec : nd.cl f = K1 ++ [c] ++ l2.map clE := by rw [A.cl, List.append_assoc]; rfl
  have nN' : (idsK (P.pgs D n) m (nd.cl f)).Nodup := nN
  rw [ec] at hc nN'
  rw [← idsK_one (P.pgs D n) m c, ← idsK_one (P1.pgs D n) m c] at M
  obtain ⟨g1, g2, g3, g4, g5⟩ := ChS.repl (X' := [c]) hc nN' M ⟨T1, trivial⟩ rfl (by rw [idsK_one]; exact n1)
  rw [← ec] at g1 g2 g3 g4 g5
  refine ⟨⟨h.1, h.2.1, g1⟩, ?_, g3, g4, ?_⟩
  · rw [g2, List.append_assoc]; rfl
  · rw [idsK_one, idsK_one] at g5; exact g5
theorem KidAt.two (h : Fw (P.pgs D n) (m + 1) nd f t) (nN : (idsN (P.pgs D n) (m + 1) nd).Nodup) {L : List KV} {r : Nat} {e : En} (R : InsS n D P P1 m c.2 c.1 (hdK t (l2.map clE)) L (ids (P.pgs D n) m c.2) r e) :
    Fw (P1.pgs D n) (m + 1) ⟨nd.leaf, nd.first, l1 ++ e :: l2⟩ f t ∧ entsK (P1.pgs D n) m (Nd.cl ⟨nd.leaf, nd.first, l1 ++ e :: l2⟩ f) = entsK (P.pgs D n) m K1 ++ ents (P1.pgs D n) m c.2 :: ents (P1.pgs D n) m e.kid :: entsK (P.pgs D n) m (l2.map clE) ∧ (idsN (P1.pgs D n) (m + 1) ⟨nd.leaf, nd.first, l1 ++ e :: l2⟩).Nodup ∧
      Mv n D P P1 (idsN (P.pgs D n) (m + 1) nd) (idsN (P1.pgs D n) (m + 1) ⟨nd.leaf, nd.first, l1 ++ e :: l2⟩) ∧ (idsN (P1.pgs D n) (m + 1) ⟨nd.leaf, nd.first, l1 ++ e :: l2⟩).length ≤ (idsN (P.pgs D n) (m + 1) nd).length + r := by
  have hc := h.2.2
  have ec : nd.cl f = K1 ++ [c] ++ l2.map clE := by rw [A.cl, List.append_assoc]; rfl
  have ec2 : Nd.cl ⟨nd.leaf, nd.first, l1 ++ e :: l2⟩ f = K1 ++ [c, clE e] ++ l2.map clE := by rw [A.cls, List.append_assoc]; rfl
  have nN' : (idsK (P.pgs D n) m (nd.cl f)).Nodup := nN
  rw [ec] at hc nN'
  have i2 : idsK (P1.pgs D n) m [c, clE e] = ids (P1.pgs D n) m c.2 ++ ids (P1.pgs D n) m e.kid := by unfold idsK; simp [clE]
  have M := R.mv
  rw [← idsK_one (P.pgs D n) m c, ← i2] at M
  have rl := R.len
  obtain ⟨g1, g2, g3, g4, g5⟩ := ChS.repl (X' := [c, clE e]) hc nN' M ⟨R.tr, R.tr2, trivial⟩ rfl (by rw [i2]; exact R.nd)
  have g4' : Mv n D P P1 (idsK (P.pgs D n) m (nd.cl f)) (idsK (P1.pgs D n) m (Nd.cl ⟨nd.leaf, nd.first, l1 ++ e :: l2⟩ f)) := by rw [ec, ec2]; exact g4
  rw [idsK_one, i2, ← ec, ← ec2] at g5
  rw [← ec2] at g1 g2 g3
  have hk := h.2.1
  have hs1 := keysOk_iff.1 hk.1
  have hl := A.l
  have be : ∀ e' ∈ l2, blt e.key e'.key = true := fun e' he' => by
    have hh : below (hdK t (l2.map clE)) e.key := R.hi
    cases l2 with
    | nil => cases he'
    | cons x l2 =>
      have hx : below x.key e.key := hh
      have hxm : x ∈ nd.l := by rw [hl]; exact List.mem_append_right _ List.mem_cons_self
      have hex : blt e.key x.key = true := hx (blt_neB (hk.2 x hxm))
      rcases List.mem_cons.1 he' with rfl | he'
      · exact hex
      · have := hs1.2
        rw [hl, List.map_append, List.map_cons] at this
        have := (List.pairwise_cons.1 (List.pairwise_append.1 this).2.1).1 e'.kv (List.mem_map_of_mem he')
        exact blt_trans hex this
  have fe : blt f e.key = true := by
    cases e0 : blt f c.1 with
    | true => exact blt_trans e0 R.lo
    | false => rw [← blt_total A.ge e0]; exact R.lo
  have bl : ∀ e' ∈ l1, blt e'.key e.key = true := fun e' he' => by
    have hcm : ∀ x ∈ nd.cl f, x = c ∨ x ∈ K1 ∨ x ∈ l2.map clE := fun x hx => by
      rw [A.cl] at hx
      rcases List.mem_append.1 hx with h | h
      · exact .inr (.inl h)
      · exact (List.mem_cons.1 h).imp id .inr
    have hsl := cl_sorted (lf := nd.leaf) (fi := nd.first) hk
    have enl : Nd.cl ⟨nd.leaf, nd.first, nd.l⟩ f = nd.cl f := rfl
    rw [enl, A.cl] at hsl
    have hsl := List.pairwise_append.1 hsl
    have e1 := A.cls []
    rw [List.append_nil, List.map_nil] at e1
    have : clE e' ∈ K1 ++ [c] := by
      rw [← e1]
      exact List.mem_cons_of_mem _ (List.mem_map_of_mem he')
    rcases List.mem_append.1 this with h | h
    · exact blt_trans (hsl.2.2 _ h c List.mem_cons_self) R.lo
    · have : clE e' = c := List.mem_singleton.1 h
      have e2 : e'.key = c.1 := congrArg Prod.fst this
      rw [e2]; exact R.lo
  have key : keysS f t (l1 ++ e :: l2) := by
    refine ⟨keysOk_iff.2 ⟨fun e' he' => ?_, ?_⟩, fun e' he' => ?_⟩
    · rcases List.mem_append.1 he' with h | h
      · exact hs1.1 e' (by rw [hl]; exact List.mem_append_left _ h)
      · rcases List.mem_cons.1 h with rfl | h
        · exact ⟨blt_asymm fe, A.le _ R.hi⟩
        · exact hs1.1 e' (by rw [hl]; exact List.mem_append_right _ h)
    · have := hs1.2
      rw [hl, List.map_append] at this
      have s := List.pairwise_append.1 this
      rw [List.map_append, List.map_cons]
      refine List.pairwise_append.2 ⟨s.1, List.pairwise_cons.2 ⟨fun p hp => ?_, s.2.1⟩, fun p hp q hq => ?_⟩
      · obtain ⟨e', he', rfl⟩ := List.mem_map.1 hp
        exact be e' he'
      · rcases List.mem_cons.1 hq with rfl | hq
        · obtain ⟨e', he', rfl⟩ := List.mem_map.1 hp
          exact bl e' he'
        · exact s.2.2 p hp q hq
    · rcases List.mem_append.1 he' with h | h
      · exact hk.2 e' (by rw [hl]; exact List.mem_append_left _ h)
      · rcases List.mem_cons.1 h with rfl | h
        · exact fe
        · exact hk.2 e' (by rw [hl]; exact List.mem_append_right _ h)
  refine ⟨⟨h.1, key, g1⟩, ?_, g3, g4', ?_⟩
  · rw [g2, List.append_assoc]; rfl
  · show (idsK (P1.pgs D n) m (Nd.cl ⟨nd.leaf, nd.first, l1 ++ e :: l2⟩ f)).length ≤ (idsK (P.pgs D n) m (nd.cl f)).length + r
    omega
end
end Go.Proofs.YthbogjbcecmopaaGreatDoor
namespace Go.Proofs.YthbogjbcecmopaaGreatDoor
open Go.Gx
set_option maxRecDepth 100000
set_option linter.unusedVariables false
variable {n : Nat} {D : Dk} {P : Pg} {h : Hp} {K : Value → Hp → Prop} {pb jb db : Nat} {S : Nat → Prop} {tb k : Nat}
theorem set_putL {x : En} {l : List En} (h : kvIs x.key (l.map En.kv) = true) : l.set (kvAt x.key (l.map En.kv)) x = putL x l := by
  have hl := kvAt_lt h
  rw [List.length_map] at hl
  unfold putL
  rw [if_pos h, List.set_eq_take_append_cons_drop, if_pos hl]
theorem none_putL {x : En} {l : List En} (h : kvIs x.key (l.map En.kv) = false) : l.take (kvAt x.key (l.map En.kv)) ++ x :: l.drop (kvAt x.key (l.map En.kv)) = putL x l := by
  unfold putL
  rw [if_neg (by rw [h]; decide)]
theorem none_back {x : Hp} (E : PgAt x pb jb db S n D P) (kp : Keep S h x) {u : Nat} (hu : x u = none) : h u = none :=
  Classical.byContradiction fun hne => by
    by_cases hS : S u
    · exact E.in_heap hS hu
    · obtain ⟨ob, hob⟩ := Option.ne_none_iff_exists'.1 hne
      rw [kp _ _ hob hS] at hu; cases hu
def InsJ (pb jb db : Nat) (S : Nat → Prop) (n : Nat) (D : Dk) (P : Pg) (m id : Nat) (f t : ByteArray) (L : List KV) (I : List Nat) (h : Hp) (k' : Nat) (x : Hp) : Prop :=
  ∃ P1 nd1 a1 c1, PgAt x pb jb db S n D P1 ∧ Keep S h x ∧ NdVw x k' a1 c1 nd1 ∧ (∀ b, blkOf a1 b → ¬ S b) ∧ EnsOk nd1 ∧ nd1.size ≤ (if nd1.leaf then 1491 else 1091) ∧ Fw (P1.pgs D n) m nd1 f t ∧ Fn (P1.pgs D n) m nd1 ∧ (P1.pgs D n id).isSome = true ∧ id ∉ idsN (P1.pgs D n) m nd1 ∧
    (idsN (P1.pgs D n) m nd1).Nodup ∧ entsN (P1.pgs D n) m nd1 = L ∧ Mv n D P P1 (id :: I) (id :: idsN (P1.pgs D n) m nd1) ∧ (idsN (P1.pgs D n) m nd1).length ≤ I.length + m
set_option maxHeartbeats 4000000 in
theorem insert_spec (nt : ¬ S tb) {key v : ByteArray} (hm : may key v = true) (m : Nat) : ∀ {h : Hp} {K : Value → Hp → Prop} {P : Pg} {id : Nat} {f t : ByteArray}, PgAt h pb jb db S n D P → TrAt h tb pb k → TrS (P.pgs D n) m id f t → (ids (P.pgs D n) m id).Nodup → blt key f = false → below t key → m + 1 ≤ P.freeN n →
    (∀ h' P', PgAt h' pb jb db S n D P' → Keep S h h' → InsN n D P P' m id f t (kvPut key v (ents (P.pgs D n) m id)) (ids (P.pgs D n) m id) m → K (.tuple #[.pointer none, .int .i64 0]) h') →
    (∀ h' P' u e, PgAt h' pb jb db S n D P' → Keep S h h' → Blk h' u 100 (enC e) → h u = none → InsS n D P P' m id f t (kvPut key v (ents (P.pgs D n) m id)) (ids (P.pgs D n) m id) (m + 1) e → K (.tuple #[.pointer (some ⟨u, 0, none⟩), .int .i64 0]) h') →
    CallsH Tryz.prog btree_Tree_insert.id #[.pointer (some ⟨tb, 0, none⟩), .int .i64 (id : Nat), .agg #[.string key, .string v, .int .i64 0]] h K := by
  induction m using Nat.strongRecOn with
  | ind m ih =>
  intro h K P id f t E T TT nI hf ht fr hN hS
  have hn := E.n2
  have hpk := pgs_ok E
  obtain ⟨nd, pn, W, F⟩ := TrS_iff.1 TT
  have ok := hpk id nd pn
  have ll := ok.len
  have hsz0 := ok.size
  have hw : P.why n (id : Nat) = 0 := pgs_why (by rw [pn]; rfl)
  rw [ids_N pn] at nI hN hS
  rw [ents_N pn] at hN hS
  obtain ⟨hid, nN⟩ := List.nodup_cons.1 nI
  apply btree_Tree_insert.calls
  unfold btree_Tree_insert.W
  refine load_spec E T _ (fun e => by rw [show P.pgs D n id = none from e] at pn; cases pn) fun nd' e h2 k' N2 => ?_
  have e : nd' = nd := Option.some.inj ((show P.pgs D n id = some nd' from e).symm.trans pn)
  subst e
  refine ⟨_, _, rfl, split_ne (fun e => absurd rfl e) fun _ => ?_⟩
  obtain ⟨a, c, No, fra⟩ := N2.ow
  have k0 := N2.k0
  have s2 := N2.sub
  have nk : ¬ S k' := S_out E k0
  have na : ∀ b, blkOf a b → ¬ S b := fun b hb => S_out E (fra b hb)
  have srt : kvSorted nd'.kv := by
    cases m with
    | zero => exact (keysOk_iff.1 W.2).2
    | succ m => exact (keysOk_iff.1 W.2.1.1).2
  refine ⟨InsJ pb jb db S n D P m id f t (kvPut key v (entsN (P.pgs D n) m nd')) (idsN (P.pgs D n) m nd') h k', ?_, k', 0, rfl, _, No.ex.c0, ?_⟩
  · rintro x ⟨P1, nd1, a1, c1, E1, kp1, N1, na1, o1, hsz, W1, F1, his, hid1, nN1, he1, M1, hl1⟩
    have T1 : TrAt x tb pb k := Blk.keep T kp1 nt
    have hw1 := pgs_why his
    have ll1 := eszs_len o1.en
    have hs1 : nd1.size = Nd.base nd1.leaf + eszs nd1.leaf nd1.l := rfl
    have hsz' : nd1.size ≤ 1491 := by split at hsz <;> omega
    have fr1 := M1.free
    simp only [List.length_cons] at fr1
    refine nsize_spec N1.ex (by omega) (by omega) ⟨_, rfl, split_dec (fun g => ?_) fun g => ?_⟩
    · have g : ((nd1.size : Nat) : Int) ≤ 1024 := g
      refine store_spec E1 T1 N1.ex (o1.ok (by omega)) hw1 fun h3 E3 k3 => ⟨rfl, hN h3 _ E3 (kp1.trans k3) ?_⟩
      have R := insN_store W1 F1 (o1.ok (by omega)) hw1 hid1 nN1
      rw [he1] at R
      exact R.comp M1 (by simp only [List.length_cons]; omega)
    · have g : ¬ ((nd1.size : Nat) : Int) ≤ 1024 := g
      obtain ⟨lf, fi, l⟩ := nd1
      refine part_spec E1 T1 nt N1 nk na1 o1 (by omega) hsz (by omega) hw1 fun l1 e l2 i u h3 hl q1 q2 q3 q4 q5 q6 q7 E3 k3 Bu u0 => ⟨_, _, rfl, hS h3 _ u ⟨e.key, eB, i⟩ E3 (kp1.trans k3) Bu (none_back E1 kp1 u0) ?_⟩
      have hl : l = l1 ++ e :: l2 := hl
      subst hl
      have R := insS_part hn W1 F1 q1 q2 hw1 hid1 nN1 q5 q6 q7 q3 q4 (o1.en e (List.mem_append_right _ List.mem_cons_self)).1
      rw [he1] at R
      exact R.comp M1 (by simp only [List.length_cons]; omega)
  · have kd : ((nd'.kind : Nat) : Int) = if nd'.leaf = true then 1 else 2 := by unfold Nd.kind; split <;> rfl
    rw [kd]
    cases m with
    | zero =>
      have hlf : nd'.leaf = true := W.1
      have ez := ok.z hlf
      rw [if_pos hlf]
      have xo : EnOk nd'.leaf ⟨key, v, 0⟩ := by rw [hlf]; exact ⟨hm, by show 0 < 65536; decide, rfl⟩
      have leafJ : ∀ x a1 c1, Sub h2 x ∨ Keep S h x → Keep S h x → PgAt x pb jb db S n D P → NdVw x k' a1 c1 ⟨nd'.leaf, nd'.first, putL ⟨key, v, 0⟩ nd'.l⟩ → (∀ b, blkOf a1 b → ¬ S b) → InsJ pb jb db S n D P 0 id f t (kvPut key v (entsN (P.pgs D n) 0 nd')) (idsN (P.pgs D n) 0 nd') h k' x := by
        intro x a1 c1 _ kp Ex Nx nx
        refine ⟨P, _, a1, c1, Ex, kp, Nx, nx, ⟨fun e he => ?_, ok.first, ok.z⟩, ?_, ⟨hlf, putL_ok W.2 hf ht⟩, trivial, by rw [pn]; rfl, hid, nN, putL_kv _ _, Mv.refl _ _ _ _, Nat.le_refl _⟩
        · rcases putL_mem he with rfl | he
          · exact xo
          · exact ok.en e he
        · show Nd.base nd'.leaf + eszs nd'.leaf (putL ⟨key, v, 0⟩ nd'.l) ≤ if nd'.leaf = true then 1491 else 1091
          have h1 := putL_size nd'.leaf ⟨key, v, 0⟩ nd'.l
          have h2 := (esz_le xo).2
          rw [if_pos hlf] at h2 ⊢
          unfold Nd.size at hsz0
          omega
      refine split_eq (fun _ => place_spec No.ex srt (by omega) key fun h3 s3 => ⟨_, rfl, ?_⟩) fun e => absurd rfl e
      have s23 := s2.trans s3
      have N3 := No.vw.sub s3
      have O3 := No.own.sub s3
      have hat := kvAt_le key nd'.kv
      rw [nd'.kv_len] at hat
      rw [Int.toNat_natCast]
      have nput : kvIs key nd'.kv = false → ∀ K', (∀ h5, InsJ pb jb db S n D P 0 id f t (kvPut key v (entsN (P.pgs D n) 0 nd')) (idsN (P.pgs D n) 0 nd') h k' h5 → K' (.tuple #[]) h5) → CallsH Tryz.prog btree_node_put.id #[.pointer (some ⟨k', 0, none⟩), .int .i64 (kvAt key nd'.kv : Nat), .agg #[.string key, .string v, .int .i64 0]] h3 K' := fun hi K' hK' => by
        refine nput_spec N3 ⟨key, v, 0⟩ hat (by omega) fun h5 a5 c5 N5 k5 nb5 => hK' h5 ?_
        rw [show kvAt key nd'.kv = kvAt (En.key ⟨key, v, 0⟩) (nd'.l.map En.kv) from rfl, none_putL hi] at N5
        have kp : Keep S h h5 := fun c o hc hs => k5 c o (s23 c o hc) fun e => by rw [e, k0] at hc; cases hc
        exact leafJ h5 a5 c5 (.inr kp) kp ((E.sub s23).out k5 fun c hc e => nk (e ▸ hc)) N5 fun b hb => S_out E (s23.none (nb5 b hb))
      refine ⟨k', 0, rfl, _, _, _, N3.ex.c2, split_dec (fun g => ?_) fun g => ?_⟩
      · have g : ((kvAt key nd'.kv : Nat) : Int) < ((nd'.l.length : Nat) : Int) := g
        have he : nd'.l[kvAt key nd'.kv]? = some (nd'.l[kvAt key nd'.kv]'(by omega)) := List.getElem?_eq_getElem (by omega)
        generalize nd'.l[kvAt key nd'.kv]'(by omega) = en at he
        obtain ⟨b, o, ea, g0, g1, g2⟩ := N3.ex.get he
        refine ⟨k', 0, rfl, _, _, _, N3.ex.c2, by omega, g, b, o, ea, _, g0, split_beqS (fun ek => ?_) fun ek => nput ?_ _ fun h5 J => ⟨rfl, J⟩⟩
        · obtain ⟨b', ea', st, O'⟩ := O3.put enC_len he (by decide) (j := 0) (vs := enC ⟨key, v, 0⟩) (y := ⟨key, v, 0⟩) (by show 0 + 3 ≤ 3; decide) rfl
          have kpb := Keep.put (fun c => c = b') h3 (0 + kvAt key nd'.kv * 3 + 0) (enC ⟨key, v, 0⟩) rfl
          have hb0 : h b' = none := fra b' ⟨0, none, ea'⟩
          have hi : kvIs (En.key ⟨key, v, 0⟩) (nd'.l.map En.kv) = true := by
            unfold kvIs
            rw [show (nd'.l.map En.kv)[kvAt (En.key ⟨key, v, 0⟩) (nd'.l.map En.kv)]? = some en.kv from Nd.kv_get he]
            exact decide_eq_true ek
          rw [show kvAt key nd'.kv = kvAt (En.key ⟨key, v, 0⟩) (nd'.l.map En.kv) from rfl, set_putL hi] at O'
          have kp : Keep S h (h3.put b' (0 + kvAt key nd'.kv * 3 + 0) (enC ⟨key, v, 0⟩)) := fun c o hc hs => kpb c o (s23 c o hc) fun e => by rw [e, hb0] at hc; cases hc
          refine ⟨k', 0, rfl, _, _, _, N3.ex.c2, by omega, g, b', 0, ea', st, leafJ _ a c (.inr kp) kp ((E.sub s23).out kpb fun c hc e => na b' ⟨0, none, ea'⟩ (e ▸ hc)) ⟨?_, own_vw O', N3.ne⟩ na⟩
          have := N3.blk.keep kpb fun e => N3.ne b' ⟨0, none, ea'⟩ e.symm
          unfold ndC at this ⊢
          rw [show (Nd.l ⟨nd'.leaf, nd'.first, putL ⟨key, v, 0⟩ nd'.l⟩).length = nd'.l.length by
            show (putL ⟨key, v, 0⟩ nd'.l).length = _
            rw [← set_putL hi, List.length_set]]
          exact this
        · unfold kvIs
          rw [Nd.kv_get he]
          exact decide_eq_false ek
      · have g : ¬ ((kvAt key nd'.kv : Nat) : Int) < ((nd'.l.length : Nat) : Int) := g
        refine nput ?_ _ fun h5 J => ⟨rfl, J⟩
        unfold kvIs
        rw [List.getElem?_eq_none (by rw [nd'.kv_len]; omega)]
    | succ m =>
      have hlf : nd'.leaf = false := W.1
      rw [if_neg (by rw [hlf]; decide)]
      obtain ⟨l1, l2, K1, c', A⟩ := kid_at' hpk W hf ht
      have hbe := A.be
      have hkid := A.kid
      have hl := A.l
      rw [hbe] at hkid
      have hln : l1.length ≤ nd'.l.length := by rw [hl, List.length_append]; omega
      have nsub : (ids (P.pgs D n) m c'.2).Nodup := by
        have := nN
        rw [A.is, idsK_append, idsK_append, idsK_one] at this
        exact (List.nodup_append.1 (List.nodup_append.1 this).1).2.1
      have apart : ∀ {P1 : Pg} {I'}, Mv n D P P1 (idsN (P.pgs D n) (m + 1) nd') I' → P1.pgs D n id = some nd' ∧ id ∉ I' := fun M => by
        have ap := M.apart (R := [id]) fun i hi => by rw [List.mem_singleton.1 hi]; exact ⟨by rw [pn]; rfl, hid⟩
        exact ⟨(ap.1 id List.mem_cons_self).trans pn, ap.2 id List.mem_cons_self⟩
      have lift : ∀ {P1 : Pg} {I'}, Mv n D P P1 (idsN (P.pgs D n) (m + 1) nd') I' → Mv n D P P1 (id :: idsN (P.pgs D n) (m + 1) nd') (id :: I') := fun M =>
        M.lift (fun i hi => List.mem_cons_of_mem _ hi) (fun i hi => (List.mem_cons.1 hi).elim (fun e => .inr (e ▸ List.mem_cons_self)) .inl) (by simp only [List.length_cons]; omega)
      have naA := A.na F
      have esA : ∀ {X : List KV}, X = kvPut key v (ents (P.pgs D n) m c'.2) → (entsK (P.pgs D n) m K1).flatten ++ (X ++ (entsK (P.pgs D n) m (l2.map clE)).flatten) = kvPut key v (entsN (P.pgs D n) (m + 1) nd') := fun e => by
        rw [e, A.es, kvPut_right _ _ A.lt, kvPut_left _ _ A.gt]
      refine split_eq (fun e => by cases e) fun _ => below_spec No.ex srt (by omega) key fun h3 s3 => ⟨_, rfl, kid_spec (No.ex.sub s3) hkid ⟨_, rfl, Sub.refl _, ?_⟩⟩
      have s23 := s2.trans s3
      refine ih m (by omega) (E.sub s23) (Blk.sub T s23) A.tr nsub A.lo A.hi (by omega) (fun h4 P1 E4 k4 R => ?_) fun h4 P1 u e E4 k4 Bu u0 R => ?_
      · refine ⟨_, _, rfl, split_ne (fun e => absurd rfl e) fun _ => split_cond (fun _ => hN h4 P1 E4 ((s23.keep S).trans k4) ?_) fun e => by cases e⟩
        obtain ⟨W1, e1, n1, M1, len1⟩ := A.one W nN R.tr R.mv R.nd
        obtain ⟨pid, hid1⟩ := apart M1
        have rl := R.len
        refine ⟨TrS_iff.2 ⟨nd', pid, W1, ?_⟩, ?_, ?_, ?_, ?_⟩
        · show NA (entsK (P1.pgs D n) m (nd'.cl f))
          rw [e1, R.es]
          exact NA_mid (NA_left naA) (NA_tail (NA_right naA)) (kvPut_ne _ _)
        · rw [ents_N pid]
          show (entsK (P1.pgs D n) m (nd'.cl f)).flatten = _
          rw [e1, List.flatten_append, List.flatten_cons]
          exact esA R.es
        · rw [ids_N pid]; exact List.nodup_cons.2 ⟨hid1, n1⟩
        · rw [ids_N pid]; exact lift M1
        · rw [ids_N pid]; simp only [List.length_cons]; omega
      · have N4 := (No.vw.sub s3).keep k4 nk na
        have e1 : IntKind.i64.wrap (((kvBe key nd'.kv : Nat) : Int) - 1 + 1) = ((kvBe key nd'.kv : Nat) : Int) := by rw [wid (by omega) (by omega)]; omega
        refine ⟨_, _, rfl, split_ne (fun e => absurd rfl e) fun _ => split_cond (fun e => by cases e) fun _ => ⟨u, 0, rfl, _, Bu.cell' 0 rfl, _, Bu.cell' 1 rfl, _, Bu.cell' 2 rfl, ?_⟩⟩
        rw [e1]
        refine nput_spec N4 e (by omega) (by omega) fun h5 a5 c5 N5 k5 nb5 => ⟨rfl, ?_⟩
        have tk : nd'.l.take (kvBe key nd'.kv) = l1 := by rw [← hbe, hl, List.take_left]
        have dr : nd'.l.drop (kvBe key nd'.kv) = l2 := by rw [← hbe, hl, List.drop_left]
        rw [tk, dr] at N5
        obtain ⟨W1, e1, n1, M1, len1⟩ := A.two W nN R
        obtain ⟨pid, hid1⟩ := apart M1
        have k04 : Keep S h h4 := (s23.keep S).trans k4
        have kp : Keep S h h5 := fun c o hc hs => k5 c o (k04 c o hc hs) fun e => by rw [e, k0] at hc; cases hc
        refine ⟨P1, _, a5, c5, E4.out k5 fun c hc e => nk (e ▸ hc), kp, N5, fun b hb => S_out E4 (nb5 b hb), ⟨fun e' he' => ?_, ok.first, ok.z⟩, ?_, W1, ?_, by rw [pid]; rfl, hid1, n1, ?_, lift M1, len1⟩
        · show EnOk nd'.leaf e'
          rcases List.mem_append.1 he' with h | h
          · exact ok.en e' (by rw [hl]; exact List.mem_append_left _ h)
          · rcases List.mem_cons.1 h with rfl | h
            · rw [hlf]; exact R.ok
            · exact ok.en e' (by rw [hl]; exact List.mem_append_right _ h)
        · show Nd.base nd'.leaf + eszs nd'.leaf (l1 ++ e :: l2) ≤ if nd'.leaf = true then 1491 else 1091
          have h2 := (esz_le R.ok).2
          rw [if_neg (by decide)] at h2
          unfold Nd.size at hsz0
          rw [hl, eszs_append] at hsz0
          rw [eszs_append, eszs_cons, hlf, if_neg (by decide)]
          rw [hlf] at hsz0
          omega
        · show NA (entsK (P1.pgs D n) m (Nd.cl ⟨nd'.leaf, nd'.first, l1 ++ e :: l2⟩ f))
          rw [e1]
          exact NA_mid (NA_left naA) (NA_cons (NA_tail (NA_right naA)) R.ne2) R.ne
        · show (entsK (P1.pgs D n) m (Nd.cl ⟨nd'.leaf, nd'.first, l1 ++ e :: l2⟩ f)).flatten = _
          rw [e1, List.flatten_append, List.flatten_cons, List.flatten_cons, ← List.append_assoc (ents _ _ _)]
          exact esA R.es
end Go.Proofs.YthbogjbcecmopaaGreatDoor
namespace Go.Proofs.YthbogjbcecmopaaGreatDoor
open Go.Gx
set_option maxRecDepth 100000
set_option linter.unusedVariables false
variable {n : Nat} {D : Dk} {P P' : Pg} {h : Hp} {K : Value → Hp → Prop} {pb jb db : Nat} {S : Nat → Prop} {tb k : Nat}
theorem ppoint_ok (E : PgAt h pb jb db S n D P) {t j : Nat} (ht : t < 4) (hj : j = 0 ∨ P.why n (j : Nat) = 0) (hG : ∀ h', PgAt h' pb jb db S n D (P.point t j) → Step S h S h' → K (.int .i64 0) h') :
    CallsH Tryz.prog pager_Pager_Point.id #[.pointer (some ⟨pb, 0, none⟩), .int .i64 (t : Nat), .int .i64 (j : Nat)] h K := by
  have hn := E.n2
  apply pager_Pager_Point.calls
  unfold pager_Pager_Point.W
  refine split_dec (fun e => by omega) fun k0 => split_dec (fun e => by omega) fun k4 => ⟨fun x => x = h, ?_, split_ne (fun e => puse_spec E _ ⟨_, rfl, split_ne (fun e2 => ?_) fun e0 => rfl⟩) fun e => rfl⟩
  · rintro x rfl
    have idx : 0 + 134 + 1 + ((t : Nat) : Int).toNat * 1 = 134 + 1 + t := by rw [Int.toNat_natCast]; omega
    rw [idx]
    obtain ⟨S0, mb, pa, pc, Q, e⟩ := E.ex
    have B2 := e.blk.put (134 + 1 + t) [.int .i64 ((j : Nat) : Int)]
    rw [pgC_setR _ _ ht] at B2
    have kp : Keep (fun c => c = pb ∨ c = mb) x (x.put pb (134 + 1 + t) [.int .i64 ((j : Nat) : Int)]) := Keep.put _ x _ _ (.inl rfl)
    have hmpb : mb ≠ pb := e.d.ne e.blk
    obtain ⟨e', st⟩ := e.put (now' := { P.now with r := upR P.now.r t j }) (d' := P.d) kp B2 (e.d.keep (Keep.put (fun c => c = pb) x _ _ rfl) hmpb)
    have hj2 : j < 128 ∧ (j ≠ 0 → P.now.u j = true) := by
      rcases hj with rfl | hj
      · exact ⟨by decide, fun h => absurd rfl h⟩
      · obtain ⟨j', ej, h1, h2, h3⟩ := why_ok hj
        have : j = j' := by omega
        subst this
        exact ⟨by omega, fun _ => h3⟩
    exact ⟨by omega, by omega, e.blk.store (by rw [pgC_len]; show 134 + 1 + t + 1 ≤ 269; omega), hG _ ⟨⟨S0, mb, pa, pc, Q, e'⟩, E.ok.put (E.ok.now.point hj2.1 hj2.2) E.ok.d, E.up⟩ st⟩
  · rcases hj with rfl | hj
    · exact absurd rfl e
    · exact absurd hj e2
def TreeS (pg : Nat → Option Nd) (root : Nat) (hg : Nat) (L : List KV) (I : List Nat) : Prop := match hg with
  | 0 => root = 0 ∧ L = [] ∧ I = []
  | m + 1 => root ≠ 0 ∧ TrS pg m root eB eB ∧ L = ents pg m root ∧ I = ids pg m root ∧ I.Nodup ∧ L ≠ []
theorem TreeS.tree {pg : Nat → Option Nd} {root hg : Nat} {L : List KV} {I : List Nat} (T : TreeS pg root hg L I) : Tree pg root hg L I := by
  cases hg with
  | zero => exact T
  | succ m => exact ⟨T.1, T.2.1.tr, T.2.2.1, T.2.2.2.1, T.2.2.2.2.1⟩
theorem TreeS.frame {pg pg' : Nat → Option Nd} {root hg : Nat} {L : List KV} {I : List Nat} (T : TreeS pg root hg L I) (H : ∀ i ∈ I, pg' i = pg i) : TreeS pg' root hg L I := by
  cases hg with
  | zero => exact T
  | succ m =>
    obtain ⟨h1, h2, h3, h4, h5⟩ := T
    rw [h4] at H
    obtain ⟨g1, g2, g3⟩ := h2.tr.frame H
    exact ⟨h1, h2.frame H, h3.trans g2.symm, h4.trans g3.symm, h5⟩
theorem TreeS.used {root hg : Nat} {L : List KV} {I : List Nat} (T : TreeS (P.pgs D n) root hg L I) : ∀ i ∈ I, (P.pgs D n i).isSome = true := by
  cases hg with
  | zero => intro i hi; rw [T.2.2] at hi; cases hi
  | succ m => intro i hi; rw [T.2.2.2.1] at hi; exact T.2.1.in_pg hi
structure MvT (n : Nat) (D : Dk) (k : Nat) (P P' : Pg) (I I' : List Nat) : Prop where
  good : P'.good = P.good
  pts : P'.pts = P.pts
  ser : P'.now.s = P.now.s
  roots : ∀ t, t ≠ k → P'.now.r t = P.now.r t
  out : ∀ i, P.now.u i = true → i ∉ I → P'.now.u i = true ∧ P'.pgs D n i = P.pgs D n i
  new : ∀ i ∈ I', i ∈ I ∨ P.now.u i = false
  free : P'.freeN n + I'.length = P.freeN n + I.length
theorem Mv.t {I I' : List Nat} (M : Mv n D P P' I I') (k : Nat) : MvT n D k P P' I I' := ⟨M.good, M.pts, M.ser, fun t _ => by rw [M.roots], M.out, M.new, M.free⟩
theorem MvT.trans {P2 : Pg} {I I1 I2 : List Nat} (a : MvT n D k P P' I I1) (b : MvT n D k P' P2 I1 I2) : MvT n D k P P2 I I2 := by
  have no : ∀ i, P.now.u i = true → i ∉ I → i ∉ I1 := fun i h1 h2 h3 => (a.new i h3).elim h2 fun h => by rw [h1] at h; cases h
  refine ⟨b.good.trans a.good, b.pts.trans a.pts, b.ser.trans a.ser, fun t ht => (b.roots t ht).trans (a.roots t ht), fun i h1 h2 => ?_, fun i hi => ?_, ?_⟩
  · obtain ⟨g1, g2⟩ := a.out i h1 h2
    obtain ⟨g3, g4⟩ := b.out i g1 (no i h1 h2)
    exact ⟨g3, g4.trans g2⟩
  · rcases b.new i hi with h | h
    · exact a.new i h
    · by_cases h1 : P.now.u i = true
      · by_cases h2 : i ∈ I
        · exact .inl h2
        · rw [(a.out i h1 h2).1] at h; cases h
      · exact .inr (by simpa using h1)
  · have := a.free
    have := b.free
    omega
theorem upR_same (r : Nat → Nat) (k i : Nat) : upR r k i k = i := if_pos rfl
theorem MvT.point (k i : Nat) (I : List Nat) : MvT n D k P (P.point k i) I I := ⟨rfl, rfl, rfl, fun t ht => if_neg ht, fun j h _ => ⟨h, rfl⟩, fun j h => .inl h, rfl⟩
theorem MvT.apart {I I' R : List Nat} (M : MvT n D k P P' I I') (hR : ∀ i ∈ R, (P.pgs D n i).isSome = true ∧ i ∉ I) : (∀ i ∈ R, P'.pgs D n i = P.pgs D n i) ∧ ∀ i ∈ R, i ∉ I' := by
  refine ⟨fun i hi => (M.out i (pgs_used (hR i hi).1) (hR i hi).2).2, fun i hi h => ?_⟩
  rcases M.new i h with h | h
  · exact (hR i hi).2 h
  · rw [pgs_used (hR i hi).1] at h; cases h
theorem ids_len {pg : Nat → Option Nd} : ∀ {m id : Nat} {f t : ByteArray}, Tr pg m id f t → m + 1 ≤ (ids pg m id).length
  | 0, _, _, _, _ => Nat.le_refl _
  | m + 1, id, f, t, ⟨nd, h1, h2, h3, h4⟩ => by
    have := ids_len (h4 0 nd.first rfl)
    show m + 2 ≤ (id :: (kidsOf pg id).flatMap (ids pg m)).length
    rw [kidsOf_eq h1]
    show m + 2 ≤ (id :: (nd.first :: nd.l.map En.kid).flatMap (ids pg m)).length
    rw [List.length_cons, List.flatMap_cons, List.length_append]
    omega
theorem TreeS.high {root hg : Nat} {L : List KV} {I : List Nat} (T : TreeS (P.pgs D n) root hg L I) : hg ≤ I.length ∧ I.length ≤ n := by
  cases hg with
  | zero => rw [T.2.2]; exact ⟨Nat.le_refl _, Nat.zero_le _⟩
  | succ m =>
    obtain ⟨h1, h2, h3, h4, h5, h6⟩ := T
    refine ⟨by rw [h4]; exact ids_len h2.tr, nodup_below n I h5 fun i hi => (pgs_lt (D := D) (P := P) ?_).2⟩
    rw [h4] at hi
    exact h2.in_pg hi
theorem one_node {x : Hp} {k1 k2 : Nat} {nd : Nd} {e : En} (hl : nd.l = [e]) (B1 : Blk x k1 100 (enC e)) (B2 : Blk x k2 97 [.int .i64 (nd.kind : Nat), .int .i64 (nd.first : Nat), .slice (some ⟨k1, 0, none⟩) 1 1]) : NdEx x k2 (some ⟨k1, 0, none⟩) 1 nd := by
  refine ⟨?_, ?_, by rw [hl]; exact Nat.le_refl _, fun b ⟨o, s, e'⟩ e2 => ?_⟩
  · unfold ndC
    rw [hl]; exact B2
  · rw [hl]
    exact RowAt.blk (by rw [rowC_one]; exact B1) enC_len
  · cases e'
    subst e2
    exact absurd (B1.inj B2).1 (by decide)
set_option maxHeartbeats 4000000 in
theorem put_spec (E : PgAt h pb jb db S n D P) (T : TrAt h tb pb k) (nt : ¬ S tb) (hk : k < 4) {hg : Nat} {L : List KV} {I : List Nat} (TT : TreeS (P.pgs D n) (P.now.r k) hg L I) (key v : ByteArray) (hB : may key v = false → K (.int .i64 1) h) (hF : may key v = true → P.freeN n < hg + 1 → ∀ h', Sub h h' → K (.int .i64 5) h')
    (hG : may key v = true → hg + 1 ≤ P.freeN n → ∀ h' P' hg' I', PgAt h' pb jb db S n D P' → Keep S h h' → TreeS (P'.pgs D n) (P'.now.r k) hg' (kvPut key v L) I' → MvT n D k P P' I I' → I'.length ≤ I.length + hg + 1 → K (.int .i64 0) h') :
    CallsH Tryz.prog btree_Tree_Put.id #[.pointer (some ⟨tb, 0, none⟩), .string key, .string v] h K := by
  have hn := E.n2
  have hhg : hg ≤ 128 := by have := TT.high; omega
  have hfl := freeN_le P n
  apply btree_Tree_Put.calls
  unfold btree_Tree_Put.W
  refine may_spec key v ⟨_, rfl, split_not (fun hm => hB hm) fun hm => ⟨_, T.cell' 0 rfl, free_spec E ⟨_, rfl, height_spec E T hk TT.tree (by omega) fun h9 s9 => ⟨_, rfl, ?_⟩⟩⟩⟩
  have e1 : IntKind.i64.wrap ((hg : Int) + 1) = ((hg + 1 : Nat) : Int) := by rw [wid (by omega) (by omega)]; omega
  rw [e1]
  refine split_dec (fun g => hF hm (by omega) h9 s9) fun g => ?_
  have hG := hG hm (by omega)
  have E9 := E.sub s9
  have T9 : TrAt h9 tb pb k := Blk.sub T s9
  have ks := may_key64 hm
  have vs : v.size ≤ 400 := by
    unfold may at hm
    have := of_decide_eq_true hm
    omega
  refine ⟨_, T9.cell' 0 rfl, _, T9.cell' 1 rfl, root_spec E9 hk ⟨_, rfl, split_eq (fun e0 => ?_) fun e0 => ?_⟩⟩
  · cases hg with
    | succ m => exact absurd (by omega) TT.1
    | zero =>
      obtain ⟨_, rfl, rfl⟩ := TT
      refine ⟨_, T9.cell' 0 rfl, alloc_spec E9 (fun H => absurd H (free_some E9 (by omega))) fun i i1 i2 i3 _ h3 E3 st3 => ⟨_, _, rfl, split_ne (fun e => absurd rfl e) fun _ => fun k21 hk21 k22 hk22 => ?_⟩⟩
      have T3 : TrAt h3 tb pb k := Blk.keep T9 st3.1 nt
      have hx : setL [Value.string (bytesL []), .string (bytesL []), .int .i64 0] 0 (setL (setL [Value.string (bytesL []), .string (bytesL []), .int .i64 0] 0 [.string key]) 1 [.string v]) = enC ⟨key, v, 0⟩ := rfl
      rw [hx] at hk22
      have hx2 : #[Value.string key, .string v, .int .i64 0] = (enC ⟨key, v, 0⟩).toArray := rfl
      rw [hx2]
      have B21 := (Blk.new h3 k21 100 (enC ⟨key, v, 0⟩)).upd hk22 (.cells [Value.int .i64 1, .int .i64 0, .slice (some ⟨k21, 0, none⟩) 1 1].toArray 97 (0, 0))
      have B22 := Blk.new (h3.upd k21 (.cells (enC ⟨key, v, 0⟩).toArray 100 (0, 0))) k22 97 [.int .i64 1, .int .i64 0, .slice (some ⟨k21, 0, none⟩) 1 1]
      have s22 := (Sub.upd hk21 (.cells (enC ⟨key, v, 0⟩).toArray 100 (0, 0))).trans (Sub.upd hk22 (.cells [Value.int .i64 1, .int .i64 0, .slice (some ⟨k21, 0, none⟩) 1 1].toArray 97 (0, 0)))
      generalize (h3.upd k21 (.cells (enC ⟨key, v, 0⟩).toArray 100 (0, 0))).upd k22 (.cells [Value.int .i64 1, .int .i64 0, .slice (some ⟨k21, 0, none⟩) 1 1].toArray 97 (0, 0)) = y at B21 B22 s22 ⊢
      have N : NdEx y k22 _ 1 ⟨true, 0, [⟨key, v, 0⟩]⟩ := one_node rfl B21 B22
      have o : NdOk ⟨true, 0, [⟨key, v, 0⟩]⟩ := by
        refine ⟨fun e he => ?_, by show 0 < 65536; decide, ?_, fun _ => rfl⟩
        · rw [List.mem_singleton.1 he]; exact ⟨hm, by show 0 < 65536; decide, rfl⟩
        · show 3 + (3 + key.size + v.size + 0) ≤ 1024
          omega
      have hw : (P.alloc i).why n (i : Nat) = 0 := why_i i1 i2 (upU_same _ _ _)
      refine store_spec (E3.sub s22) (Blk.sub T3 s22) N o hw fun h4 E4 k4 => ⟨rfl, ?_⟩
      have T4 : TrAt h4 tb pb k := Blk.keep (Blk.sub T3 s22) k4 nt
      refine ⟨_, T4.cell' 0 rfl, _, T4.cell' 1 rfl, ppoint_ok E4 hk (.inr hw) fun h5 E5 st5 => ⟨_, rfl, ?_⟩⟩
      have pi : ((P.alloc i).write i (pageB ⟨true, 0, [⟨key, v, 0⟩]⟩)).pgs D n i = some ⟨true, 0, [⟨key, v, 0⟩]⟩ := pgs_write_same hw o
      refine hG h5 _ 1 [i] E5 ((s9.keep S).trans (st3.1.trans ((s22.keep S).trans (k4.trans st5.1)))) ⟨?_, ⟨⟨true, 0, [⟨key, v, 0⟩]⟩, ?_, rfl, ?_⟩, ?_, ?_, by simp, kvPut_ne _ _⟩ ?_ (by show 1 ≤ 0 + 0 + 1; decide)
      · rw [show ((((P.alloc i).write i (pageB ⟨true, 0, [⟨key, v, 0⟩]⟩)).point k i).now.r k) = i from upR_same _ _ _]; omega
      · rw [show ((((P.alloc i).write i (pageB ⟨true, 0, [⟨key, v, 0⟩]⟩)).point k i).now.r k) = i from upR_same _ _ _]; exact pi
      · exact keysOk_iff.2 ⟨fun e he => by rw [List.mem_singleton.1 he]; exact ⟨blt_eB key, fun h => absurd rfl h⟩, List.pairwise_singleton _ _⟩
      · rw [show ((((P.alloc i).write i (pageB ⟨true, 0, [⟨key, v, 0⟩]⟩)).point k i).now.r k) = i from upR_same _ _ _]
        exact (ents_N (m := 0) pi).symm
      · rw [show ((((P.alloc i).write i (pageB ⟨true, 0, [⟨key, v, 0⟩]⟩)).point k i).now.r k) = i from upR_same _ _ _]; rfl
      · exact (((Mv.alloc i2 i3 []).trans (Mv.write List.mem_cons_self _)).t k).trans (MvT.point k i [i])
  · cases hg with
    | zero => exact absurd (by rw [TT.1]; rfl) e0
    | succ m =>
      obtain ⟨r0, T0, rfl, rfl, nI, _⟩ := TT
      refine insert_spec nt hm m E9 T9 T0 nI (blt_eB key) (fun h => absurd rfl h) (by omega) (fun h4 P1 E4 k4 R => ⟨_, _, rfl, split_ne (fun e => absurd rfl e) fun _ => split_cond (fun _ => ?_) fun e => by cases e⟩) fun h4 P1 u e E4 k4 Bu u0 R => ⟨_, _, rfl, split_ne (fun e => absurd rfl e) fun _ => split_cond (fun e => by cases e) fun _ => ?_⟩
      · refine hG h4 P1 (m + 1) _ E4 ((s9.keep S).trans k4) ⟨?_, ?_, ?_, rfl, ?_, kvPut_ne _ _⟩ ?_ ?_
        · rw [R.mv.roots]; exact r0
        · rw [R.mv.roots]; exact R.tr
        · rw [R.mv.roots]; exact R.es.symm
        · rw [R.mv.roots]; exact R.nd
        · rw [R.mv.roots]; exact R.mv.t k
        · rw [R.mv.roots]; have := R.len; omega
      · have fr := R.mv.free
        have rl := R.len
        have T4 : TrAt h4 tb pb k := Blk.keep T9 k4 nt
        refine ⟨_, T4.cell' 0 rfl, alloc_spec E4 (fun H => absurd H (free_some E4 (by omega))) fun i i1 i2 i3 _ h3 E3 st3 => ⟨_, _, rfl, split_ne (fun e => absurd rfl e) fun _ => ?_⟩⟩
        have T3 : TrAt h3 tb pb k := Blk.keep T4 st3.1 nt
        have nu : ¬ S u := S_out E9 u0
        have B3 := Bu.keep st3.1 nu
        refine ⟨u, 0, rfl, _, B3.cell' 0 rfl, _, B3.cell' 1 rfl, _, B3.cell' 2 rfl, fun k21 hk21 k22 hk22 => ?_⟩
        have hx : setL [Value.string (bytesL []), .string (bytesL []), .int .i64 0] 0 [.string e.key, .string e.val, .int .i64 (e.kid : Nat)] = enC e := rfl
        rw [hx] at hk22
        have hx2 : #[Value.string e.key, .string e.val, .int .i64 (e.kid : Nat)] = (enC e).toArray := rfl
        rw [hx2]
        have B21 := (Blk.new h3 k21 100 (enC e)).upd hk22 (.cells [Value.int .i64 2, .int .i64 (P.now.r k : Nat), .slice (some ⟨k21, 0, none⟩) 1 1].toArray 97 (0, 0))
        have B22 := Blk.new (h3.upd k21 (.cells (enC e).toArray 100 (0, 0))) k22 97 [.int .i64 2, .int .i64 (P.now.r k : Nat), .slice (some ⟨k21, 0, none⟩) 1 1]
        have s22 := (Sub.upd hk21 (.cells (enC e).toArray 100 (0, 0))).trans (Sub.upd hk22 (.cells [Value.int .i64 2, .int .i64 (P.now.r k : Nat), .slice (some ⟨k21, 0, none⟩) 1 1].toArray 97 (0, 0)))
        generalize (h3.upd k21 (.cells (enC e).toArray 100 (0, 0))).upd k22 (.cells [Value.int .i64 2, .int .i64 (P.now.r k : Nat), .slice (some ⟨k21, 0, none⟩) 1 1].toArray 97 (0, 0)) = y at B21 B22 s22 ⊢
        have N : NdEx y k22 _ 1 ⟨false, P.now.r k, [e]⟩ := one_node rfl B21 B22
        have rb := (E.ok.now.roots k hk).1
        have o : NdOk ⟨false, P.now.r k, [e]⟩ := by
          refine ⟨fun e' he => ?_, by show P.now.r k < 65536; omega, ?_, fun h => by cases h⟩
          · rw [List.mem_singleton.1 he]; exact R.ok
          · have := (esz_le R.ok).2
            rw [if_neg (by decide)] at this
            show 5 + (Nd.esz false e + 0) ≤ 1024
            omega
        have hw : (P1.alloc i).why n (i : Nat) = 0 := why_i i1 i2 (upU_same _ _ _)
        refine store_spec (E3.sub s22) (Blk.sub T3 s22) N o hw fun h5 E5 k5 => ⟨rfl, ?_⟩
        have T5 : TrAt h5 tb pb k := Blk.keep (Blk.sub T3 s22) k5 nt
        refine ⟨_, T5.cell' 0 rfl, _, T5.cell' 1 rfl, ppoint_ok E5 hk (.inr hw) fun h6 E6 st6 => ⟨_, rfl, ?_⟩⟩
        have pi : ((P1.alloc i).write i (pageB ⟨false, P.now.r k, [e]⟩)).pgs D n i = some ⟨false, P.now.r k, [e]⟩ := pgs_write_same hw o
        have W1 : Fw (P1.pgs D n) (m + 1) ⟨false, P.now.r k, [e]⟩ eB eB := ⟨rfl, ⟨keysOk_iff.2 ⟨fun e' he => by rw [List.mem_singleton.1 he]; exact ⟨blt_eB _, fun h => absurd rfl h⟩, List.pairwise_singleton _ _⟩, fun e' he => by rw [List.mem_singleton.1 he]; exact R.lo⟩, R.tr, R.tr2, trivial⟩
        have F1 : Fn (P1.pgs D n) (m + 1) ⟨false, P.now.r k, [e]⟩ := ⟨fun h => R.ne h.1, trivial⟩
        have iN : idsN (P1.pgs D n) (m + 1) ⟨false, P.now.r k, [e]⟩ = ids (P1.pgs D n) m (P.now.r k) ++ ids (P1.pgs D n) m e.kid := by
          show idsK (P1.pgs D n) m [(eB, P.now.r k), clE e] = _
          unfold idsK; simp [clE]
        have eN : entsN (P1.pgs D n) (m + 1) ⟨false, P.now.r k, [e]⟩ = ents (P1.pgs D n) m (P.now.r k) ++ ents (P1.pgs D n) m e.kid := by
          show (entsK (P1.pgs D n) m [(eB, P.now.r k), clE e]).flatten = _
          unfold entsK; simp [clE]
        have ni : ∀ j ∈ idsN (P1.pgs D n) (m + 1) ⟨false, P.now.r k, [e]⟩, j ≠ i := fun j hj ej => by
          have := pgs_used (W1.in_pg hj)
          rw [ej, i3] at this; cases this
        obtain ⟨g1, g2, g3⟩ := TrS.put (pg' := ((P1.alloc i).write i (pageB ⟨false, P.now.r k, [e]⟩)).pgs D n) W1 F1 pi fun j hj => (pgs_write_ne (ni j hj)).trans (pgs_alloc_ne (ni j hj))
        have er : (((P1.alloc i).write i (pageB ⟨false, P.now.r k, [e]⟩)).point k i).now.r k = i := upR_same _ _ _
        refine hG h6 _ (m + 2) (i :: (ids (P1.pgs D n) m (P.now.r k) ++ ids (P1.pgs D n) m e.kid)) E6 ((s9.keep S).trans (k4.trans (st3.1.trans ((s22.keep S).trans (k5.trans st6.1))))) ⟨?_, ?_, ?_, ?_, ?_, kvPut_ne _ _⟩ ?_ ?_
        · rw [er]; omega
        · rw [er]; exact g1
        · rw [er]; exact (g2.trans (eN.trans R.es)).symm
        · rw [er, ← iN]; exact g3.symm
        · exact List.nodup_cons.2 ⟨fun hi => ni i (iN ▸ hi) rfl, R.nd⟩
        · exact ((R.mv.trans ((Mv.alloc i2 i3 _).trans (Mv.write List.mem_cons_self _))).t k).trans (MvT.point k i _)
        · rw [List.length_cons]; omega
end Go.Proofs.YthbogjbcecmopaaGreatDoor
namespace Go.Proofs.YthbogjbcecmopaaGreatDoor
open Go.Gx
set_option maxRecDepth 100000
set_option linter.unusedVariables false
variable {n : Nat} {D : Dk} {P P' : Pg} {h : Hp} {K : Value → Hp → Prop} {pb jb db : Nat} {S : Nat → Prop} {tb k : Nat}
theorem keysS_sub {f t : ByteArray} {l l' : List En} (h : keysS f t l) (s : l'.Sublist l) : keysS f t l' := by
  obtain ⟨h1, h2⟩ := keysOk_iff.1 h.1
  exact ⟨keysOk_iff.2 ⟨fun e he => h1 e (s.subset he), List.Pairwise.sublist (s.map _) h2⟩, fun e he => h.2 e (s.subset he)⟩
structure JoinAt (n : Nat) (D : Dk) (P P' : Pg) (m : Nat) (t : ByteArray) (c : Cl) (e : En) (l2 : List En) : Prop where
  tr : TrS (P'.pgs D n) m c.2 c.1 (hdK t (l2.map clE))
  es : ents (P'.pgs D n) m c.2 = ents (P.pgs D n) m c.2 ++ ents (P.pgs D n) m e.kid
  nd : (ids (P'.pgs D n) m c.2).Nodup
  mv : Mv n D P P' (ids (P.pgs D n) m c.2 ++ ids (P.pgs D n) m e.kid) (ids (P'.pgs D n) m c.2)
  fr : P.freeN n ≤ P'.freeN n
theorem join_up {m : Nat} {lf : Bool} {fi : Nat} {l1 l2 : List En} {e : En} {f t : ByteArray} {K1 : List Cl} {c : Cl} (hcl : ∀ l, Nd.cl ⟨lf, fi, l1 ++ l⟩ f = K1 ++ c :: l.map clE) (h : Fw (P.pgs D n) (m + 1) ⟨lf, fi, l1 ++ e :: l2⟩ f t) (nN : (idsN (P.pgs D n) (m + 1) ⟨lf, fi, l1 ++ e :: l2⟩).Nodup) (R : JoinAt n D P P' m t c e l2) :
    Fw (P'.pgs D n) (m + 1) ⟨lf, fi, l1 ++ l2⟩ f t ∧ entsK (P'.pgs D n) m (Nd.cl ⟨lf, fi, l1 ++ l2⟩ f) = entsK (P.pgs D n) m K1 ++ (ents (P.pgs D n) m c.2 ++ ents (P.pgs D n) m e.kid) :: entsK (P.pgs D n) m (l2.map clE) ∧ (idsN (P'.pgs D n) (m + 1) ⟨lf, fi, l1 ++ l2⟩).Nodup ∧
      Mv n D P P' (idsN (P.pgs D n) (m + 1) ⟨lf, fi, l1 ++ e :: l2⟩) (idsN (P'.pgs D n) (m + 1) ⟨lf, fi, l1 ++ l2⟩) := by
  have hc := h.2.2
  have ec : Nd.cl ⟨lf, fi, l1 ++ e :: l2⟩ f = K1 ++ [c, clE e] ++ l2.map clE := by rw [hcl, List.append_assoc]; rfl
  have ec2 : Nd.cl ⟨lf, fi, l1 ++ l2⟩ f = K1 ++ [c] ++ l2.map clE := by rw [hcl, List.append_assoc]; rfl
  have nN' : (idsK (P.pgs D n) m (Nd.cl ⟨lf, fi, l1 ++ e :: l2⟩ f)).Nodup := nN
  rw [ec] at hc nN'
  have i2 : idsK (P.pgs D n) m [c, clE e] = ids (P.pgs D n) m c.2 ++ ids (P.pgs D n) m e.kid := by unfold idsK; simp [clE]
  have M := R.mv
  rw [← idsK_one (P'.pgs D n) m c, ← i2] at M
  obtain ⟨g1, g2, g3, g4, g5⟩ := ChS.repl (X' := [c]) hc nN' M ⟨R.tr, trivial⟩ rfl (by rw [idsK_one]; exact R.nd)
  have g4' : Mv n D P P' (idsK (P.pgs D n) m (Nd.cl ⟨lf, fi, l1 ++ e :: l2⟩ f)) (idsK (P'.pgs D n) m (Nd.cl ⟨lf, fi, l1 ++ l2⟩ f)) := by rw [ec, ec2]; exact g4
  rw [← ec2] at g1 g2 g3
  refine ⟨⟨h.1, keysS_sub h.2.1 (List.Sublist.append_left (List.sublist_cons_self _ _) _), g1⟩, ?_, g3, g4'⟩
  rw [g2, List.append_assoc]
  show _ ++ ([ents (P'.pgs D n) m c.2] ++ _) = _
  rw [R.es]; rfl
theorem kid_spec' {kk : Nat} {a : Option Addr} {c : Nat} {nd : Nd} (N : NdEx h kk a c nd) {j id : Nat} (hj : nd.kids[j + 1]? = some id) (hK : K (.int .i64 (id : Nat)) h) : CallsH Tryz.prog btree_node_kid.id #[.pointer (some ⟨kk, 0, none⟩), .int .i64 (j : Nat)] h K := by
  have e : ((j : Nat) : Int) = ((j + 1 : Nat) : Int) - 1 := by omega
  rw [e]
  exact kid_spec N hj hK
theorem join_out {kk : Nat} {a : Option Addr} {c : Nat} {nd : Nd} (N : NdEx h kk a c nd) (hl : nd.l.length < 65536) (i : Int) (hi : i < -1 ∨ (i + 1 ≥ nd.l.length ∧ i < 70000)) (hK : K (.bool false) h) : CallsH Tryz.prog btree_Tree_join.id #[.pointer (some ⟨tb, 0, none⟩), .pointer (some ⟨kk, 0, none⟩), .int .i64 i] h K := by
  apply btree_Tree_join.calls
  unfold btree_Tree_join.W
  refine split_dec (fun _ => hK) fun g => ⟨_, _, _, N.c2, ?_⟩
  rw [wid (by omega) (by omega)]
  refine split_dec (fun _ => hK) fun g2 => absurd ?_ g2
  show i + 1 ≥ ((nd.l.length : Nat) : Int)
  omega
def JoinJ (pb jb db : Nat) (S : Nat → Prop) (n : Nat) (D : Dk) (P : Pg) (m : Nat) (f t : ByteArray) (L : List KV) (I : List Nat) (h : Hp) (k' : Nat) (x : Hp) : Prop :=
  ∃ P1 nd1 a1 c1, PgAt x pb jb db S n D P1 ∧ Keep S h x ∧ NdEx x k' a1 c1 nd1 ∧ Fw (P1.pgs D n) m nd1 f t ∧ Fn (P1.pgs D n) m nd1 ∧ NdOk nd1 ∧ entsN (P1.pgs D n) m nd1 = L ∧ Mv n D P P1 I (idsN (P1.pgs D n) m nd1) ∧ (idsN (P1.pgs D n) m nd1).Nodup ∧ P.freeN n ≤ P1.freeN n
def midL (a : Nd) (s : ByteArray) (b : Nd) : List En := if a.leaf then a.l else a.l ++ [⟨s, eB, b.first⟩]
theorem midL_merge (a b : Nd) (s : ByteArray) : midL a s b ++ b.l = (mergeN a s b).l := by
  unfold midL mergeN
  cases a.leaf with
  | true => rfl
  | false => show (a.l ++ [_]) ++ b.l = a.l ++ _ :: b.l; rw [List.append_assoc]; rfl
set_option maxHeartbeats 8000000 in
theorem join_spec (nt : ¬ S tb) (m : Nat) : ∀ {h : Hp} {K : Value → Hp → Prop} {P : Pg} {kk : Nat} {a : Option Addr} {c : Nat} {lf : Bool} {fi : Nat} {l1 l2 : List En} {e : En} {f t : ByteArray} {K1 : List Cl} {cc : Cl}, PgAt h pb jb db S n D P → TrAt h tb pb k → NdVw h kk a c ⟨lf, fi, l1 ++ e :: l2⟩ → ¬ S kk → (∀ b, blkOf a b → ¬ S b) →
    NdOk ⟨lf, fi, l1 ++ e :: l2⟩ → Fw (P.pgs D n) (m + 1) ⟨lf, fi, l1 ++ e :: l2⟩ f t → (idsN (P.pgs D n) (m + 1) ⟨lf, fi, l1 ++ e :: l2⟩).Nodup → (∀ t, t < 4 → P.now.r t ∉ idsN (P.pgs D n) (m + 1) ⟨lf, fi, l1 ++ e :: l2⟩) →
    (∀ l, Nd.cl ⟨lf, fi, l1 ++ l⟩ f = K1 ++ cc :: l.map clE) → (∀ l, (Nd.kids ⟨lf, fi, l1 ++ l⟩)[l1.length]? = some cc.2) →
    (∀ h', Sub h h' → ¬ (ents (P.pgs D n) m cc.2 = [] ∧ ents (P.pgs D n) m e.kid = []) → K (.bool false) h') →
    (∀ h' P' a' c', PgAt h' pb jb db S n D P' → Keep (fun b => S b ∨ b = kk) h h' → NdVw h' kk a' c' ⟨lf, fi, l1 ++ l2⟩ → (∀ b, blkOf a' b → ¬ S b) → JoinAt n D P P' m t cc e l2 → K (.bool true) h') →
    CallsH Tryz.prog btree_Tree_join.id #[.pointer (some ⟨tb, 0, none⟩), .pointer (some ⟨kk, 0, none⟩), .int .i64 ((l1.length : Nat) - 1 : Int)] h K := by
  induction m using Nat.strongRecOn with
  | ind m ih =>
  intro h K P kk a c lf fi l1 l2 e f t K1 cc E T N nk na o W nN nr hcl hkid hF hT
  have hn := E.n2
  have hpk := pgs_ok E
  have ll := o.len
  have ll : 4 * (l1 ++ e :: l2).length ≤ 1024 := ll
  rw [List.length_append, List.length_cons] at ll
  have e1 : IntKind.i64.wrap (((l1.length : Nat) : Int) - 1 + 1) = ((l1.length : Nat) : Int) := by rw [wid (by omega) (by omega)]; omega
  have e2 : IntKind.i64.wrap (((l1.length : Nat) : Int) - 1 + 2) = ((l1.length + 1 : Nat) : Int) := by rw [wid (by omega) (by omega)]; omega
  have hk1 : (Nd.kids ⟨lf, fi, l1 ++ e :: l2⟩)[l1.length + 1]? = some e.kid := by
    unfold Nd.kids
    show (fi :: List.map En.kid (l1 ++ e :: l2))[l1.length + 1]? = _
    rw [List.getElem?_cons_succ, List.map_append, List.getElem?_append_right (by rw [List.length_map]; exact Nat.le_refl _), List.length_map, Nat.sub_self]; rfl
  -- the two pages
  have hch := W.2.2
  have hks := W.2.1
  have hK1 := hcl (e :: l2)
  rw [hK1] at hch
  obtain ⟨_, q1, q2, _⟩ := ChP_append.1 hch
  have q1 : TrS (P.pgs D n) m cc.2 cc.1 e.key := q1
  have q2 : TrS (P.pgs D n) m e.kid e.key (hdK t (l2.map clE)) := q2
  obtain ⟨a0, pa, Wa, Fa⟩ := TrS_iff.1 q1
  obtain ⟨b0, pb0, Wb, Fb⟩ := TrS_iff.1 q2
  have oa := hpk _ a0 pa
  have ob := hpk _ b0 pb0
  have hlf : a0.leaf = b0.leaf := by
    cases m with
    | zero => rw [Wa.1, Wb.1]
    | succ m => rw [Wa.1, Wb.1]
  have he : EnOk lf e := o.en e (List.mem_append_right _ List.mem_cons_self)
  have hs64 := may_key64 he.1
  have cs : blt cc.1 e.key = true := by
    have hsl := cl_sorted (lf := lf) (fi := fi) hks
    rw [show Nd.cl ⟨lf, fi, Nd.l ⟨lf, fi, l1 ++ e :: l2⟩⟩ f = Nd.cl ⟨lf, fi, l1 ++ e :: l2⟩ f from rfl, hK1] at hsl
    exact (List.pairwise_cons.1 (List.pairwise_append.1 hsl).2.1).1 (clE e) List.mem_cons_self
  have ht2 : below (hdK t (l2.map clE)) e.key := by
    cases l2 with
    | nil => exact ((keysOk_iff.1 hks.1).1 e (List.mem_append_right _ List.mem_cons_self)).2
    | cons x l2 =>
      intro _
      have := (keysOk_iff.1 hks.1).2
      rw [show (Nd.l ⟨lf, fi, l1 ++ e :: x :: l2⟩) = l1 ++ e :: x :: l2 from rfl, List.map_append, List.map_cons, List.map_cons] at this
      exact (List.pairwise_cons.1 (List.pairwise_append.1 this).2.1).1 x.kv List.mem_cons_self
  obtain ⟨Wm, em, im⟩ := Wa.merge Wb cs ht2
  have om := mergeN_ens (s := e.key) oa.ens ob.ens hlf (may_eB he.1)
  have sm := mergeN_size (s := e.key) hlf
  have sa := oa.size
  have sb := ob.size
  have sb2 : eszs a0.leaf b0.l ≤ 1024 := by rw [hlf]; unfold Nd.size at sb; omega
  have la := oa.len
  have lb := ob.len
  have ldm : (mergeN a0 e.key b0).l.length ≤ 600 := by
    rw [← midL_merge, List.length_append]
    unfold midL
    split
    · omega
    · rw [List.length_append]; show a0.l.length + 1 + b0.l.length ≤ 600; omega
  have iN : idsN (P.pgs D n) (m + 1) ⟨lf, fi, l1 ++ e :: l2⟩ = idsK (P.pgs D n) m K1 ++ (ids (P.pgs D n) m cc.2 ++ ids (P.pgs D n) m e.kid) ++ idsK (P.pgs D n) m (l2.map clE) := by
    show idsK (P.pgs D n) m (Nd.cl ⟨lf, fi, l1 ++ e :: l2⟩ f) = _
    rw [hK1, show K1 ++ cc :: (e :: l2).map clE = K1 ++ [cc, clE e] ++ l2.map clE by rw [List.append_assoc]; rfl, idsK_append, idsK_append]
    congr 2
    unfold idsK; simp [clE]
  have nI : (ids (P.pgs D n) m cc.2 ++ ids (P.pgs D n) m e.kid).Nodup := by
    rw [iN] at nN
    exact (nodup3.1 nN).1
  have subI : ∀ i ∈ ids (P.pgs D n) m cc.2 ++ ids (P.pgs D n) m e.kid, i ∈ idsN (P.pgs D n) (m + 1) ⟨lf, fi, l1 ++ e :: l2⟩ := fun i hi => by
    rw [iN]; exact List.mem_append_left _ (List.mem_append_right _ hi)
  have subN : ∀ i ∈ idsN (P.pgs D n) m a0 ++ idsN (P.pgs D n) m b0, i ∈ ids (P.pgs D n) m cc.2 ++ ids (P.pgs D n) m e.kid := fun i hi => by
    rw [ids_N pa, ids_N pb0]
    rcases List.mem_append.1 hi with hi | hi
    · exact List.mem_append_left _ (List.mem_cons_of_mem _ hi)
    · exact List.mem_append_right _ (List.mem_cons_of_mem _ hi)
  have nNm : (idsN (P.pgs D n) m a0 ++ idsN (P.pgs D n) m b0).Nodup := by
    have := nI
    rw [ids_N pa, ids_N pb0] at this
    refine this.sublist (List.Sublist.append (List.sublist_cons_self _ _) (List.sublist_cons_self _ _))
  -- the walk
  apply btree_Tree_join.calls
  unfold btree_Tree_join.W
  refine split_dec (fun e => by omega) fun _ => ⟨_, _, _, N.ex.c2, ?_⟩
  rw [e1, e2]
  have hlen : (Nd.l ⟨lf, fi, l1 ++ e :: l2⟩).length = l1.length + (l2.length + 1) := by show (l1 ++ e :: l2).length = _; rw [List.length_append, List.length_cons]
  refine split_dec (fun g => ?_) fun _ => ?_
  · have g : ((l1.length : Nat) : Int) ≥ (((Nd.l ⟨lf, fi, l1 ++ e :: l2⟩).length : Nat) : Int) := g
    omega
  refine kid_spec N.ex (hkid (e :: l2)) ⟨_, rfl, load_spec E T _ (fun e => by rw [show P.pgs D n cc.2 = none from e] at pa; cases pa) fun a0' ea h8 ka NA_ => ⟨_, _, rfl, ?_⟩⟩
  have ea' : a0' = a0 := Option.some.inj ((show P.pgs D n cc.2 = some a0' from ea).symm.trans pa)
  subst ea'
  have N8 := N.sub NA_.sub
  have T8 : TrAt h8 tb pb k := Blk.sub T NA_.sub
  refine kid_spec' N8.ex hk1 ⟨_, rfl, load_spec (E.sub NA_.sub) T8 _ (fun e => by rw [show P.pgs D n _ = none from e] at pb0; cases pb0) fun b0' eb h15 kb NB => ⟨_, _, rfl, split_ne (fun e => absurd rfl e) fun _ => split_ne (fun e => absurd rfl e) fun _ => ?_⟩⟩
  have eb' : b0' = b0 := Option.some.inj ((show P.pgs D n _ = some b0' from eb).symm.trans pb0)
  subst eb'
  obtain ⟨aa, ca, Nao, fra⟩ := NA_.ow
  obtain ⟨ab, cb, Nbo, frb⟩ := NB.ow
  have Na := (Nao.sub NB.sub).vw
  have Nb := Nbo.ex
  have s15 := NA_.sub.trans NB.sub
  have kan : h ka = none := NA_.k0
  have kbka : kb ≠ ka := fun e => by have := NB.k0; have h2 := Nao.ex.blk; unfold Blk at h2; rw [e, h2] at this; cases this
  have abka : ∀ b, blkOf ab b → b ≠ ka := fun b hb e => by have := frb b hb; have h2 := Nao.ex.blk; unfold Blk at h2; rw [e, h2] at this; cases this
  refine ⟨ka, 0, rfl, _, _, _, Na.ex.c2, fun x => Sub h x ∧ NdEx x kb ab cb b0' ∧ ∃ a1 c1, NdVw x ka a1 c1 ⟨a0'.leaf, a0'.first, midL a0' e.key b0'⟩ ∧ ∀ b, blkOf a1 b → h b = none, ?_, ka, 0, rfl, _, Na.ex.c0, ?_⟩
  rotate_left
  · -- the key between them
    have kd : ((a0'.kind : Nat) : Int) = if a0'.leaf = true then 1 else 2 := by unfold Nd.kind; split <;> rfl
    rw [kd]
    cases hl : a0'.leaf with
    | true =>
      have em : midL a0' e.key b0' = a0'.l := by unfold midL; rw [hl]; rfl
      refine split_eq (fun e => by cases e) fun _ => ⟨s15, Nb, aa, ca, by rw [em, ← hl]; exact Na, fra⟩
    | false =>
      have em : midL a0' e.key b0' = a0'.l ++ [⟨e.key, eB, b0'.first⟩] := by unfold midL; rw [hl]; rfl
      have N15 := N.sub s15
      obtain ⟨b, of, ean, g0, g1, g2⟩ := N15.ex.get (i := l1.length) (e := e) (by show (l1 ++ e :: l2)[l1.length]? = _; rw [List.getElem?_append_right (Nat.le_refl _), Nat.sub_self]; rfl)
      refine split_eq (fun _ => ⟨ka, 0, rfl, _, _, _, Na.ex.c2, _, _, _, N15.ex.c2, by omega, by show ((l1.length : Nat) : Int) < (((Nd.l ⟨lf, fi, l1 ++ e :: l2⟩).length : Nat) : Int); omega, b, of, ean, _, by rw [Int.toNat_natCast]; exact g0, kb, 0, rfl, _, Nb.c1, ?_⟩) fun e => absurd rfl e
      refine nput_spec Na ⟨e.key, eB, b0'.first⟩ (i := a0'.l.length) (Nat.le_refl _) (by omega) fun h5 a5 c5 N5 k5 nb5 => ⟨rfl, k5.sub s15 fun c e => by rw [e]; exact kan, Nb.out k5 kbka abka, a5, c5, ?_, fun b hb => s15.none (nb5 b hb)⟩
      rw [List.take_length, List.drop_length] at N5
      rw [em]; rw [hl] at N5; exact N5
  rintro x ⟨sx, Nbx, a1, c1, N1, n1⟩
  have lm : (midL a0' e.key b0').length + b0'.l.length ≤ 600 := by rw [← List.length_append, midL_merge]; exact ldm
  refine ⟨ka, 0, rfl, _, _, _, N1.ex.c2, ka, 0, rfl, _, _, _, N1.ex.c2, ka, 0, rfl, _, _, _, N1.ex.c2, Int.natCast_nonneg _, ?_, Int.natCast_nonneg _, Int.le_refl _, kb, 0, rfl, _, _, _, Nbx.c2, _, Nbx.row, fun a' c' x' => Sub x x' ∧ VwR enC 3 x' 100 a' c' (midL a0' e.key b0' ++ b0'.l) ∧ ∀ b, blkOf a' b → blkOf a1 b ∨ x b = none, ?_, ?_⟩
  · have := N1.vw.le
    exact Int.ofNat_le.2 this
  rotate_left
  · show appendC Tryz.prog 100 (slA (midL a0' e.key b0').length 0 3 a1) (midL a0' e.key b0').length (midL a0' e.key b0').length x (rowC enC b0'.l) b0'.l.length _
    rw [slA_zero]
    refine append_cap appTEn enC_len enC_plain (L := midL a0' e.key b0') N1.vw (Nat.le_refl _) rfl rfl (by omega) fun a' c' h' s V nb _ => ⟨s, ?_, nb⟩
    rw [List.take_length] at V; exact V
  rintro a' c' x' ⟨sx', V', nb'⟩
  obtain ⟨g1, g2, g3⟩ := N1.set (n := (midL a0' e.key b0').length + b0'.l.length) sx' V' (by rw [List.length_append]) nb'
  rw [midL_merge] at g2
  refine ⟨ka, 0, rfl, g1, ?_⟩
  show CallsH _ _ _ (x'.put ka 2 [.slice a' ((midL a0' e.key b0').length + b0'.l.length) c']) _
  have sy : Sub h (x'.put ka 2 [.slice a' ((midL a0' e.key b0').length + b0'.l.length) c']) := g3.sub sx fun c e => by rw [e]; exact kan
  generalize x'.put ka 2 [.slice a' ((midL a0' e.key b0').length + b0'.l.length) c'] = y at g2 g3 sy ⊢
  have g2 : NdVw y ka a' c' (mergeN a0' e.key b0') := g2
  have ny : ∀ b, blkOf a' b → h b = none := fun b hb => (nb' b hb).elim (n1 b) fun h => sx.none h
  have smb : (mergeN a0' e.key b0').size ≤ 3000 := by rw [sm]; split <;> omega
  refine nsize_spec g2.ex (by omega) (by omega) ⟨_, rfl, split_dec (fun g => hF y sy fun hb => ?_) fun g => ?_⟩
  · have g : (((mergeN a0' e.key b0').size : Nat) : Int) > 1024 := g
    have hb1 := hb.1
    have hb2 := hb.2
    rw [ents_N pa] at hb1
    rw [ents_N pb0] at hb2
    have := merge_fits Wa Fa Wb Fb hlf hs64.1 hb1 hb2
    omega
  have g : ¬ (((mergeN a0' e.key b0').size : Nat) : Int) > 1024 := g
  have omk : NdOk (mergeN a0' e.key b0') := om.ok (by omega)
  refine ⟨JoinJ pb jb db S n D P m cc.1 (hdK t (l2.map clE)) (entsN (P.pgs D n) m a0' ++ entsN (P.pgs D n) m b0') (idsN (P.pgs D n) m a0' ++ idsN (P.pgs D n) m b0') h ka, ?_, ka, 0, rfl, _, g2.ex.c0, ?_⟩
  · rintro z ⟨P1, nd1, a2, c2, E1, kp1, Nz, W1, F1, o1, he1, M1, nN1, fr1⟩
    obtain ⟨wc, we, g4, g5, g6, g7, g8⟩ := join_law pa pb0 nI Wa Wb W1 F1 o1 he1 M1 nN1 fr1 rfl
    have T1 : TrAt z tb pb k := Blk.keep T kp1 nt
    have Nn := N.keep kp1 nk na
    refine kid_spec Nn.ex (hkid (e :: l2)) ⟨_, rfl, store_spec E1 T1 Nz o1 wc fun h3 E3 k3 => ⟨rfl, _, (Blk.keep T1 k3 nt : TrAt h3 tb pb k).cell' 0 rfl, ?_⟩⟩
    have N3 := Nn.keep k3 nk na
    refine kid_spec' N3.ex hk1 ⟨_, rfl, Sub.refl _, give_spec E3 _ (fun e => absurd we e) (fun k' ek _ ⟨t', ht', er⟩ => ?_) fun k' ek _ _ h67 E67 st67 => ⟨_, rfl, ?_⟩⟩
    · have er : P1.now.r t' = k' := er
      rw [M1.roots] at er
      refine absurd (subI e.kid (List.mem_append_right _ ids_self)) ?_
      have : e.kid = P.now.r t' := by omega
      rw [this]; exact nr t' ht'
    · have ek : e.kid = k' := by omega
      subst ek
      have N67 := N3.keep st67.1 nk na
      rw [Int.toNat_natCast, Int.toNat_natCast]
      have rs := N67.rest (q := l1.length + 1) (by omega) (Sub.refl _)
      have edr : (Nd.l ⟨lf, fi, l1 ++ e :: l2⟩).drop (l1.length + 1) = l2 := by
        show (l1 ++ e :: l2).drop (l1.length + 1) = l2
        rw [List.drop_length_add_append]; rfl
      have etk : (Nd.l ⟨lf, fi, l1 ++ e :: l2⟩).take l1.length = l1 := List.take_left
      rw [edr] at rs
      have hl2 : (Nd.l ⟨lf, fi, l1 ++ e :: l2⟩).length - (l1.length + 1) = l2.length := by omega
      have le67 := N67.vw.le
      refine ⟨_, _, _, N67.ex.c2, by omega, by show ((l1.length : Nat) : Int) ≤ ((c : Nat) : Int); omega, by omega, Int.le_refl _, _, _, _, N67.ex.c2, by omega, by show ((l1.length + 1 : Nat) : Int) ≤ (((Nd.l ⟨lf, fi, l1 ++ e :: l2⟩).length : Nat) : Int); omega, rowC enC l2, by rw [hl2]; exact rs, fun a' c' x' => Sub h67 x' ∧ VwR enC 3 x' 100 a' c' (l1 ++ l2) ∧ ∀ b, blkOf a' b → blkOf a b ∨ h67 b = none, ?_, ?_⟩
      · rintro a9 c9 x9 ⟨s9, V9, nb9⟩
        rw [hl2]
        obtain ⟨r1, r2, r3⟩ := N67.set (n := l1.length + l2.length) s9 V9 (by rw [List.length_append]) nb9
        refine ⟨r1, hT _ _ a9 c9 (E67.out r3 fun c hc e => nk (e ▸ hc)) ?_ r2 (fun b hb => (nb9 b hb).elim (na b) fun h => S_out E67 h) ⟨g4, g5, g6, g7, g8⟩⟩
        exact ((kp1.trans (k3.trans st67.1)).mono fun c hc => .inl hc).trans (r3.mono fun c hc => .inr hc)
      · rw [slA_zero, hl2]
        refine append_cap appTEn enC_len enC_plain (i := l1.length) (L := Nd.l ⟨lf, fi, l1 ++ e :: l2⟩) N67.vw (by omega) rfl rfl (by omega) fun a' c' h' s V nb _ => ⟨s, ?_, nb⟩
        rw [etk] at V; exact V
  · have nka : ¬ S ka := S_out E kan
    have kd : (((mergeN a0' e.key b0').kind : Nat) : Int) = if a0'.leaf = true then 1 else 2 := by unfold Nd.kind; show ((if a0'.leaf = true then 1 else 2 : Nat) : Int) = _; split <;> rfl
    rw [kd]
    have Ey := E.sub sy
    have Ty : TrAt y tb pb k := Blk.sub T sy
    cases m with
    | zero =>
      have hl : a0'.leaf = true := Wa.1
      rw [if_pos hl]
      exact split_eq (fun e => by cases e) fun _ => ⟨P, _, a', c', Ey, sy.keep S, g2.ex, Wm, trivial, omk, em, Mv.refl _ _ _ _, List.nodup_nil, Nat.le_refl _⟩
    | succ m =>
      have hl : a0'.leaf = false := Wa.1
      rw [if_neg (by rw [hl]; decide)]
      have ei : IntKind.i64.wrap (Int.ofNat a0'.l.length - 1) = ((a0'.l.length : Nat) : Int) - 1 := by
        show IntKind.i64.wrap (((a0'.l.length : Nat) : Int) - 1) = _
        rw [wid (by omega) (by omega)]
      rw [ei]
      have eq : mergeN a0' e.key b0' = ⟨false, a0'.first, a0'.l ++ ⟨e.key, eB, b0'.first⟩ :: b0'.l⟩ := by
        unfold mergeN
        rw [hl]; rfl
      rw [eq] at g2 omk Wm em im
      obtain ⟨K2, c2, k1, k2, k3, k4⟩ := cl_split false a0'.first a0'.l cc.1
      have ea1 : entsK (P.pgs D n) m (a0'.cl cc.1) = entsK (P.pgs D n) m K2 ++ [ents (P.pgs D n) m c2.2] := by
        have := k1 []
        rw [List.append_nil] at this
        rw [show a0'.cl cc.1 = Nd.cl ⟨false, a0'.first, a0'.l⟩ cc.1 from rfl, this, entsK_append]; rfl
      have eb1 : entsK (P.pgs D n) m (b0'.cl e.key) = ents (P.pgs D n) m b0'.first :: entsK (P.pgs D n) m (b0'.l.map clE) := rfl
      have na1 : NA (entsK (P.pgs D n) m K2 ++ [ents (P.pgs D n) m c2.2]) := by rw [← ea1]; exact Fa
      have nb1 : NA (ents (P.pgs D n) m b0'.first :: entsK (P.pgs D n) m (b0'.l.map clE)) := by rw [← eb1]; exact Fb
      refine split_eq (fun _ => ih m (by omega) Ey Ty g2 nka (fun b hb => S_out E (ny b hb)) omk Wm (by rw [im]; exact nNm) (fun t' ht' => by rw [im]; exact fun h => nr t' ht' (subI _ (subN _ h))) k1 k3 (fun h84 s84 hne => ⟨_, rfl, ?_⟩) fun h84 P1 a9 c9 E84 kp84 N84 nb84 R => ⟨_, rfl, ?_⟩) fun e => absurd rfl e
      · refine ⟨P, _, a', c', Ey.sub s84, (sy.trans s84).keep S, g2.ex.sub s84, Wm, ?_, omk, em, by rw [im]; exact Mv.refl _ _ _ _, by rw [im]; exact nNm, Nat.le_refl _⟩
        show NA (entsK (P.pgs D n) m (Nd.cl ⟨false, a0'.first, a0'.l ++ ⟨e.key, eB, b0'.first⟩ :: b0'.l⟩ cc.1))
        rw [k1, entsK_append]
        exact NA_cat na1 nb1 hne
      · obtain ⟨r1, r2, r3, r4⟩ := join_up k1 Wm (by rw [im]; exact nNm) R
        rw [im] at r4
        refine ⟨P1, _, a9, c9, E84, (fun c o hc hs => kp84 c o (sy c o hc) fun h' => h'.elim hs fun e => by rw [e, kan] at hc; cases hc), N84.ex, r1, ?_, ⟨fun e' he' => ?_, omk.first, ?_, omk.z⟩, ?_, r4, r3, R.fr⟩
        · show NA (entsK (P1.pgs D n) m (Nd.cl ⟨false, a0'.first, a0'.l ++ b0'.l⟩ cc.1))
          rw [r2]
          exact NA_join na1 nb1
        · refine omk.en e' ?_
          rcases List.mem_append.1 he' with h' | h'
          · exact List.mem_append_left _ h'
          · exact List.mem_append_right _ (List.mem_cons_of_mem _ h')
        · have := omk.size
          unfold Nd.size at this ⊢
          have h1 : Nd.base false + eszs false (a0'.l ++ ⟨e.key, eB, b0'.first⟩ :: b0'.l) ≤ 1024 := this
          show Nd.base false + eszs false (a0'.l ++ b0'.l) ≤ 1024
          rw [eszs_append, eszs_cons] at h1
          rw [eszs_append]
          omega
        · show (entsK (P1.pgs D n) m (Nd.cl ⟨false, a0'.first, a0'.l ++ b0'.l⟩ cc.1)).flatten = _
          have ea2 : entsN (P.pgs D n) (m + 1) a0' = (entsK (P.pgs D n) m K2).flatten ++ ents (P.pgs D n) m c2.2 := by
            show (entsK (P.pgs D n) m (a0'.cl cc.1)).flatten = _
            rw [ea1, List.flatten_append]; simp
          have eb2 : entsN (P.pgs D n) (m + 1) b0' = ents (P.pgs D n) m b0'.first ++ (entsK (P.pgs D n) m (b0'.l.map clE)).flatten := by
            show (entsK (P.pgs D n) m (b0'.cl e.key)).flatten = _
            rw [eb1]; rfl
          rw [r2, ea2, eb2, List.flatten_append, List.flatten_cons]
          simp only [List.append_assoc]
end Go.Proofs.YthbogjbcecmopaaGreatDoor
namespace Go.Proofs.YthbogjbcecmopaaGreatDoor
open Go.Gx
set_option maxRecDepth 100000
set_option linter.unusedVariables false
variable {n : Nat} {D : Dk} {P P' : Pg} {h : Hp} {K : Value → Hp → Prop} {pb jb db : Nat} {S : Nat → Prop} {tb k : Nat}
theorem eszs_sub {lf : Bool} {l l' : List En} (s : l'.Sublist l) : eszs lf l' ≤ eszs lf l := by
  induction s with
  | slnil => exact Nat.le_refl _
  | cons a s ih => rw [eszs_cons]; omega
  | cons_cons a s ih => rw [eszs_cons, eszs_cons]; omega
theorem NdOk.sub {lf : Bool} {fi : Nat} {l l' : List En} (o : NdOk ⟨lf, fi, l⟩) (s : l'.Sublist l) : NdOk ⟨lf, fi, l'⟩ := by
  refine ⟨fun e he => o.en e (s.subset he), o.first, ?_, o.z⟩
  have h1 := o.size
  have h2 := eszs_sub (lf := lf) s
  unfold Nd.size at h1 ⊢
  have h1 : Nd.base lf + eszs lf l ≤ 1024 := h1
  show Nd.base lf + eszs lf l' ≤ 1024
  omega
structure DrpN (n : Nat) (D : Dk) (P P' : Pg) (m id : Nat) (f t : ByteArray) (L : List KV) (I : List Nat) : Prop where
  tr : TrS (P'.pgs D n) m id f t
  es : ents (P'.pgs D n) m id = L
  nd : (ids (P'.pgs D n) m id).Nodup
  mv : Mv n D P P' I (ids (P'.pgs D n) m id)
  fr : P.freeN n ≤ P'.freeN n
def RmJ (pb jb db : Nat) (S : Nat → Prop) (n : Nat) (D : Dk) (P : Pg) (m : Nat) (lf : Bool) (fi : Nat) (f t : ByteArray) (l1 l2 : List En) (X : List (List KV)) (R : List KV) (I : List Nat) (h : Hp) (k' : Nat) (b : Bool) (x : Hp) : Prop :=
  ∃ P2 a2 c2 l3 z Y, PgAt x pb jb db S n D P2 ∧ Keep S h x ∧ NdVw x k' a2 c2 ⟨lf, fi, l1 ++ l3⟩ ∧ (∀ b, blkOf a2 b → ¬ S b) ∧ l3.Sublist l2 ∧ Fw (P2.pgs D n) (m + 1) ⟨lf, fi, l1 ++ l3⟩ f t ∧ (idsN (P2.pgs D n) (m + 1) ⟨lf, fi, l1 ++ l3⟩).Nodup ∧ entsK (P2.pgs D n) m (Nd.cl ⟨lf, fi, l1 ++ l3⟩ f) = X ++ z :: Y ∧ NA (z :: Y) ∧ (z :: Y).flatten = R ∧
    Mv n D P P2 I (idsN (P2.pgs D n) (m + 1) ⟨lf, fi, l1 ++ l3⟩) ∧ P.freeN n ≤ P2.freeN n ∧ (b = false → l3 = l2)
def RmF (pb jb db : Nat) (S : Nat → Prop) (n : Nat) (D : Dk) (P : Pg) (m : Nat) (nd : Nd) (f t : ByteArray) (L : List KV) (I : List Nat) (h : Hp) (k' : Nat) (b : Bool) (x : Hp) : Prop :=
  ∃ P3 a3 c3 nd3, PgAt x pb jb db S n D P3 ∧ Keep S h x ∧ NdEx x k' a3 c3 nd3 ∧ NdOk nd3 ∧ Fw (P3.pgs D n) (m + 1) nd3 f t ∧ Fn (P3.pgs D n) (m + 1) nd3 ∧ (idsN (P3.pgs D n) (m + 1) nd3).Nodup ∧ entsN (P3.pgs D n) (m + 1) nd3 = L ∧ Mv n D P P3 I (idsN (P3.pgs D n) (m + 1) nd3) ∧ P.freeN n ≤ P3.freeN n ∧ (b = false → nd3 = nd)
set_option maxHeartbeats 4000000 in
theorem before_spec (nt : ¬ S tb) {m : Nat} {lf : Bool} {fi : Nat} {f t : ByteArray} {l1 l2 : List En} {X : List (List KV)} {R : List KV} {I : List Nat} {k' : Nat} {b : Bool} {x : Hp} (hl1 : l1.length < 65536) (T : TrAt h tb pb k) (k0 : h k' = none) (nk : ¬ S k') (ok : NdOk ⟨lf, fi, l1 ++ l2⟩) (EP : POk n P) (nr : ∀ t, t < 4 → P.now.r t ∉ I) (hX : NA X) (lX : X.length = l1.length) (J : RmJ pb jb db S n D P m lf fi f t l1 l2 X R I h k' b x)
    (hK : ∀ b' y, RmF pb jb db S n D P m ⟨lf, fi, l1 ++ l2⟩ f t (X.flatten ++ R) I h k' (b || b') y → K (.bool b') y) : CallsH Tryz.prog btree_Tree_join.id #[.pointer (some ⟨tb, 0, none⟩), .pointer (some ⟨k', 0, none⟩), .int .i64 ((l1.length : Nat) - 2 : Int)] x K := by
  obtain ⟨P2, a2, c2, l3, z, Y, E2, kp2, N2, n2, sl, W2, nN2, e2, hz, hR, M2, fr2, hb⟩ := J
  have ok3 : NdOk ⟨lf, fi, l1 ++ l3⟩ := ok.sub (List.Sublist.append_left sl _)
  have ll := ok3.len
  have ll : 4 * (l1 ++ l3).length ≤ 1024 := ll
  rw [List.length_append] at ll
  have fin : NA (X ++ z :: Y) → ∀ {y : Hp}, Sub x y → RmF pb jb db S n D P m ⟨lf, fi, l1 ++ l2⟩ f t (X.flatten ++ R) I h k' (b || false) y := fun hn y sy => by
    refine ⟨P2, a2, c2, _, E2.sub sy, kp2.trans (sy.keep S), N2.ex.sub sy, ok3, W2, ?_, nN2, ?_, M2, fr2, fun e => ?_⟩
    · show NA (entsK (P2.pgs D n) m (Nd.cl ⟨lf, fi, l1 ++ l3⟩ f))
      rw [e2]; exact hn
    · show (entsK (P2.pgs D n) m (Nd.cl ⟨lf, fi, l1 ++ l3⟩ f)).flatten = _
      rw [e2, List.flatten_append, hR]
    · rw [Bool.or_false] at e
      rw [hb e]
  rcases List.eq_nil_or_concat l1 with rfl | ⟨l0, e0, rfl⟩
  · have : X = [] := List.length_eq_zero_iff.1 lX
    subst this
    exact join_out N2.ex (by show l3.length < _; have : ([] : List En).length = 0 := rfl; omega) _ (.inl (by decide)) (hK false x (fin hz (Sub.refl x)))
  · rw [List.concat_eq_append] at *
    obtain ⟨K0, c0, q1, q2, q3, q4⟩ := cl_split lf fi l0 f
    have es : ∀ l, l0 ++ [e0] ++ l = l0 ++ e0 :: l := fun l => by rw [List.append_assoc]; rfl
    have hln : (l0 ++ [e0]).length = l0.length + 1 := by rw [List.length_append]; rfl
    have ei : (((l0 ++ [e0]).length : Nat) : Int) - 2 = ((l0.length : Nat) : Int) - 1 := by rw [hln]; omega
    rw [ei]
    have nr2 := M2.nonroot EP nr
    rw [es] at N2 ok3 W2 nN2 e2 M2 nr2
    -- the parts of the cells
    have e3 : entsK (P2.pgs D n) m (K0 ++ [c0]) ++ ents (P2.pgs D n) m e0.kid :: entsK (P2.pgs D n) m (l3.map clE) = X ++ z :: Y := by
      rw [← e2, q1, entsK_append, entsK_append, List.append_assoc]; rfl
    obtain ⟨x1, x2⟩ := List.append_inj e3 (by unfold entsK; rw [List.length_map, List.length_append, q2, lX, hln]; rfl)
    obtain ⟨x3, x4⟩ := List.cons.inj x2
    rw [entsK_append] at x1
    have x1 : entsK (P2.pgs D n) m K0 ++ [ents (P2.pgs D n) m c0.2] = X := x1
    rw [← x1] at hX
    refine join_spec nt m E2 (Blk.keep T kp2 nt) N2 nk n2 ok3 W2 nN2 nr2 q1 q3 (fun y sy hne => hK false y ?_) fun y P3 a3 c3 E3 kp3 N3 nb3 R3 => hK true y ?_
    · refine fin ?_ sy
      rw [← x1, List.append_assoc]
      exact NA_cat hX hz (by rw [← x3]; exact hne)
    · obtain ⟨r1, r2, r3, r4⟩ := join_up q1 W2 nN2 R3
      rw [x3, x4] at r2
      refine ⟨P3, a3, c3, _, E3, (fun c o hc hs => kp3 c o (kp2 c o hc hs) fun h' => h'.elim hs fun e => by rw [e, k0] at hc; cases hc), N3.ex, ok3.sub (List.Sublist.append_left (List.sublist_cons_self _ _) _), r1, ?_, r3, ?_, M2.trans r4, Nat.le_trans fr2 R3.fr, fun e => by rw [Bool.or_true] at e; cases e⟩
      · show NA (entsK (P3.pgs D n) m (Nd.cl ⟨lf, fi, l0 ++ l3⟩ f))
        rw [r2]
        exact NA_join hX hz
      · show (entsK (P3.pgs D n) m (Nd.cl ⟨lf, fi, l0 ++ l3⟩ f)).flatten = _
        rw [r2, ← x1, ← hR]
        simp only [List.flatten_append, List.flatten_cons, List.flatten_nil, List.append_assoc, List.append_nil]
set_option maxHeartbeats 8000000 in
theorem remove_spec (nt : ¬ S tb) {key : ByteArray} (m : Nat) : ∀ {h : Hp} {K : Value → Hp → Prop} {P : Pg} {id : Nat} {f t : ByteArray}, PgAt h pb jb db S n D P → TrAt h tb pb k → TrS (P.pgs D n) m id f t → (ids (P.pgs D n) m id).Nodup → blt key f = false → below t key → (∀ i ∈ ids (P.pgs D n) m id, i ≠ id → ∀ t, t < 4 → P.now.r t ≠ i) →
    (∀ h', Sub h h' → kvIs key (ents (P.pgs D n) m id) = false → K (.bool false) h') →
    (∀ h' P', PgAt h' pb jb db S n D P' → Keep S h h' → kvIs key (ents (P.pgs D n) m id) = true → DrpN n D P P' m id f t (kvDrop key (ents (P.pgs D n) m id)) (ids (P.pgs D n) m id) → K (.bool true) h') →
    CallsH Tryz.prog btree_Tree_remove.id #[.pointer (some ⟨tb, 0, none⟩), .int .i64 (id : Nat), .string key] h K := by
  induction m using Nat.strongRecOn with
  | ind m ih =>
  intro h K P id f t E T TT nI hf ht nr hF hT
  have hn := E.n2
  have hpk := pgs_ok E
  obtain ⟨nd, pn, W, F⟩ := TrS_iff.1 TT
  have ok := hpk id nd pn
  have ll := ok.len
  have hw : P.why n (id : Nat) = 0 := pgs_why (by rw [pn]; rfl)
  rw [ids_N pn] at nI hT nr
  rw [ents_N pn] at hF hT
  obtain ⟨hid, nN⟩ := List.nodup_cons.1 nI
  have nr' : ∀ t, t < 4 → P.now.r t ∉ idsN (P.pgs D n) m nd := fun t ht hi => nr _ (List.mem_cons_of_mem _ hi) (fun e => hid (e ▸ hi)) t ht rfl
  apply btree_Tree_remove.calls
  unfold btree_Tree_remove.W
  refine load_spec E T _ (fun e => by rw [show P.pgs D n id = none from e] at pn; cases pn) fun nd' e h2 k' N2 => ?_
  have e : nd' = nd := Option.some.inj ((show P.pgs D n id = some nd' from e).symm.trans pn)
  subst e
  refine ⟨_, _, rfl, split_ne (fun e => absurd rfl e) fun _ => ?_⟩
  obtain ⟨a, c, No, fra⟩ := N2.ow
  have k0 := N2.k0
  have s2 := N2.sub
  have nk : ¬ S k' := S_out E k0
  have na : ∀ b, blkOf a b → ¬ S b := fun b hb => S_out E (fra b hb)
  have srt : kvSorted nd'.kv := by
    cases m with
    | zero => exact (keysOk_iff.1 W.2).2
    | succ m => exact (keysOk_iff.1 W.2.1.1).2
  have kd : ((nd'.kind : Nat) : Int) = if nd'.leaf = true then 1 else 2 := by unfold Nd.kind; split <;> rfl
  refine ⟨k', 0, rfl, _, No.ex.c0, ?_⟩
  rw [kd]
  cases m with
  | zero =>
    have hlf : nd'.leaf = true := W.1
    rw [if_pos hlf]
    refine split_eq (fun _ => place_spec No.ex srt (by omega) key fun h3 s3 => ⟨_, rfl, ?_⟩) fun e => absurd rfl e
    have s23 := s2.trans s3
    have N3 := No.vw.sub s3
    have hat := kvAt_le key nd'.kv
    rw [nd'.kv_len] at hat
    have le3 := N3.vw.le
    refine ⟨k', 0, rfl, _, _, _, N3.ex.c2, split_eq (fun g => hF h3 s23 ?_) fun g => ?_⟩
    · have g : ((kvAt key nd'.kv : Nat) : Int) = ((nd'.l.length : Nat) : Int) := g
      show kvIs key nd'.kv = false
      unfold kvIs
      rw [List.getElem?_eq_none (by rw [nd'.kv_len]; omega)]
    · have g : ¬ ((kvAt key nd'.kv : Nat) : Int) = ((nd'.l.length : Nat) : Int) := g
      have he : nd'.l[kvAt key nd'.kv]? = some (nd'.l[kvAt key nd'.kv]'(by omega)) := List.getElem?_eq_getElem (by omega)
      generalize nd'.l[kvAt key nd'.kv]'(by omega) = en at he
      obtain ⟨b, o, ea, g0, g1, g2⟩ := N3.ex.get he
      refine ⟨k', 0, rfl, _, _, _, N3.ex.c2, by omega, by show ((kvAt key nd'.kv : Nat) : Int) < ((nd'.l.length : Nat) : Int); omega, b, o, ea, _, by rw [Int.toNat_natCast]; exact g0, ?_⟩
      rw [beqS_val]
      refine split_not (fun ek => hF h3 s23 ?_) fun ek => ?_
      · show kvIs key nd'.kv = false
        unfold kvIs
        rw [Nd.kv_get he]; exact ek
      · have hi : kvIs key nd'.kv = true := by
          unfold kvIs
          rw [Nd.kv_get he]; exact ek
        have e1 : IntKind.i64.wrap (((kvAt key nd'.kv : Nat) : Int) + 1) = ((kvAt key nd'.kv + 1 : Nat) : Int) := by rw [wid (by omega) (by omega)]; omega
        rw [e1, Int.toNat_natCast, Int.toNat_natCast]
        have rs := N3.rest (q := kvAt key nd'.kv + 1) (by omega) (Sub.refl _)
        have ld : (nd'.l.drop (kvAt key nd'.kv + 1)).length = nd'.l.length - (kvAt key nd'.kv + 1) := List.length_drop
        have drp : nd'.l.take (kvAt key nd'.kv) ++ nd'.l.drop (kvAt key nd'.kv + 1) = dropL key nd'.l := rfl
        unfold RowAt at rs
        rw [ld] at rs
        refine ⟨k', 0, rfl, _, _, _, N3.ex.c2, by omega, by show ((kvAt key nd'.kv : Nat) : Int) ≤ ((c : Nat) : Int); omega, by omega, Int.le_refl _, k', 0, rfl, _, _, _, N3.ex.c2, by omega, by show ((kvAt key nd'.kv + 1 : Nat) : Int) ≤ ((nd'.l.length : Nat) : Int); omega, _, rs, fun a' c' x' => Sub h3 x' ∧ VwR enC 3 x' 100 a' c' (dropL key nd'.l) ∧ ∀ b, blkOf a' b → blkOf a b ∨ h3 b = none, ?_, ?_⟩
        · rintro a9 c9 x9 ⟨s9, V9, nb9⟩
          obtain ⟨r1, r2, r3⟩ := N3.set (n := kvAt key nd'.kv + (nd'.l.length - (kvAt key nd'.kv + 1))) s9 V9 (by rw [← drp, List.length_append, List.length_take, ld]; omega) nb9
          have kp : Keep S h (x9.put k' 2 [.slice a9 (kvAt key nd'.kv + (nd'.l.length - (kvAt key nd'.kv + 1))) c9]) := fun c o hc hs => r3 c o (s23 c o hc) fun e => by rw [e, k0] at hc; cases hc
          have E9 := (E.sub s23).out r3 fun c hc e => nk (e ▸ hc)
          have o9 : NdOk ⟨nd'.leaf, nd'.first, dropL key nd'.l⟩ := by
            refine ⟨fun e he => ok.en e (dropL_mem he), ok.first, ?_, ok.z⟩
            have h1 := ok.size
            have h2 := dropL_size nd'.leaf key nd'.l
            unfold Nd.size at h1 ⊢
            show Nd.base nd'.leaf + eszs nd'.leaf (dropL key nd'.l) ≤ 1024
            omega
          refine ⟨k', 0, rfl, r1, store_spec E9 (Blk.keep T kp nt) r2.ex o9 hw fun h4 E4 k4 => ⟨rfl, hT h4 _ E4 (kp.trans k4) hi ?_⟩⟩
          have W9 : Fw (P.pgs D n) 0 ⟨nd'.leaf, nd'.first, dropL key nd'.l⟩ f t := ⟨hlf, dropL_ok W.2 hi⟩
          obtain ⟨g1, g2, g3, g4, g5⟩ := store_law W9 trivial o9 hw hid nN
          exact ⟨g1, g2.trans (dropL_kv hi), by rw [g3]; exact g4, by rw [g3]; exact g5, Nat.le_refl _⟩
        · rw [slA_zero]
          refine append_cap appTEn enC_len enC_plain (i := kvAt key nd'.kv) (L := nd'.l) N3.vw (by omega) ld.symm rfl (by rw [ld]; omega) fun a' c' h' s V nb _ => ⟨s, V, nb⟩
  | succ m =>
    have hlf : nd'.leaf = false := W.1
    rw [if_neg (by rw [hlf]; decide)]
    obtain ⟨l1, l2, K1, c', A⟩ := kid_at' hpk W hf ht
    have hbe := A.be
    have hkid := A.kid
    have hl := A.l
    rw [hbe] at hkid
    have nsub : (ids (P.pgs D n) m c'.2).Nodup := by
      have := nN
      rw [A.is, idsK_append, idsK_append, idsK_one] at this
      exact (List.nodup_append.1 (List.nodup_append.1 this).1).2.1
    have apart : ∀ {P1 : Pg} {I'}, Mv n D P P1 (idsN (P.pgs D n) (m + 1) nd') I' → P1.pgs D n id = some nd' ∧ id ∉ I' := fun M => by
      have ap := M.apart (R := [id]) fun i hi => by rw [List.mem_singleton.1 hi]; exact ⟨by rw [pn]; rfl, hid⟩
      exact ⟨(ap.1 id List.mem_cons_self).trans pn, ap.2 id List.mem_cons_self⟩
    have lift : ∀ {P1 : Pg} {I'}, Mv n D P P1 (idsN (P.pgs D n) (m + 1) nd') I' → Mv n D P P1 (id :: idsN (P.pgs D n) (m + 1) nd') (id :: I') := fun M =>
      M.lift (fun i hi => List.mem_cons_of_mem _ hi) (fun i hi => (List.mem_cons.1 hi).elim (fun e => .inr (e ▸ List.mem_cons_self)) .inl) (by simp only [List.length_cons]; omega)
    have naA := A.na F
    have isA : kvIs key (entsN (P.pgs D n) (m + 1) nd') = kvIs key (ents (P.pgs D n) m c'.2) := by rw [A.es, kvIs_right _ A.lt, kvIs_left _ A.gt]
    have esA : (entsK (P.pgs D n) m K1).flatten ++ (kvDrop key (ents (P.pgs D n) m c'.2) ++ (entsK (P.pgs D n) m (l2.map clE)).flatten) = kvDrop key (entsN (P.pgs D n) (m + 1) nd') := by
      rw [A.es, kvDrop_right _ A.lt, kvDrop_left _ A.gt]
    have hnd : nd' = ⟨nd'.leaf, nd'.first, l1 ++ l2⟩ := by rw [← hl]
    have hlen : nd'.l.length = l1.length + l2.length := by rw [hl, List.length_append]
    have kids : ∀ l, (Nd.kids ⟨nd'.leaf, nd'.first, l1 ++ l⟩)[l1.length]? = some c'.2 := fun l => by
      rw [Nd.kids_cl _ f, A.cls, List.map_append, List.getElem?_append_right (by rw [List.length_map, A.len]; exact Nat.le_refl _), List.length_map, A.len, Nat.sub_self]; rfl
    refine split_eq (fun e => by cases e) fun _ => below_spec No.ex srt (by omega) key fun h3 s3 => ⟨_, rfl, kid_spec (No.ex.sub s3) hkid ⟨_, rfl, ?_⟩⟩
    have s23 := s2.trans s3
    refine ih m (by omega) (E.sub s23) (Blk.sub T s23) A.tr nsub A.lo A.hi (fun i hi _ t' ht' e => nr' t' ht' (by rw [e]; exact A.kid_sub i hi)) (fun h4 s4 hi => ⟨_, rfl, split_not (fun _ => hF h4 (s23.trans s4) (by rw [isA]; exact hi)) fun e => by cases e⟩) fun h4 P1 E4 k4 hi R => ⟨_, rfl, split_not (fun e => by cases e) fun _ => ?_⟩
    have hi' : kvIs key (entsN (P.pgs D n) (m + 1) nd') = true := by rw [isA]; exact hi
    obtain ⟨W1, e1, n1, M1, len1⟩ := A.one W nN R.tr R.mv R.nd
    have N4 := (No.vw.sub s3).keep k4 nk na
    have k04 : Keep S h h4 := (s23.keep S).trans k4
    have nr1 := M1.nonroot E.ok nr'
    have ei : ((kvBe key nd'.kv : Nat) : Int) - 1 = ((l1.length : Nat) : Int) - 1 := by rw [hbe]
    have ei2 : IntKind.i64.wrap (((l1.length : Nat) : Int) - 1 - 1) = ((l1.length : Nat) : Int) - 2 := by rw [wid (by omega) (by omega)]; omega
    rw [ei, ei2]
    rw [R.es] at e1
    -- behind both joins
    have last : ∀ b1 b2 y, RmF pb jb db S n D P m ⟨nd'.leaf, nd'.first, l1 ++ l2⟩ f t ((entsK (P.pgs D n) m K1).flatten ++ (kvDrop key (ents (P.pgs D n) m c'.2) ++ (entsK (P.pgs D n) m (l2.map clE)).flatten)) (idsN (P.pgs D n) (m + 1) nd') h k' (b1 || b2) y →
        bif b1 then CallsH Tryz.prog btree_Tree_store.id #[.pointer (some ⟨tb, 0, none⟩), .int .i64 (id : Nat), .pointer (some ⟨k', 0, none⟩)] y fun v h' => v = .tuple #[] ∧ K (.bool true) h'
        else bif b2 then CallsH Tryz.prog btree_Tree_store.id #[.pointer (some ⟨tb, 0, none⟩), .int .i64 (id : Nat), .pointer (some ⟨k', 0, none⟩)] y fun v h' => v = .tuple #[] ∧ K (.bool true) h'
        else K (.bool true) y := by
      rintro b1 b2 y ⟨P3, a3, c3, nd3, E3, kp3, N3, o3, W3, F3, n3, e3, M3, fr3, hb⟩
      rw [esA] at e3
      obtain ⟨pid, hid3⟩ := apart M3
      have hw3 : P3.why n (id : Nat) = 0 := pgs_why (by rw [pid]; rfl)
      have sto : CallsH Tryz.prog btree_Tree_store.id #[.pointer (some ⟨tb, 0, none⟩), .int .i64 (id : Nat), .pointer (some ⟨k', 0, none⟩)] y fun v h' => v = .tuple #[] ∧ K (.bool true) h' := by
        refine store_spec E3 (Blk.keep T kp3 nt) N3 o3 hw3 fun h5 E5 k5 => ⟨rfl, hT h5 _ E5 (kp3.trans k5) hi' ?_⟩
        obtain ⟨g1, g2, g3, g4, g5⟩ := store_law W3 F3 o3 hw3 hid3 n3
        exact ⟨g1, g2.trans e3, by rw [g3]; exact g4, by rw [g3]; exact (lift M3).trans g5, fr3⟩
      cases b1 with
      | true => exact sto
      | false =>
        cases b2 with
        | true => exact sto
        | false =>
          have : nd3 = nd' := (hb rfl).trans hnd.symm
          subst this
          refine hT y P3 E3 kp3 hi' ⟨TrS_iff.2 ⟨_, pid, W3, F3⟩, (ents_N pid).trans e3, ?_, ?_, fr3⟩
          · rw [ids_N pid]; exact List.nodup_cons.2 ⟨hid3, n3⟩
          · rw [ids_N pid]; exact lift M3
    have mid : ∀ b1 x, RmJ pb jb db S n D P m nd'.leaf nd'.first f t l1 l2 (entsK (P.pgs D n) m K1) (kvDrop key (ents (P.pgs D n) m c'.2) ++ (entsK (P.pgs D n) m (l2.map clE)).flatten) (idsN (P.pgs D n) (m + 1) nd') h k' b1 x →
        ∃ b54, Value.bool b1 = .bool b54 ∧ CallsH Tryz.prog btree_Tree_join.id #[.pointer (some ⟨tb, 0, none⟩), .pointer (some ⟨k', 0, none⟩), .int .i64 ((l1.length : Nat) - 2 : Int)] x fun v h56 => ∃ b57, v = .bool b57 ∧
          bif b54 then CallsH Tryz.prog btree_Tree_store.id #[.pointer (some ⟨tb, 0, none⟩), .int .i64 (id : Nat), .pointer (some ⟨k', 0, none⟩)] h56 fun v h' => v = .tuple #[] ∧ K (.bool true) h'
          else bif b57 then CallsH Tryz.prog btree_Tree_store.id #[.pointer (some ⟨tb, 0, none⟩), .int .i64 (id : Nat), .pointer (some ⟨k', 0, none⟩)] h56 fun v h' => v = .tuple #[] ∧ K (.bool true) h'
          else K (.bool true) h56 := fun b1 x J =>
      ⟨b1, rfl, before_spec nt (by omega) T k0 nk (by rw [← hnd]; exact ok) E.ok nr' (NA_left naA) (by unfold entsK; rw [List.length_map, A.len]) J fun b2 y F => ⟨b2, rfl, last b1 b2 y F⟩⟩
    have W1' : Fw (P1.pgs D n) (m + 1) ⟨nd'.leaf, nd'.first, l1 ++ l2⟩ f t := by rw [← hnd]; exact W1
    have n1' : (idsN (P1.pgs D n) (m + 1) ⟨nd'.leaf, nd'.first, l1 ++ l2⟩).Nodup := by rw [← hnd]; exact n1
    have e1' : entsK (P1.pgs D n) m (Nd.cl ⟨nd'.leaf, nd'.first, l1 ++ l2⟩ f) = entsK (P.pgs D n) m K1 ++ kvDrop key (ents (P.pgs D n) m c'.2) :: entsK (P.pgs D n) m (l2.map clE) := by rw [← hnd]; exact e1
    have M1' : Mv n D P P1 (idsN (P.pgs D n) (m + 1) nd') (idsN (P1.pgs D n) (m + 1) ⟨nd'.leaf, nd'.first, l1 ++ l2⟩) := by rw [← hnd]; exact M1
    have N4' : NdVw h4 k' a c ⟨nd'.leaf, nd'.first, l1 ++ l2⟩ := by rw [← hnd]; exact N4
    have naY := NA_tail (NA_right naA)
    cases l2 with
    | nil =>
      refine join_out N4.ex (by omega) _ (.inr ⟨by rw [hlen]; show ((l1.length : Nat) : Int) - 1 + 1 ≥ ((l1.length + 0 : Nat) : Int); omega, by omega⟩) (mid false h4 ?_)
      exact ⟨P1, a, c, [], _, _, E4, k04, N4', na, List.Sublist.refl _, W1', n1', e1', trivial, rfl, M1', R.fr, fun _ => rfl⟩
    | cons e l2 =>
      have eY : entsK (P.pgs D n) m ((e :: l2).map clE) = ents (P.pgs D n) m e.kid :: entsK (P.pgs D n) m (l2.map clE) := rfl
      rw [eY] at e1' naY
      have e1c : entsK (P1.pgs D n) m (Nd.cl ⟨nd'.leaf, nd'.first, l1 ++ e :: l2⟩ f) = entsK (P1.pgs D n) m K1 ++ ents (P1.pgs D n) m c'.2 :: ents (P1.pgs D n) m e.kid :: entsK (P1.pgs D n) m (l2.map clE) := by
        rw [A.cls, entsK_append]; rfl
      obtain ⟨x1, x2⟩ := List.append_inj (e1c.symm.trans e1') (by unfold entsK; rw [List.length_map, List.length_map])
      obtain ⟨x3, x4⟩ := List.cons.inj x2
      obtain ⟨x5, x6⟩ := List.cons.inj x4
      refine join_spec nt m E4 (Blk.keep T k04 nt) N4' nk na (by rw [← hnd]; exact ok) W1' n1' (by rw [← hnd]; exact nr1) A.cls kids (fun y sy hne => mid false y ?_) fun y P2 a2 c2 E2 kp2 N2 nb2 R2 => mid true y ?_
      · rw [x3, x5] at hne
        exact ⟨P1, a, c, e :: l2, _, _, E4.sub sy, k04.trans (sy.keep S), N4'.sub sy, na, List.Sublist.refl _, W1', n1', e1', ⟨hne, naY⟩, rfl, M1', R.fr, fun _ => rfl⟩
      · obtain ⟨r1, r2, r3, r4⟩ := join_up A.cls W1' n1' R2
        rw [x1, x3, x5, x6] at r2
        refine ⟨P2, a2, c2, l2, _, _, E2, (fun c o hc hs => kp2 c o (k04 c o hc hs) fun h' => h'.elim hs fun e => by rw [e, k0] at hc; cases hc), N2, nb2, List.sublist_cons_self _ _, r1, r3, r2, NA_join1 naY, ?_, M1'.trans r4, Nat.le_trans R.fr R2.fr, fun e => by cases e⟩
        rw [eY]
        simp only [List.flatten_cons, List.append_assoc]
end Go.Proofs.YthbogjbcecmopaaGreatDoor
namespace Go.Proofs.YthbogjbcecmopaaGreatDoor
open Go.Gx
set_option maxRecDepth 100000
set_option linter.unusedVariables false
variable {n : Nat} {D : Dk} {P P' : Pg} {h : Hp} {K : Value → Hp → Prop} {pb jb db : Nat} {S : Nat → Prop} {tb k : Nat}
def DrJ (pb jb db : Nat) (S : Nat → Prop) (n : Nat) (D : Dk) (k : Nat) (P : Pg) (L : List KV) (I : List Nat) (h x : Hp) (m : Nat) : Prop :=
  ∃ P1, PgAt x pb jb db S n D P1 ∧ Keep S h x ∧ P1.now.r k ≠ 0 ∧ TrS (P1.pgs D n) m (P1.now.r k) eB eB ∧ ents (P1.pgs D n) m (P1.now.r k) = L ∧ (ids (P1.pgs D n) m (P1.now.r k)).Nodup ∧ MvT n D k P P1 I (ids (P1.pgs D n) m (P1.now.r k)) ∧ P.freeN n ≤ P1.freeN n ∧ ∀ t, t < 4 → t ≠ k → P1.now.r t ∉ ids (P1.pgs D n) m (P1.now.r k)
theorem nonroot_t (E : POk n P) {I I' : List Nat} (M : MvT n D k P P' I I') (hr : ∀ t, t < 4 → t ≠ k → P.now.r t ∉ I) : ∀ t, t < 4 → t ≠ k → P'.now.r t ∉ I' := fun t ht hk hi => by
  rw [M.roots t hk] at hi
  rcases M.new _ hi with h | h
  · exact hr t ht hk h
  · by_cases e : P.now.r t = 0
    · rw [e, E.now.zero] at h; cases h
    · rw [(E.now.roots t ht).2 e] at h; cases h
set_option maxHeartbeats 4000000 in
theorem drop_spec (E : PgAt h pb jb db S n D P) (T : TrAt h tb pb k) (nt : ¬ S tb) (hk : k < 4) {hg : Nat} {L : List KV} {I : List Nat} (TT : TreeS (P.pgs D n) (P.now.r k) hg L I) (nr : ∀ t, t < 4 → t ≠ k → P.now.r t ∉ I) (key : ByteArray) (hF : kvIs key L = false → ∀ h', Sub h h' → K (.bool false) h')
    (hT : kvIs key L = true → ∀ h' P' hg' I', PgAt h' pb jb db S n D P' → Keep S h h' → TreeS (P'.pgs D n) (P'.now.r k) hg' (kvDrop key L) I' → MvT n D k P P' I I' → P.freeN n ≤ P'.freeN n → K (.bool true) h') :
    CallsH Tryz.prog btree_Tree_Drop.id #[.pointer (some ⟨tb, 0, none⟩), .string key] h K := by
  have hn := E.n2
  apply btree_Tree_Drop.calls
  unfold btree_Tree_Drop.W
  refine ⟨fun x => kvIs key L = true ∧ ∃ m, DrJ pb jb db S n D k P (kvDrop key L) I h x m, ?_, _, T.cell' 0 rfl, _, T.cell' 1 rfl, root_spec E hk ⟨_, rfl, Sub.refl _, split_eq (fun e0 => hF ?_ h (Sub.refl _)) fun e0 => ⟨_, T.cell' 0 rfl, _, T.cell' 1 rfl, root_spec E hk ⟨_, rfl, ?_⟩⟩⟩⟩
  · rintro x ⟨hi, m, J⟩
    refine ⟨fun x m => DrJ pb jb db S n D k P (kvDrop key L) I h x m, ⟨m, J⟩, ?_⟩
    rintro y m ⟨P1, E1, kp1, r0, T1, e1, n1, M1, fr1, nr1⟩
    have Ty : TrAt y tb pb k := Blk.keep T kp1 nt
    have hpk := pgs_ok E1
    obtain ⟨nd, pn, W, F⟩ := TrS_iff.1 T1
    have ok := hpk _ nd pn
    refine ⟨_, Ty.cell' 0 rfl, _, Ty.cell' 1 rfl, root_spec E1 hk ⟨_, rfl, load_spec E1 Ty _ (fun e => by rw [show P1.pgs D n _ = none from e] at pn; cases pn) fun nd' e z k' N => ⟨_, _, rfl, split_ne (fun e => absurd rfl e) fun _ => ?_⟩⟩⟩
    have e : nd' = nd := Option.some.inj ((show P1.pgs D n _ = some nd' from e).symm.trans pn)
    subst e
    obtain ⟨a, c, Ne, fra⟩ := N.ex
    have Ez := E1.sub N.sub
    have Tz : TrAt z tb pb k := Blk.sub Ty N.sub
    have kpz : Keep S h z := kp1.trans (N.sub.keep S)
    refine ⟨k', 0, rfl, _, _, _, Ne.c2, split_dec (fun g => hT hi z P1 (m + 1) _ Ez kpz ⟨r0, T1, e1.symm, rfl, n1, ?_⟩ M1 fr1) fun g => ?_⟩
    · have g : ((nd'.l.length : Nat) : Int) > 0 := g
      rw [← e1, ents_N pn]
      intro e0
      have := Fw_empty W F e0
      rw [this] at g
      exact absurd g (by decide)
    · have g : ¬ ((nd'.l.length : Nat) : Int) > 0 := g
      have hl : nd'.l = [] := List.length_eq_zero_iff.1 (by omega)
      have hw := pgs_why (P := P1) (D := D) (n := n) (i := P1.now.r k) (by rw [pn]; rfl)
      obtain ⟨u1, u2, u3⟩ := why_used hw
      rw [ids_N pn] at n1 M1 nr1
      rw [ents_N pn] at e1
      obtain ⟨hid, nN⟩ := List.nodup_cons.1 n1
      have kd : ((nd'.kind : Nat) : Int) = if nd'.leaf = true then 1 else 2 := by unfold Nd.kind; split <;> rfl
      -- both steps of the pager
      have step : (nd'.first = 0 ∨ P1.why n (nd'.first : Nat) = 0) → nd'.first ≠ P1.now.r k → ∀ K' : Value → Hp → Prop, (∀ x, PgAt x pb jb db S n D ((P1.point k nd'.first).give (P1.now.r k)) → Keep S z x → K' (.int .i64 0) x) →
          CallsH Tryz.prog pager_Pager_Point.id #[.pointer (some ⟨pb, 0, none⟩), .int .i64 (k : Nat), .int .i64 (nd'.first : Nat)] z fun v h27 => ∃ n28, v = .int .i64 n28 ∧ ∃ a29, h27.cell tb 0 = some (.pointer a29) ∧ CallsH Tryz.prog pager_Pager_Give.id #[.pointer a29, .int .i64 (P1.now.r k : Nat)] h27 K' := fun hf hne K' hK' => by
        refine ppoint_ok Ez hk hf fun h4 E4 st4 => ⟨_, rfl, _, (Blk.keep Tz st4.1 nt : TrAt h4 tb pb k).cell' 0 rfl, ?_⟩
        have hw4 : (P1.point k nd'.first).why n (P1.now.r k : Nat) = 0 := hw
        refine give_spec E4 _ (fun e => absurd hw4 e) (fun q eq _ ⟨t', ht', er⟩ => ?_) fun q eq _ _ h5 E5 st5 => ?_
        · have hq : q = P1.now.r k := by omega
          have er : upR P1.now.r k nd'.first t' = q := er
          rw [hq] at er
          by_cases e : t' = k
          · rw [e, upR_same] at er; exact absurd er hne
          · unfold upR at er
            rw [if_neg e] at er
            exact absurd (by rw [er]; exact List.mem_cons_self) (nr1 t' ht' e)
        · have hq : P1.now.r k = q := by omega
          subst hq
          exact hK' h5 E5 (st4.1.trans st5.1)
      have M3 : MvT n D k P ((P1.point k nd'.first).give (P1.now.r k)) I (idsN (P1.pgs D n) m nd') := (M1.trans (MvT.point k nd'.first _)).trans ((Mv.give (P := P1.point k nd'.first) u3 u1 _).t k)
      have fr3 : P.freeN n ≤ ((P1.point k nd'.first).give (P1.now.r k)).freeN n := by
        have := freeN_give (P := P1.point k nd'.first) u1 n
        have h2 : (P1.point k nd'.first).freeN n = P1.freeN n := rfl
        omega
      have rk : ((P1.point k nd'.first).give (P1.now.r k)).now.r k = nd'.first := upR_same _ _ _
      refine ⟨_, Tz.cell' 0 rfl, _, Tz.cell' 1 rfl, k', 0, rfl, _, Ne.c1, ?_⟩
      cases m with
      | zero =>
        have hlf : nd'.leaf = true := W.1
        have hz := ok.z hlf
        refine step (.inl hz) (by rw [hz]; omega) _ fun x Ex kpx => ⟨_, rfl, k', 0, rfl, _, (Ne.out kpx (S_out E1 N.k0) fun b hb => S_out E1 (fra b hb)).c0, ?_⟩
        rw [kd, if_pos hlf]
        refine split_eq (fun _ => hT hi x _ 0 [] Ex (kpz.trans kpx) ⟨rk.trans hz, ?_, rfl⟩ M3 fr3) fun e => absurd rfl e
        rw [← e1]
        show nd'.kv = []
        unfold Nd.kv
        rw [hl]; rfl
      | succ m =>
        have hlf : nd'.leaf = false := W.1
        have hch := W.2.2
        have ecl : nd'.cl eB = [(eB, nd'.first)] := by unfold Nd.cl; rw [hl]; rfl
        have eN : entsN (P1.pgs D n) (m + 1) nd' = ents (P1.pgs D n) m nd'.first := by
          show (entsK (P1.pgs D n) m (nd'.cl eB)).flatten = _
          rw [ecl]; unfold entsK; simp
        have iN : idsN (P1.pgs D n) (m + 1) nd' = ids (P1.pgs D n) m nd'.first := by
          show idsK (P1.pgs D n) m (nd'.cl eB) = _
          rw [ecl]; unfold idsK; simp
        rw [ecl] at hch
        have Tf : TrS (P1.pgs D n) m nd'.first eB eB := hch.1
        rw [iN] at hid nN M3
        rw [eN] at e1
        have fin : nd'.first ∈ ids (P1.pgs D n) m nd'.first := ids_self
        have hne : nd'.first ≠ P1.now.r k := fun e => hid (e ▸ fin)
        refine step (.inr (pgs_why (Tf.in_pg fin))) hne _ fun x Ex kpx => ⟨_, rfl, k', 0, rfl, _, (Ne.out kpx (S_out E1 N.k0) fun b hb => S_out E1 (fra b hb)).c0, ?_⟩
        rw [kd, if_neg (by rw [hlf]; decide)]
        have fr : ∀ i ∈ ids (P1.pgs D n) m nd'.first, ((P1.point k nd'.first).give (P1.now.r k)).pgs D n i = P1.pgs D n i := fun i hi => pgs_give_ne (P := P1.point k nd'.first) fun e => hid (e ▸ hi)
        obtain ⟨f1, f2, f3⟩ := Tf.tr.frame fr
        refine split_eq (fun e => by cases e) fun _ => ⟨m, by omega, _, Ex, kpz.trans kpx, ?_, ?_, ?_, ?_, ?_, fr3, ?_⟩
        · rw [rk]
          have := pgs_lt (P := P1) (D := D) (Tf.in_pg fin)
          omega
        · rw [rk]; exact Tf.frame fr
        · rw [rk]; exact f2.trans e1
        · rw [rk, f3]; exact nN
        · rw [rk, f3]; exact M3
        · intro t ht htk
          rw [rk, f3]
          show upR P1.now.r k nd'.first t ∉ _
          unfold upR
          rw [if_neg htk]
          exact fun h' => nr1 t ht htk (List.mem_cons_of_mem _ (by rw [iN]; exact h'))
  · cases hg with
    | zero => rw [TT.2.1]; rfl
    | succ m => exact absurd (by omega) TT.1
  · cases hg with
    | zero => exact absurd (by rw [TT.1]; rfl) e0
    | succ m =>
      obtain ⟨r0, T0, rfl, rfl, nI, _⟩ := TT
      refine remove_spec nt m E T T0 nI (blt_eB key) (fun h => absurd rfl h) (fun i hi hne t ht er => ?_) (fun h' s hi => ⟨_, rfl, split_not (fun _ => hF hi h' s) fun e => by cases e⟩) fun h' P1 E1 kp hi R => ⟨_, rfl, split_not (fun e => by cases e) fun _ => ⟨hi, m, P1, E1, kp, ?_, ?_, ?_, ?_, ?_, R.fr, ?_⟩⟩
      · by_cases e : t = k
        · rw [e] at er; exact hne er.symm
        · exact nr t ht e (er ▸ hi)
      · rw [R.mv.roots]; exact r0
      · rw [R.mv.roots]; exact R.tr
      · rw [R.mv.roots]; exact R.es
      · rw [R.mv.roots]; exact R.nd
      · rw [R.mv.roots]; exact R.mv.t k
      · intro t ht htk
        have := nonroot_t E.ok (R.mv.t k) nr t ht htk
        rw [R.mv.roots] at this ⊢
        exact this
end Go.Proofs.YthbogjbcecmopaaGreatDoor
namespace Go.Proofs.YthbogjbcecmopaaGreatDoor
open Go.Gx
set_option maxRecDepth 100000
set_option linter.unusedVariables false

abbrev tPair : TypeId := 42
theorem kv_cell {h : Hp} {a : Option Addr} {L : List KV} (H : SliceAt h a (L.length * 2) (kvCells L)) {i : Nat} {p : KV} (hp : L[i]? = some p) :
    ∃ b o, a = some ⟨b, o, none⟩ ∧ h.cell b (o + i * 2) = some (.string p.1) ∧ h.cell b (o + i * 2 + 1) = some (.string p.2) := by
  have hi := (List.getElem?_eq_some_iff.1 hp).1
  obtain ⟨c1, c2⟩ := kvCells_get L i p hp
  obtain ⟨b, o, e, v, hv, hc⟩ := H.cell (i := i * 2) (by omega)
  obtain ⟨b', o', e', v', hv', hc'⟩ := H.cell (i := i * 2 + 1) (by omega)
  rw [e] at e'
  cases e'
  rw [c1] at hv; cases hv
  rw [c2] at hv'; cases hv'
  exact ⟨b, o, e, hc, by rw [Nat.add_assoc]; exact hc'⟩
def NewKV (h h' : Hp) (a : Option Addr) (c : Nat) (L : List KV) : Prop := Sub h h' ∧ (∀ b, blkOf a b → h b = none) ∧ Go.Gx.Own h' tPair 2 a L.length c (kvCells L)
theorem NewKV.row {h h' : Hp} {a : Option Addr} {c : Nat} {L : List KV} (N : NewKV h h' a c L) : NewR kvC 2 tPair h h' a c L := ⟨N.1, N.2.1, N.2.2⟩
end Go.Proofs.YthbogjbcecmopaaGreatDoor
namespace Go.Proofs.YthbogjbcecmopaaGreatDoor
open Go.Gx
set_option maxRecDepth 100000
set_option linter.unusedVariables false
variable {n : Nat} {D : Dk} {P P' : Pg} {h : Hp} {K : Value → Hp → Prop} {pb jb db : Nat} {S : Nat → Prop} {tb k : Nat}
theorem light_spec (a b c : Int) (x y z : ByteArray) (hF : K (.bool false) h) (hT : x.size ≤ 500 → y.size ≤ 500 → z.size ≤ 1000 → K (.bool true) h) : CallsH Tryz.prog law15_light.id #[.agg #[.int .i64 a, .int .i64 b, .int .i64 c, .string x, .string y, .string z]] h K := by
  apply law15_light.calls
  unfold law15_light.W
  refine split_dec (fun e1 => split_dec (fun e2 => ?_) fun _ => hF) fun _ => hF
  have e1 : (x.size : Int) ≤ 500 := e1
  have e2 : (y.size : Int) ≤ 500 := e2
  rw [hb_eq]
  by_cases e3 : Int.ofNat z.size ≤ 1000
  · rw [decide_eq_true e3]
    have e3 : (z.size : Int) ≤ 1000 := e3
    exact hT (by omega) (by omega) (by omega)
  · rw [decide_eq_false e3]; exact hF
theorem newPg_tree (n : Nat) (D : Dk) (k : Nat) : TreeS (newPg.pgs D n) (newPg.now.r k) 0 [] [] := ⟨rfl, rfl, rfl⟩
theorem root0 {hg : Nat} {L : List KV} {I : List Nat} (TT : TreeS (P.pgs D n) (P.now.r k) hg L I) : 0 ∉ I := fun h0 => by
  have := pgs_lt (D := D) (P := P) (TT.used 0 h0)
  omega
theorem TreeS.nil {pg : Nat → Option Nd} {root hg : Nat} {I : List Nat} (T : TreeS pg root hg [] I) : hg = 0 ∧ root = 0 ∧ I = [] := by
  cases hg with
  | zero => exact ⟨rfl, T.1, T.2.2⟩
  | succ m => exact absurd rfl T.2.2.2.2.2
set_option maxHeartbeats 2000000 in
theorem lives_spec (hK : ∀ h', Sub h h' → K (.bool true) h') : CallsH Tryz.prog law15_lives.id #[] h K := by
  apply law15_lives.calls
  unfold law15_lives.W
  refine opened_spec 4 (by decide) (by decide) fun h2 tb pb jb db S s2 E fr T n2 nt => ⟨_, _, _, rfl, ?_⟩
  have f0 : newPg.freeN 4 = 3 := by decide
  have m0 : may (bytesL [97]) (bytesL [120]) = true := by decide
  refine ⟨fun x => ∃ P1 hg1 I1, PgAt x pb jb db S 4 (Dk.new (8 * 4 + 1)) P1 ∧ Keep S h2 x ∧ TreeS (P1.pgs (Dk.new (8 * 4 + 1)) 4) (P1.now.r 1) hg1 (kvPut (bytesL [97]) (bytesL [120]) []) I1 ∧ MvT 4 (Dk.new (8 * 4 + 1)) 1 newPg P1 [] I1 ∧ I1.length = 1, ?_, split_cond (fun e => by cases e) fun _ => ?_⟩
  · rintro x ⟨P1, hg1, I1, E1, kp1, TT, M1, l1⟩
    have T1 : TrAt x tb pb 1 := Blk.keep T kp1 nt
    have kg : kvGet (bytesL [97]) (kvPut (bytesL [97]) (bytesL [120]) []) = some (bytesL [120]) := by decide
    have fr1 := M1.free
    refine get_spec E1 T1 (by decide) TT.tree _ fun h9 s9 => ⟨_, _, rfl, ?_⟩
    rw [kg]
    refine split_beqS (fun _ => split_cond (fun _ => ?_) fun e => by cases e) fun e => absurd rfl e
    have E9 := E1.sub s9
    have T9 : TrAt h9 tb pb 1 := Blk.sub T1 s9
    refine drop_spec E9 T9 nt (by decide) TT (fun t ht htk hi => ?_) _ (fun e => absurd e (by decide)) fun _ h13 P2 hg2 I2 E2 kp2 TT2 M2 fr2 => ⟨_, rfl, split_cond (fun _ => ?_) fun e => by cases e⟩
    · have : P1.now.r t = 0 := M1.roots t htk
      rw [this] at hi
      exact root0 TT hi
    · have e0 : kvDrop (bytesL [97]) (kvPut (bytesL [97]) (bytesL [120]) []) = [] := by decide
      rw [e0] at TT2
      obtain ⟨rfl, r0, rfl⟩ := TT2.nil
      have T2 : TrAt h13 tb pb 1 := Blk.keep T9 kp2 nt
      have fr3 := M2.free
      refine height_spec E2 T2 (by decide) TT2.tree (by decide) fun h16 s16 => ⟨_, rfl, split_eq (fun _ => free_spec (E2.sub s16) ⟨_, rfl, ?_⟩) fun e => absurd rfl e⟩
      have : P2.freeN 4 = 3 := by
        simp only [List.length_nil] at fr1 fr3
        omega
      have ev : hb (((3 : Nat) : Int) == 3) = true := by rw [hb_eq]; rfl
      rw [this, ev]
      refine hK _ ?_
      have k02 : Keep S h2 h16 := kp1.trans ((s9.keep S).trans (kp2.trans (s16.keep S)))
      exact k02.sub s2 fr
  · refine put_spec E T nt (by decide) (newPg_tree 4 _ 1) _ _ (fun e => absurd e (by decide)) (fun _ e => by omega) fun _ _ h22 P1 hg1 I1 E1 kp1 TT M1 l1 => ⟨_, rfl, split_ne (fun e => absurd rfl e) fun _ => ?_⟩
    have T1 : TrAt h22 tb pb 1 := Blk.keep T kp1 nt
    have hh := TT.high
    have h1 : 1 ≤ hg1 := by
      cases hg1 with
      | zero => exact absurd TT.2.1 (kvPut_ne _ _)
      | succ m => omega
    have l1 : I1.length ≤ 0 + 0 + 1 := l1
    have e1 : hg1 = 1 := by omega
    subst e1
    have fr1 := M1.free
    simp only [List.length_nil] at fr1
    refine height_spec E1 T1 (by decide) TT.tree (by decide) fun h25 s25 => ⟨_, rfl, split_ne (fun e => absurd rfl e) fun _ => free_spec (E1.sub s25) ⟨_, rfl, split_ne (fun e => absurd ?_ e) fun _ => ⟨P1, 1, I1, E1.sub s25, kp1.trans (s25.keep S), TT, M1, by omega⟩⟩⟩
    have : P1.freeN 4 = 2 := by omega
    rw [this]; rfl
end Go.Proofs.YthbogjbcecmopaaGreatDoor
namespace Go.Proofs.YthbogjbcecmopaaGreatDoor
open Go.Gx
set_option maxRecDepth 100000
set_option linter.unusedVariables false
variable {n : Nat} {D D' : Dk} {P P' : Pg} {h : Hp} {K : Value → Hp → Prop} {pb jb db : Nat} {S : Nat → Prop} {tb k : Nat}
def DOn (D : Dk) : Prop := D.down = false ∧ D.fuse = 0 ∧ D.ws = []
theorem cs_page (ok : DOk n P.d) (hn : 1 ≤ n) {i : Nat} (h1 : 1 ≤ i) (hi : i < n) : updP (P.cs D n) i (D.own n i) = P.page D n i := by
  obtain ⟨c1, c2, _⟩ := cs_ok (P := P) (D := D) ok hn
  cases hd : P.diff D n i with
  | true =>
    obtain ⟨s, hs, _⟩ := diff_some hd
    have : (i, s) ∈ P.cs D n := by
      unfold Pg.cs
      refine List.mem_cons_of_mem _ (List.mem_map.2 ⟨i, List.mem_filter.2 ⟨(chg_mem (by omega)).2 ⟨hi, hd⟩, by simp; omega⟩, ?_⟩)
      unfold Pg.pair
      rw [hs]; rfl
    rw [updP_mem this c2]
    unfold Pg.page
    rw [hs]; rfl
  | false =>
    rw [updP_none]
    · unfold Pg.page
      unfold Pg.diff at hd
      cases e : dget P.d i with
      | none => rfl
      | some s =>
        rw [e] at hd
        have : D.own n i = s := by simpa using hd
        rw [this]; rfl
    · intro c hc e
      have : c.1 ∈ (P.cs D n).map (·.1) := List.mem_map_of_mem hc
      rw [cs_map ok, e] at this
      rcases List.mem_cons.1 this with h' | h'
      · omega
      · rw [(List.mem_filter.1 h').2] at hd; cases hd
theorem commit_don {D : Dk} (hD : DOn D) {S0 : Nat → Prop} (J : JAt h jb db S0 n D) (ok : DOk n P.d) : (commitD n D (P.cs D n)).2 = 0 ∧ DOn (commitD n D (P.cs D n)).1 ∧ ∀ i, 1 ≤ i → i < n → (commitD n D (P.cs D n)).1.own n i = P.page D n i := by
  obtain ⟨c1, _⟩ := cs_ok (P := P) (D := D) ok J.n1
  obtain ⟨r1, r2, r3, r4, _, _, r7⟩ := commit_own (n := n) (ds := P.cs D n) hD.1 hD.2.1 hD.2.2 (fun c hc => ⟨(c1 c hc).2, (c1 c hc).1⟩) J.len
  exact ⟨r1, ⟨r2, r3, r4⟩, fun i h1 hi => (r7 i).trans (cs_page ok J.n1 h1 hi)⟩
theorem pgs_eq {H : Hd} {d : List Ch} {g : Hd} {pts : List (Hd × List Ch)} (hu : H.u = P.now.u) (hp : ∀ i, 1 ≤ i → i < n → (dget d i).getD (D'.own n i) = P.page D n i) : (⟨g, H, d, pts⟩ : Pg).pgs D' n = P.pgs D n := by
  funext i
  unfold Pg.pgs Pg.node
  have ew : (⟨g, H, d, pts⟩ : Pg).why n (i : Nat) = P.why n (i : Nat) := by
    unfold Pg.why
    show (if _ then _ else if H.u _ = true then _ else _) = _
    rw [hu]
  rw [ew]
  split
  · rename_i hw
    obtain ⟨j, ej, h1, h2, _⟩ := why_ok hw
    rw [Int.toNat_natCast]
    have : i = j := by omega
    subst this
    have : (⟨g, H, d, pts⟩ : Pg).page D' n i = P.page D n i := hp i h1 h2
    rw [this]
  · rfl
theorem reset_pgs0 (hc : P.chg D n = []) (ok : DOk n P.d) : (Pg.reset P.now).pgs D n = P.pgs D n := by
  refine pgs_eq rfl fun i h1 hi => ?_
  show D.own n i = _
  have hd : P.diff D n i = false := by
    cases hd : P.diff D n i with
    | false => rfl
    | true =>
      have := (chg_mem (P := P) (D := D) (n := n) (i := i) (by omega)).2 ⟨hi, hd⟩
      rw [hc] at this; cases this
  unfold Pg.page
  unfold Pg.diff at hd
  cases e : dget P.d i with
  | none => rfl
  | some s =>
    rw [e] at hd
    have : D.own n i = s := by simpa using hd
    rw [this]; rfl
theorem reset_pgs1 (hp : ∀ i, 1 ≤ i → i < n → D'.own n i = P.page D n i) : (Pg.reset P.now.up).pgs D' n = P.pgs D n := pgs_eq rfl hp
theorem rowC_byte (l : List UInt8) : rowC byteC l = bytesV ⟨l.toArray⟩ := rowC_bytes ⟨l.toArray⟩
set_option maxHeartbeats 1000000 in
theorem value_spec (a b c : Int) (x y z : ByteArray) (hz : z.size ≤ 1000) (hK : ∀ h' s, Sub h h' → s.size ≤ 1000 → K (.string s) h') : CallsH Tryz.prog law15_value.id #[.agg #[.int .i64 a, .int .i64 b, .int .i64 c, .string x, .string y, .string z]] h K := by
  apply law15_value.calls
  unfold law15_value.W
  refine split_dec (fun _ => hK h z (Sub.refl h) hz) fun c0 => split_dec (fun _ => hK h z (Sub.refl h) hz) fun c1 => ?_
  obtain ⟨m, rfl⟩ : ∃ m : Nat, c = (m : Int) := ⟨c.toNat, by omega⟩
  refine ⟨by omega, by omega, by omega, by omega, fun k1 hk1 => ?_⟩
  rw [Int.toNat_natCast]
  have s1 := Sub.upd hk1 (.cells (repV m [Value.int .u8 0]).toArray 5 (0, 0))
  have B1 := Blk.new h k1 5 (repV m [Value.int .u8 0])
  have N1 : NewR byteC 1 5 h (h.upd k1 (.cells (repV m [Value.int .u8 0]).toArray 5 (0, 0))) (some ⟨k1, 0, none⟩) m (List.replicate m 0) := by
    refine ⟨s1, fun b ⟨o, s, e⟩ => by cases e; exact hk1, ?_⟩
    unfold OwnR
    rw [List.length_replicate, rowC_zeros]
    exact ⟨by unfold repV; simp, Nat.le_refl _, .inr ⟨k1, [], rfl, by rw [List.append_nil]; exact B1, by simp⟩⟩
  generalize h.upd k1 (.cells (repV m [Value.int .u8 0]).toArray 5 (0, 0)) = y1 at N1 s1 ⊢
  refine ⟨fun i x q => ∃ (j : Nat) (l : List UInt8), i = (j : Int) ∧ j ≤ m ∧ q = m - j ∧ l.length = m ∧ NewR byteC 1 5 h x (some ⟨k1, 0, none⟩) m l, ⟨_, 0, _, rfl, Nat.zero_le _, rfl, List.length_replicate, N1⟩, ?_⟩
  rintro i x q ⟨j, l, rfl, hj, rfl, hl, N⟩
  refine split_dec (fun g => ?_) fun g => ?_
  · have g : ((j : Nat) : Int) < ((m : Nat) : Int) := g
    have hx : l[j]? = some (l[j]'(by omega)) := List.getElem?_eq_getElem (by omega)
    obtain ⟨b, eb, st, N2⟩ := N.put byteC_len hx (by decide) (j := 0) (vs := [.int .u8 118]) (y := 118) (by show 0 + 1 ≤ 1; decide) rfl
    have hb : k1 = b := by cases eb; rfl
    subst hb
    have next : IntKind.i64.wrap ((j : Int) + 1) = ((j + 1 : Nat) : Int) := by rw [wid (by omega) (by omega)]; omega
    have hl2 : (l.set j 118).length = m := by rw [List.length_set]; exact hl
    refine ⟨by omega, g, k1, 0, rfl, ?_⟩
    rw [Int.toNat_natCast, next]
    refine ⟨st, split_dec (fun g2 => split_cond (fun _ => ?_) fun e => ?_) fun _ => ⟨m - (j + 1), by omega, j + 1, _, rfl, by omega, rfl, hl2, N2⟩⟩
    · have hx2 : (l.set j 118)[j]? = some ((l.set j 118)[j]'(by omega)) := List.getElem?_eq_getElem (by omega)
      obtain ⟨b, eb, st2, N3⟩ := N2.put byteC_len hx2 (by decide) (j := 0) (vs := [.int .u8 (byteAt z 0)]) (y := (z.data.toList[0]?).getD 0) (by show 0 + 1 ≤ 1; decide) rfl
      have hb : k1 = b := by cases eb; rfl
      subst hb
      exact ⟨by omega, g, k1, 0, rfl, st2, m - (j + 1), by omega, j + 1, _, rfl, by omega, rfl, by rw [List.length_set]; exact hl2, N3⟩
    · have g2 : (z.size : Int) > 0 := g2
      have : Nat.blt 0 z.size = true := Nat.blt_eq.mpr (by omega)
      rw [this] at e; cases e
  · refine ⟨⟨l.toArray⟩, ?_, hK x ⟨l.toArray⟩ N.sub ?_⟩
    · have := N.own.row
      unfold RowAt at this
      rw [hl, Nat.mul_one, rowC_byte] at this
      exact this
    · rw [← size_len]
      show l.length ≤ 1000
      omega
end Go.Proofs.YthbogjbcecmopaaGreatDoor
namespace Go.Gx
open Go.RowKit

def heapOf (W : World) : Hp := fun b => W.heap[b]?
theorem heapOf_holds (W : World) : Holds (heapOf W) W := fun _ _ h => h
theorem heapOf_cell {W : World} {b o : Nat} {v : Value} (h : W.cell? ⟨b, o, none⟩ = some v) : (heapOf W).cell b o = some v := by
  unfold World.cell? at h
  unfold Hp.cell heapOf
  split at h
  · rename_i c t f hb
    simp only [Option.isSome_none, Bool.false_eq_true, if_false] at h
    rw [hb]; exact h
  · cases h
theorem calls_below {P : Program} {f : FuncId} {args : Array Value} {W : World} (H : CallsH P f args (heapOf W) fun v h' => v = .bool true ∧ Sub (heapOf W) h') :
    Calls P f args W fun e W' => e = .returned (.bool true) ∧ Below W.heap.size W W' := by
  refine Calls.mono (H W (heapOf_holds W)) fun e W' ⟨v, h', he, ⟨hv, hs⟩, hh, hk⟩ => ⟨by rw [he, hv], ⟨hk.os, hk.tape, hk.output, hk.size, fun k hlt => ?_⟩⟩
  have h1 : W.heap[k]? = some W.heap[k] := Array.getElem?_eq_getElem hlt
  rw [h1]
  exact hh k _ (hs k _ h1)

def KdOk : Kd → Value → Prop
  | .int k, v => ∃ n, v = .int k n ∧ (Lit.int k n).wf = true
  | .bool, v => ∃ b, v = .bool b
  | .str, v => ∃ s, v = .string s ∧ s.size ≤ maxLen
  | .slice, v => ∃ a l c, v = .slice a l c ∧ l ≤ c
  | .ptr, v => ∃ a, v = .pointer a
  | .map, v => ∃ r, v = .map r
  | .any, _ => True
def KdsOk : List Kd → List Value → Prop
  | [], [] => True
  | k :: ks, v :: vs => KdOk k v ∧ KdsOk ks vs
  | _, _ => False
theorem KdsOk.append : ∀ {ks ks' : List Kd} {vs vs' : List Value}, KdsOk ks vs → KdsOk ks' vs' → KdsOk (ks ++ ks') (vs ++ vs')
  | [], _, [], _, _, h' => h'
  | [], _, _ :: _, _, h, _ => h.elim
  | _ :: _, _, [], _, h, _ => h.elim
  | _ :: _, _, _ :: _, _, h, h' => ⟨h.1, KdsOk.append h.2 h'⟩
def laySegs (P : Program) (d : Nat) (lay : TypeId → Bool) : List (Nat × TypeId) → Nat → Bool
  | [], _ => true
  | (o, t) :: l, n => Nat.beq o n && Nat.beq (kdsIn P d t).length (P.cellsOf t) && lay t && laySegs P d lay l (n + P.cellsOf t)
def segsOf (P : Program) : TypeDesc → List (Nat × TypeId)
  | .struct fs => fs.toList.map fun f => (f.offset, f.type)
  | .array n e => (List.range n).map fun i => (i * P.cellsOf e, e)
  | _ => []
def layOk (P : Program) : Nat → TypeId → Bool
  | 0, _ => false
  | d + 1, t => laySegs P d (layOk P d) (segsOf P (tdesc P t)) 0 && Nat.beq (P.cellsOf t) (kdsIn P (d + 1) t).length
theorem kdsIn_succ (P : Program) (d : Nat) (t : TypeId) : kdsIn P (d + 1) t = match tdesc P t with
    | .struct fs => fs.toList.flatMap fun f => kdsIn P d f.type
    | .array n e => (List.replicate n (kdsIn P d e)).flatten
    | u => [kd1 u] := rfl
theorem kdsIn_segs {P : Program} {d : Nat} {t : TypeId} (h : aggT P t = true) : kdsIn P (d + 1) t = (segsOf P (tdesc P t)).flatMap fun x => kdsIn P d x.2 := by
  rw [kdsIn_succ]
  unfold aggT at h
  split at h
  · rename_i fs e
    rw [e]
    simp only [segsOf]
    rw [List.flatMap_map]
  · rename_i n e' e
    rw [e]
    simp only [segsOf]
    rw [List.flatMap_map]
    clear e h
    change (List.replicate n (kdsIn P d e')).flatten = (List.range n).flatMap fun _ => kdsIn P d e'
    generalize kdsIn P d e' = ks
    induction n with
    | zero => rfl
    | succ n ih => rw [List.replicate_succ', List.flatten_append, List.range_succ, List.flatMap_append, ih]; simp
  · cases h
section
variable {H : Type} {enc : TypeId × Value → H} {P : Program} {w : World} {sp : Nat → Bool}
theorem segs_ok {d fuel : Nat} (ih : ∀ t cs x, DataW.trod enc P w 0 sp true fuel t cs = some x → layOk P d t = true → KdsOk (kdsIn P d t) cs) (cs : List Value) :
    ∀ (l : List (Nat × TypeId)) (n : Nat) (xs), laySegs P d (layOk P d) l n = true → l.mapM (fun x => DataW.trod enc P w 0 sp true fuel x.2 ((cs.drop x.1).take (P.cellsOf x.2))) = some xs →
      cs.length = n + (l.flatMap fun x => kdsIn P d x.2).length → KdsOk (l.flatMap fun x => kdsIn P d x.2) (cs.drop n)
  | [], n, xs, _, _, hl => by
    have : cs.drop n = [] := List.drop_eq_nil_of_le (by simp at hl; omega)
    rw [this]; exact trivial
  | (o, t) :: l, n, xs, hlay, hm, hl => by
    unfold laySegs at hlay
    obtain ⟨h1, h2⟩ := Bool.and_eq_true_iff.1 hlay
    obtain ⟨h3, h4⟩ := Bool.and_eq_true_iff.1 h1
    obtain ⟨h5, h6⟩ := Bool.and_eq_true_iff.1 h3
    have h5 := Nat.eq_of_beq_eq_true h5
    have h6 := Nat.eq_of_beq_eq_true h6
    subst h5
    rw [List.mapM_cons] at hm
    cases hx : DataW.trod enc P w 0 sp true fuel t ((cs.drop o).take (P.cellsOf t)) with
    | none => simp [hx] at hm
    | some x =>
      simp only [hx] at hm
      cases hr : l.mapM (fun x => DataW.trod enc P w 0 sp true fuel x.2 ((cs.drop x.1).take (P.cellsOf x.2))) with
      | none => simp [hr] at hm
      | some ys =>
        rw [List.flatMap_cons, List.length_append] at hl
        have hl : cs.length = o + ((kdsIn P d t).length + (l.flatMap fun x => kdsIn P d x.2).length) := hl
        have g := segs_ok ih cs l (o + P.cellsOf t) ys h2 hr (by omega)
        have e : cs.drop o = (cs.drop o).take (P.cellsOf t) ++ cs.drop (o + P.cellsOf t) := by
          rw [← List.drop_drop]; exact (List.take_append_drop _ _).symm
        rw [List.flatMap_cons, e]
        exact (ih t _ x hx h4).append g
theorem trod_kds : ∀ (d fuel : Nat) (t : TypeId) (cs : List Value) (x : DataW H × List MemPlace), DataW.trod enc P w 0 sp true fuel t cs = some x → layOk P d t = true → KdsOk (kdsIn P d t) cs
  | 0, _, _, _, _, _, h => by cases h
  | d + 1, 0, _, _, _, h, _ => by cases h
  | d + 1, fuel + 1, t, cs, x, h, hlay => by
    unfold layOk at hlay
    obtain ⟨h1, h2⟩ := Bool.and_eq_true_iff.1 hlay
    have h2 := Nat.eq_of_beq_eq_true h2
    have ih := trod_kds d fuel
    cases ha : aggT P t with
    | true =>
      have ek := kdsIn_segs (P := P) (d := d) ha
      rw [ek] at h2 ⊢
      unfold aggT at ha
      unfold DataW.trod at h
      split at ha
      · rename_i fs e
        rw [tdesc_some e (by simp)] at h
        simp only [] at h
        split at h
        · rename_i hlen
          obtain ⟨ys, hm, _⟩ := Option.map_eq_some_iff.1 h
          have hm' : (segsOf P (tdesc P t)).mapM (fun x => DataW.trod enc P w 0 sp true fuel x.2 ((cs.drop x.1).take (P.cellsOf x.2))) = some ys := by
            rw [e]; simp only [segsOf]; rw [List.mapM_map]; exact hm
          have := segs_ok ih cs _ 0 ys h1 hm' (by omega)
          simpa using this
        · cases h
      · rename_i n e' e
        rw [tdesc_some e (by simp)] at h
        simp only [] at h
        split at h
        · rename_i hlen
          obtain ⟨ys, hm, _⟩ := Option.map_eq_some_iff.1 h
          have hm' : (segsOf P (tdesc P t)).mapM (fun x => DataW.trod enc P w 0 sp true fuel x.2 ((cs.drop x.1).take (P.cellsOf x.2))) = some ys := by
            rw [e]; simp only [segsOf]; rw [List.mapM_map]; exact hm
          have := segs_ok ih cs _ 0 ys h1 hm' (by omega)
          simpa using this
        · cases h
      · cases ha
    | false =>
      have ek : kdsIn P (d + 1) t = [kd1 (tdesc P t)] := by
        rw [kdsIn_succ]
        unfold aggT at ha
        split <;> first | rfl | (rename_i e; rw [e] at ha; cases ha)
      rw [ek]
      unfold aggT at ha
      simp only [DataW.trod] at h
      cases hu : P.underlying t with
      | none => rw [hu] at h; cases h
      | some u =>
        have et : tdesc P t = u := by unfold tdesc; rw [hu]; rfl
        rw [hu] at h
        rw [et] at ha ⊢
        match cs, h with
        | [], h => cases u <;> first | (cases ha; done) | (simp at h)
        | c :: c' :: cs, h => cases u <;> first | (cases ha; done) | (simp at h)
        | [c], h =>
          refine ⟨?_, trivial⟩
          cases u <;> first
            | (cases ha; done)
            | exact trivial
            | skip
          all_goals (cases c <;> first | (simp at h; done) | skip)
          · exact ⟨_, rfl⟩
          · rename_i k k' n
            simp only [] at h
            split at h
            · rename_i hk; obtain ⟨rfl, hw⟩ := hk; exact ⟨_, rfl, hw⟩
            · cases h
          · rename_i s
            simp only [] at h
            split at h
            · rename_i hk; exact ⟨_, rfl, hk⟩
            · cases h
          · exact ⟨_, rfl⟩
          · rename_i a l c
            cases a with
            | none =>
              match l, c, h with
              | 0, 0, _ => exact ⟨_, _, _, rfl, Nat.le_refl _⟩
              | 0, c + 1, h => simp at h
              | l + 1, c, h => simp at h
            | some ad =>
              simp only [] at h
              split at h
              · rename_i hk; exact ⟨_, _, _, rfl, hk.2.1⟩
              · cases h
          · exact ⟨_, rfl⟩
theorem cells?_get {base : Nat} {a : Addr} {n : Nat} {cs : List Value} (h : w.cells? base a n = some cs) : cs.length = n ∧ ∀ j (hj : j < cs.length), w.cell? (a.add j) = some cs[j] := by
  unfold World.cells? at h
  split at h
  · have key : ∀ (l : List Nat) (cs : List Value), l.mapM (fun i => w.cell? (a.add i)) = some cs → cs.length = l.length ∧ ∀ j (hj : j < cs.length) (hl : j < l.length), w.cell? (a.add l[j]) = some cs[j] := by
      intro l
      induction l with
      | nil => intro cs h; simp at h; subst h; exact ⟨rfl, fun j hj => by simp at hj⟩
      | cons i l ih =>
        intro cs h
        rw [List.mapM_cons] at h
        cases h1 : w.cell? (a.add i) with
        | none => simp [h1] at h
        | some v =>
          cases h2 : l.mapM (fun i => w.cell? (a.add i)) with
          | none => simp [h1, h2] at h
          | some vs =>
            simp [h1, h2] at h
            subst h
            obtain ⟨g1, g2⟩ := ih vs h2
            refine ⟨by simp [g1], fun j hj hl => ?_⟩
            cases j with
            | zero => exact h1
            | succ j => exact g2 j (by simpa using hj) (by simpa using hl)
    obtain ⟨g1, g2⟩ := key _ _ h
    rw [List.length_range] at g1
    refine ⟨g1, fun j hj => ?_⟩
    have := g2 j hj (by rw [List.length_range]; omega)
    rw [List.getElem_range] at this; exact this
  · cases h
theorem spot_none {a : Addr} {j : Nat} {v : Value} (h : w.cell? (a.add j) = some v) : (a.add j).spot = none := by
  unfold World.cell? at h
  split at h
  · cases e : (a.add j).spot with
    | none => rfl
    | some s => rw [e] at h; simp at h
  · cases h
def RowOk (P : Program) (w : World) (e : TypeId) (a : Option Addr) (l : Nat) : Prop :=
  ∀ i, i < l → ∃ b o, a = some ⟨b, o, none⟩ ∧ ∃ cs, KdsOk (kds P e) cs ∧ ∀ j (hj : j < cs.length), (heapOf w).cell b (o + i * P.cellsOf e + j) = some cs[j]
theorem row_ok {t e : TypeId} {v : Value} {d : DataW H} {ps : List MemPlace} {a : Option Addr} {l c : Nat} (ht : P.underlying t = some (.slice e)) (hlay : layOk P 8 e = true) (hpos : Nat.blt 0 (P.cellsOf e) = true) (hv : v = .slice a l c)
    (h : DataW.Trod enc P w 0 sp true t v d ps) : RowOk P w e a l ∧ l ≤ c ∧ c ≤ maxLen ∧ (a = none → l = 0 ∧ c = 0) := by
  subst hv
  obtain ⟨fuel, hf⟩ := h
  rcases Deep.open_slice ht hf with ⟨hcs, _⟩ | ⟨ad, len, cap, m, n, D, Pl, hcs, _, hl, hm, hmm, _, hel⟩
  · simp [Value.cells] at hcs
    obtain ⟨rfl, rfl, rfl⟩ := hcs
    exact ⟨fun i hi => by omega, Nat.le_refl _, Nat.zero_le _, fun _ => ⟨rfl, rfl⟩⟩
  · simp [Value.cells] at hcs
    obtain ⟨rfl, rfl, rfl⟩ := hcs
    refine ⟨fun i hi => ?_, hl, hm, fun h => by cases h⟩
    have him : i < m := by
      have : l ≤ m := by rw [hmm]; split <;> omega
      omega
    obtain ⟨cs, h1, h2⟩ := hel i him
    obtain ⟨g1, g2⟩ := cells?_get h1
    have hk := trod_kds 8 n e cs _ h2 hlay
    have hp : 0 < P.cellsOf e := Nat.le_of_ble_eq_true hpos
    have h0 := g2 0 (by omega)
    have hs : ad.spot = none := by
      obtain ⟨cs0, k1, k2⟩ := hel 0 (by omega)
      have := (cells?_get k1)
      have g3 := this.2 0 (by omega)
      have := spot_none g3
      simpa [Addr.add] using this
    obtain ⟨b, o, s⟩ := ad
    simp only at hs
    subst hs
    refine ⟨b, o, rfl, cs, hk, fun j hj => ?_⟩
    have := g2 j hj
    rw [add_mk, add_mk] at this
    exact heapOf_cell this
theorem agg_ok {t : TypeId} {v : Value} {r : Reach} {base : Nat} {d : DataW H} {ps : List MemPlace} (ha : aggT P t = true) (hlay : layOk P 8 t = true) (hv : Value.okWide P w r base t v) (h : DataW.Trod enc P w 0 sp true t v d ps) :
    ∃ cs, v = .agg cs ∧ KdsOk (kds P t) cs.toList := by
  obtain ⟨fuel, hf⟩ := h
  have hk := trod_kds 8 fuel t _ _ hf hlay
  unfold aggT at ha
  unfold Value.okWide at hv
  split at ha
  · rename_i e
    rw [tdesc_some e (by simp)] at hv
    obtain ⟨cs, rfl, _⟩ := hv
    exact ⟨cs, rfl, hk⟩
  · rename_i e
    rw [tdesc_some e (by simp)] at hv
    obtain ⟨cs, rfl, _⟩ := hv
    exact ⟨cs, rfl, hk⟩
  · cases ha
theorem KdsOk.nil_eq {vs : List Value} (h : KdsOk [] vs) : vs = [] := by cases vs with | nil => rfl | cons _ _ => exact h.elim
theorem KdsOk.cons_eq {k : Kd} {ks : List Kd} {vs : List Value} (h : KdsOk (k :: ks) vs) : ∃ v us, vs = v :: us ∧ KdOk k v ∧ KdsOk ks us := by
  cases vs with
  | nil => exact h.elim
  | cons v us => exact ⟨v, us, rfl, h.1, h.2⟩
end
end Go.Gx
namespace Go.Gx
theorem RowOk.row {α : Type} {f : α → List Value} {sz : Nat} {p : α → Prop} {P : Program} {w : World} {e : TypeId} {a : Option Addr} {l : Nat} (H : RowOk P w e a l) (hf : ∀ x, (f x).length = sz) (hz : 0 < sz) (es : P.cellsOf e = sz)
    (hd : ∀ cs, KdsOk (kds P e) cs → ∃ x, cs = f x ∧ p x) : ∃ L : List α, L.length = l ∧ RowAt f sz (heapOf w) a L ∧ ∀ x ∈ L, p x := by
  by_cases hl : l = 0
  · subst hl
    exact ⟨[], rfl, RowAt.nil _ _, fun x hx => by cases hx⟩
  have ex : ∀ i, i < l → ∃ x : α, p x ∧ ∃ b o, a = some ⟨b, o, none⟩ ∧ ∀ j (hj : j < (f x).length), (heapOf w).cell b (o + i * sz + j) = some (f x)[j] := by
    intro i hi
    obtain ⟨b, o, ea, cs, hk, hc⟩ := H i hi
    obtain ⟨x, rfl, hp⟩ := hd cs hk
    rw [es] at hc
    exact ⟨x, hp, b, o, ea, hc⟩
  obtain ⟨_, _, b, o, ea, _⟩ := ex 0 (by omega)
  have all : ∀ n, n ≤ l → ∃ L : List α, L.length = n ∧ CellsAt (heapOf w) b o (rowC f L) ∧ ∀ x ∈ L, p x := by
    intro n
    induction n with
    | zero => exact fun _ => ⟨[], rfl, fun i hi => by simp [rowC] at hi, fun x hx => by cases hx⟩
    | succ n ih =>
      intro hn
      obtain ⟨L, h1, h2, h3⟩ := ih (by omega)
      obtain ⟨x, hp, b', o', ea', hc⟩ := ex n (by omega)
      rw [ea] at ea'; cases ea'
      refine ⟨L ++ [x], by simp [h1], fun i hi => ?_, fun y hy => ?_⟩
      · have hlen := rowC_length hf L
        have hg : (rowC f (L ++ [x]))[i]? = some (rowC f (L ++ [x]))[i] := List.getElem?_eq_getElem hi
        rw [← hg]
        rw [rowC_length hf, List.length_append, List.length_singleton, h1, Nat.add_mul] at hi
        rw [rowC_append, rowC_one]
        by_cases hc' : i < (rowC f L).length
        · rw [List.getElem?_append_left hc', List.getElem?_eq_getElem hc']; exact h2 i hc'
        · rw [List.getElem?_append_right (by omega)]
          have hj : i - (rowC f L).length < (f x).length := by rw [hf]; rw [hlen, h1]; omega
          have := hc _ hj
          rw [List.getElem?_eq_getElem hj, ← this]
          congr 1
          rw [hlen, h1] at hc' ⊢; omega
      · rcases List.mem_append.1 hy with hy | hy
        · exact h3 y hy
        · rw [List.mem_singleton.1 hy]; exact hp
  obtain ⟨L, h1, h2, h3⟩ := all l (Nat.le_refl _)
  exact ⟨L, h1, ⟨rowC_length hf L, .inr ⟨b, o, ea, h2⟩⟩, h3⟩
end Go.Gx
namespace Go.Proofs.YthbogjbcecmopaaGreatDoor
open Go.Gx
set_option maxRecDepth 100000
set_option linter.unusedVariables false
structure Op6 where
  a : Int
  b : Int
  c : Int
  x : ByteArray
  y : ByteArray
  z : ByteArray
def op6C (o : Op6) : List Value := [.int .i64 o.a, .int .i64 o.b, .int .i64 o.c, .string o.x, .string o.y, .string o.z]
theorem op6C_len (o : Op6) : (op6C o).length = 6 := rfl
def ptl (q : Option Addr × Nat × List KV) : List Value := [.slice q.1 q.2.2.length q.2.1]
variable {h h0 x x' : Hp} {K : Value → Hp → Prop} {n m tb pb jb db : Nat} {S S' : Nat → Prop} {D D' : Dk} {P P' : Pg} {la ga pa : Option Addr} {lc gc pc : Nat} {L G L' : List KV} {Qp : List (Option Addr × Nat × List KV)}
structure LsAt (x : Hp) (S : Nat → Prop) (a : Option Addr) (c : Nat) (L : List KV) : Prop where
  own : OwnR kvC 2 x 42 a c L
  nS : ∀ b, blkOf a b → ¬ S b
theorem LsAt.nil (x : Hp) (S : Nat → Prop) : LsAt x S none 0 [] := ⟨OwnR.nil _ _, fun b ⟨o, s, e⟩ => by cases e⟩
theorem LsAt.step {a : Option Addr} {c : Nat} (A : LsAt x S a c L) (st : Step S x S' x') : LsAt x' S' a c L :=
  ⟨A.own.keep st.1 A.nS, fun b hb hs => (st.2 b hs).elim (A.nS b hb) fun h => Own.in_heap A.own hb h⟩
theorem LsAt.sl {a : Option Addr} {c : Nat} (A : LsAt x S a c L) : SliceAt x a (L.length * 2) (kvCells L) := A.own.row
theorem LsAt.ne {a : Option Addr} {c : Nat} (A : LsAt x S a c L) (O : OwnR ptl 1 x 37 pa pc Qp) : ∀ b, blkOf a b → ¬ blkOf pa b := by
  intro b ⟨o, s, e⟩ ⟨o2, s2, e2⟩
  rcases A.own.2.2 with ⟨e3, _⟩ | ⟨b1, r1, e3, B1, _⟩
  · rw [e3] at e; cases e
  · rcases O.2.2 with ⟨e4, _⟩ | ⟨b2, r2, e4, B2, _⟩
    · rw [e4] at e2; cases e2
    · rw [e3] at e; cases e
      rw [e4] at e2; cases e2
      exact absurd (B1.inj B2).1 (by decide)
theorem LsAt.new {h1 : Hp} {a : Option Addr} {c : Nat} (E : PgAt h1 pb jb db S n D P) (N : NewKV h1 x a c L) : LsAt x S a c L := ⟨N.row.own, fun b hb => S_out E (N.2.1 b hb)⟩
structure PlB (h0 x : Hp) (S : Nat → Prop) (tb pb : Nat) (la : Option Addr) (lc : Nat) (L : List KV) (ga : Option Addr) (gc : Nat) (G : List KV) (pa : Option Addr) (pc : Nat) (Qp : List (Option Addr × Nat × List KV)) : Prop where
  t : TrAt x tb pb 1
  nt : ¬ S tb
  sub : Sub h0 x
  new : ∀ c, S c → h0 c = none
  l : LsAt x S la lc L
  g : LsAt x S ga gc G
  p : OwnR ptl 1 x 37 pa pc Qp
  pS : ∀ b, blkOf pa b → ¬ S b ∧ h0 b = none
  q : ∀ e ∈ Qp, LsAt x S e.1 e.2.1 e.2.2
theorem PlB.step (B : PlB h0 x S tb pb la lc L ga gc G pa pc Qp) (st : Step S x S' x') : PlB h0 x' S' tb pb la lc L ga gc G pa pc Qp := by
  have nn : ∀ {c : Nat} {t : TypeId} {vs : List Value}, Blk x c t vs → ¬ S c → ¬ S' c := fun {c t vs} hb hn hs => (st.2 c hs).elim hn fun h => by unfold Blk at hb; rw [hb] at h; cases h
  refine ⟨Blk.keep B.t st.1 B.nt, nn B.t B.nt, st.1.sub B.sub B.new, fun c hc => (st.2 c hc).elim (B.new c) fun h => B.sub.none h, B.l.step st, B.g.step st, B.p.keep st.1 fun b hb => (B.pS b hb).1, fun b hb => ⟨fun hs => (st.2 b hs).elim (B.pS b hb).1 fun h => Own.in_heap B.p hb h, (B.pS b hb).2⟩, fun e he => (B.q e he).step st⟩
theorem PlB.subs (B : PlB h0 x S tb pb la lc L ga gc G pa pc Qp) (s : Sub x x') : PlB h0 x' S tb pb la lc L ga gc G pa pc Qp := B.step (Step.sub s)
theorem PlB.keep (B : PlB h0 x S tb pb la lc L ga gc G pa pc Qp) (k : Keep S x x') : PlB h0 x' S tb pb la lc L ga gc G pa pc Qp := B.step ⟨k, fun _ h => .inl h⟩
def TS (D : Dk) (n m : Nat) (H : Hd) (d : List Ch) (L : List KV) : Prop := (∃ hg I, TreeS ((⟨H, H, d, []⟩ : Pg).pgs D n) (H.r 1) hg L I) ∧ (∀ t, t < 4 → t ≠ 1 → H.r t = 0) ∧ H.s ≤ m
theorem TS.mono {H : Hd} {d : List Ch} {m' : Nat} (T : TS D n m H d L) (h : m ≤ m') : TS D n m' H d L := ⟨T.1, T.2.1, by have := T.2.2; omega⟩
structure PlT (D : Dk) (n m : Nat) (P : Pg) (L G : List KV) (Qp : List (Option Addr × Nat × List KV)) : Prop where
  now : TS D n m P.now P.d L
  good : TS D n m P.good [] G
  len : P.pts.length = Qp.length
  pts : ∀ (i : Nat) (p : Hd × List Ch) (q : Option Addr × Nat × List KV), P.pts[i]? = some p → Qp[i]? = some q → TS D n m p.1 p.2 q.2.2
theorem PlT.mono {m' : Nat} (T : PlT D n m P L G Qp) (h : m ≤ m') : PlT D n m' P L G Qp := ⟨T.now.mono h, T.good.mono h, T.len, fun i p q h1 h2 => (T.pts i p q h1 h2).mono h⟩
theorem PlT.set {hg' : Nat} {I I' : List Nat} (T : PlT D n m P L G Qp) (M : MvT n D 1 P P' I I') (TT : TreeS (P'.pgs D n) (P'.now.r 1) hg' L' I') : PlT D n m P' L' G Qp := by
  refine ⟨⟨⟨hg', I', TT⟩, fun t ht h1 => (M.roots t h1).trans (T.now.2.1 t ht h1), by rw [M.ser]; exact T.now.2.2⟩, by rw [M.good]; exact T.good, by rw [M.pts]; exact T.len, fun i p q h1 h2 => T.pts i p q (by rw [← M.pts]; exact h1) h2⟩
theorem PlT.back {i : Nat} {p : Hd × List Ch} {q : Option Addr × Nat × List KV} (T : PlT D n m P L G Qp) (h1 : P.pts[i]? = some p) (h2 : Qp[i]? = some q) : PlT D n m (P.back i p) q.2.2 G (Qp.take i) := by
  refine ⟨T.pts i p q h1 h2, T.good, by show (P.pts.take i).length = _; rw [List.length_take, List.length_take, T.len], fun j p' q' g1 g2 => ?_⟩
  have g1 : (P.pts.take i)[j]? = some p' := g1
  rw [List.getElem?_take] at g1 g2
  split at g1
  · rename_i hj
    rw [if_pos hj] at g2
    exact T.pts j p' q' g1 g2
  · cases g1
theorem PlT.reset {H : Hd} (T : TS D n m H [] L) : PlT D n m (Pg.reset H) L L [] := ⟨T, T, rfl, fun i p q h => by cases h⟩
end Go.Proofs.YthbogjbcecmopaaGreatDoor
namespace Go.Proofs.YthbogjbcecmopaaGreatDoor
open Go.Gx
set_option maxRecDepth 100000
set_option linter.unusedVariables false
variable {n : Nat} {P : Pg} {D : Dk}
theorem dser_enc {s : Nat} {r : Nat → Nat} {u : Nat → Bool} {n : Nat} (hs : s < 256 ^ 8) : ∀ k, k ≤ 8 → dser (tabB (encN s r u n)) k = s / 256 ^ (8 - k)
  | 0, _ => by
    show 0 = s / 256 ^ 8
    rw [Nat.div_eq_of_lt hs]
  | k + 1, hk => by
    show dser _ k * 256 + byteN _ (10 + k) = _
    rw [dser_enc hs k (by omega), byteN_tab (encN_lt _ _ _ _ _) (by omega)]
    have e : encN s r u n (10 + k) = s / 256 ^ (7 - k) % 256 := by
      unfold encN stg2 stg1
      rw [if_pos (by omega), if_pos (by omega), if_neg (by omega), if_pos (by omega), show 17 - (10 + k) = 7 - k by omega]
    rw [e, show 8 - (k + 1) = 7 - k by omega, show 8 - k = (7 - k) + 1 by omega, Nat.pow_succ, ← Nat.div_div_eq_div_mul]
    generalize s / 256 ^ (7 - k) = m
    omega
theorem droot_enc {s : Nat} {r : Nat → Nat} {u : Nat → Bool} {n k : Nat} (hk : k < 4) (hr : r k < 65536) : droot (tabB (encN s r u n)) k = r k := by
  unfold droot
  rw [byteN_tab (encN_lt _ _ _ _ _) (by omega), byteN_tab (encN_lt _ _ _ _ _) (by omega)]
  have e1 : encN s r u n (18 + 2 * k) = r k / 256 % 256 := by
    unfold encN stg2 rootB
    rw [if_pos (by omega), if_neg (by omega), if_pos (by omega), if_pos (by omega), show (18 + 2 * k - 18) / 2 = k by omega]
  have e2 : encN s r u n (19 + 2 * k) = r k % 256 := by
    unfold encN stg2 rootB
    rw [if_pos (by omega), if_neg (by omega), if_pos (by omega), if_neg (by omega), show (19 + 2 * k - 18) / 2 = k by omega]
  rw [e1, e2]
  omega
theorem enc_same {s : Nat} {r r' : Nat → Nat} {u u' : Nat → Bool} (hr : ∀ k, k < 4 → r k = r' k) (hu : ∀ i, i < 128 → u i = u' i) : tabB (encN s r u 128) = tabB (encN s r' u' 128) := tabB_congr fun j _ => by
  unfold encN
  by_cases h1 : j < 26
  · rw [if_pos h1, if_pos h1]
    unfold stg2
    by_cases h2 : j < 18
    · rw [if_pos h2, if_pos h2]
    · rw [if_neg h2, if_neg h2, if_pos (by omega), if_pos (by omega)]
      unfold rootB
      rw [hr _ (by omega)]
  · rw [if_neg h1, if_neg h1]
    by_cases h2 : j < 42
    · rw [if_pos h2, if_pos h2]
      refine bitsU_congr fun t => ?_
      unfold bitAt
      by_cases h3 : 8 * (j - 26) + t < 128
      · rw [if_pos h3, if_pos h3, hu _ h3]
      · rw [if_neg h3, if_neg h3]
    · rw [if_neg h2, if_neg h2]
variable {n : Nat} {D : Dk} {P : Pg}
theorem same_refl (A : Hd) : A.same A = true := Hd.same_eq.2 ⟨rfl, fun _ _ => rfl, fun _ _ => rfl⟩
theorem same_trans {A B C : Hd} (h1 : A.same B = true) (h2 : B.same C = true) : A.same C = true := by
  obtain ⟨a1, a2, a3⟩ := Hd.same_eq.1 h1
  obtain ⟨b1, b2, b3⟩ := Hd.same_eq.1 h2
  exact Hd.same_eq.2 ⟨a1.trans b1, fun k hk => (a2 k hk).trans (b2 k hk), fun i hi => (a3 i hi).trans (b3 i hi)⟩
theorem same_symm {A B : Hd} (h1 : A.same B = true) : B.same A = true := by
  obtain ⟨a1, a2, a3⟩ := Hd.same_eq.1 h1
  exact Hd.same_eq.2 ⟨a1.symm, fun k hk => (a2 k hk).symm, fun i hi => (a3 i hi).symm⟩
theorem head_dec {H : Hd} (O : HdOk n H) : OkHead H.bytes n ∧ (headOf H.bytes).same H = true := by
  have e1 : dser H.bytes 8 = H.s := by
    have := dser_enc (s := H.s) (r := H.r) (u := H.u) (n := 128) (by have := O.ser; omega) 8 (Nat.le_refl _)
    rw [Nat.sub_self, Nat.pow_zero, Nat.div_one] at this; exact this
  have e2 : ∀ k, k < 4 → droot H.bytes k = H.r k := fun k hk => droot_enc hk (by have := (O.roots k hk).1; omega)
  have e3 : ∀ i, i < 128 → dbit H.bytes i = H.u i := fun i hi => by
    have := dbit_enc (s := H.s) (r := H.r) (u := H.u) (n := 128) hi
    rw [decide_eq_true hi, Bool.true_and] at this; exact this
  refine ⟨⟨fun i hi hb => O.below i hi (by rw [← e3 i hi]; exact hb), fun k hk => ?_, by rw [e3 0 (by decide)]; exact O.zero, by rw [e1]; exact O.ser, ?_⟩, Hd.same_eq.2 ⟨e1, e2, e3⟩⟩
  · rw [e2 k hk, e3 _ (O.roots k hk).1]
    exact O.roots k hk
  · rw [e1]
    exact enc_same e2 e3
theorem bytes_ne (H : Hd) : H.bytes ≠ zeroB 1024 := fun e => by
  have h1 : byteN H.bytes 0 = 115 := by
    unfold Hd.bytes
    rw [byteN_tab (encN_lt _ _ _ _ _) (by decide)]; rfl
  rw [e] at h1
  have h2 : byteN (zeroB 1024) 0 = 0 := by decide +kernel
  omega
def Syn (G : Hd) (D : Dk) (n : Nat) : Prop := (D.own n 0 = zeroB 1024 ∧ G.same zeroHd = true) ∨ ∃ H, HdOk n H ∧ G.same H = true ∧ D.own n 0 = H.bytes
def Told (D : Dk) (n : Nat) (H : Hd) : Prop := (D.own n 0 = zeroB 1024 ∧ H = zeroHd) ∨ (D.own n 0 ≠ zeroB 1024 ∧ OkHead (D.own n 0) n ∧ H = headOf (D.own n 0))
theorem Syn.ok {G : Hd} (S : Syn G D n) (h1 : D.own n 0 ≠ zeroB 1024) (h2 : ¬ OkHead (D.own n 0) n) : False := by
  rcases S with ⟨e, _⟩ | ⟨H, O, _, e⟩
  · exact h1 e
  · rw [e] at h2; exact h2 (head_dec O).1
theorem Syn.told {G H : Hd} (S : Syn G D n) (T : Told D n H) : G.same H = true := by
  rcases S with ⟨e, hs⟩ | ⟨H2, O, hs, e⟩
  · rcases T with ⟨_, rfl⟩ | ⟨h, _⟩
    · exact hs
    · exact absurd e h
  · rcases T with ⟨h, _⟩ | ⟨_, _, rfl⟩
    · rw [e] at h; exact absurd h (bytes_ne _)
    · rw [e]; exact same_trans hs (same_symm (head_dec O).2)
theorem Syn.same {G G' : Hd} (S : Syn G D n) (h : G'.same G = true) : Syn G' D n := by
  rcases S with ⟨e, hs⟩ | ⟨H, O, hs, e⟩
  · exact .inl ⟨e, same_trans h hs⟩
  · exact .inr ⟨H, O, same_trans h hs, e⟩
theorem chg_same (h : P.chg D n = []) : P.now.same P.good = true := by
  unfold Pg.chg at h
  have := (List.append_eq_nil_iff.1 h).1
  cases e : P.now.same P.good with
  | true => rfl
  | false => rw [e] at this; cases this
theorem chg_diff (h : P.chg D n = []) {i : Nat} (hi : i < n) : P.diff D n i = false := by
  unfold Pg.chg at h
  have := (List.append_eq_nil_iff.1 h).2
  cases e : P.diff D n i with
  | false => rfl
  | true =>
    have hm : i ∈ (List.range n).filter (P.diff D n) := List.mem_filter.2 ⟨List.mem_range.2 hi, e⟩
    rw [this] at hm; cases hm
theorem commit_upd {D : Dk} (hD : DOn D) (ok : DOk n P.d) (h1 : 1 ≤ n) (hl : 8 * n + 1 ≤ D.l.length) : (commitD n D (P.cs D n)).1.own n 0 = P.now.up.bytes ∧ (commitD n D (P.cs D n)).1.read 0 = zeroB 256 := by
  obtain ⟨c1, c2, _⟩ := cs_ok (P := P) (D := D) ok h1
  obtain ⟨_, _, _, _, _, r6, r7⟩ := commit_own (n := n) (ds := P.cs D n) hD.1 hD.2.1 hD.2.2 (fun c hc => ⟨(c1 c hc).2, (c1 c hc).1⟩) hl
  exact ⟨by rw [r7]; exact updP_mem (List.mem_cons_self) c2, r6 (by omega)⟩
inductive Last (n : Nat) (P : Pg) (D : Dk) : Dk → Int → Prop
  | none (hc : P.chg D n = []) (f : Nat) : Last n P D { D with fuse := f } 0
  | some (hc : P.chg D n ≠ []) (Df : Dk) (e : Int) (E : Ends n D.l (P.cs D n) Df e) : Last n P D Df e
theorem recov_down {D : Dk} (hd : D.down = false) : (recov n D).down = false := by
  unfold recov
  split
  · exact hd
  · rfl
theorem pgs_eq' {D' : Dk} {H : Hd} {d : List Ch} {g : Hd} {pts : List (Hd × List Ch)} (hu : ∀ i, i < n → H.u i = P.now.u i) (hp : ∀ i, 1 ≤ i → i < n → (dget d i).getD (D'.own n i) = P.page D n i) : (⟨g, H, d, pts⟩ : Pg).pgs D' n = P.pgs D n := by
  funext i
  unfold Pg.pgs Pg.node
  by_cases hi : i < n
  · have ew : (⟨g, H, d, pts⟩ : Pg).why n (i : Nat) = P.why n (i : Nat) := by
      unfold Pg.why
      rw [Int.toNat_natCast]
      show (if _ then _ else if H.u i = true then _ else _) = _
      rw [hu i hi]
    rw [ew]
    split
    · rename_i hw
      obtain ⟨j, ej, h1, h2, _⟩ := why_ok hw
      rw [Int.toNat_natCast]
      have : i = j := by omega
      subst this
      have : (⟨g, H, d, pts⟩ : Pg).page D' n i = P.page D n i := hp i h1 h2
      rw [this]
    · rfl
  · have w1 : ∀ Q : Pg, Q.why n (i : Nat) ≠ 0 := fun Q => by
      unfold Pg.why
      rw [if_pos (.inr (by omega))]; decide
    rw [if_neg (w1 _), if_neg (w1 _)]
def newOf (H : Hd) : Pg := ⟨H, H, [], []⟩
theorem last_tree {Df : Dk} {e : Int} {W : List (Nat × ByteArray)} (L : Last n P D Df e) (hW : W.Sublist Df.ws) (hD : DOn D) (ok : POk n P) (h1 : 1 ≤ n) (hn : n ≤ 128) (hl : 8 * n + 1 ≤ D.l.length) (hs : P.now.s < 9223372036854775807) (mark : D.read 0 = zeroB 256) (sy : Syn P.good D n) :
    let D3 := recov n ⟨settleL Df.l W, [], 0, false⟩
    (D3.own n 0 ≠ zeroB 1024 → ¬ OkHead (D3.own n 0) n → False) ∧ ∀ H, Told D3 n H →
      ((newOf H).pgs D3 n = P.pgs D n ∧ ∀ t, t < 4 → H.r t = P.now.r t) ∨ (e ≠ 0 ∧ (newOf H).pgs D3 n = (Pg.reset P.good).pgs D n ∧ ∀ t, t < 4 → H.r t = P.good.r t) := by
  intro D3
  have own : ∀ p, D.own n p = pageL D.l (1 + 4 * (n + p)) := fun p => page_L hD.2.2 _
  have mk : D.l.getD 0 (bytesL []) = zeroB 256 := by rw [← read_L hD.2.2]; exact mark
  have old : (∀ p, D3.own n p = D.own n p) → (D3.own n 0 ≠ zeroB 1024 → ¬ OkHead (D3.own n 0) n → False) := fun ho a b => by
    rw [ho 0] at a b; exact sy.ok a b
  have tld : (∀ p, D3.own n p = D.own n p) → ∀ H, Told D3 n H → P.good.same H = true := fun ho H T => by
    refine sy.told (D := D) ?_
    unfold Told at T ⊢
    rw [ho 0] at T
    exact T
  cases L with
  | none hc f =>
    have e0 : W = [] := List.sublist_nil.1 (by have : W.Sublist D.ws := hW; rw [hD.2.2] at this; exact this)
    subst e0
    have e3 : D3 = ⟨D.l, [], 0, false⟩ := recov_none mk 0 false
    have ho : ∀ p, D3.own n p = D.own n p := fun p => by rw [e3, own]; exact page_L rfl _
    refine ⟨old ho, fun H T => .inl ?_⟩
    have hsame := same_trans (chg_same hc) (tld ho H T)
    obtain ⟨_, hr, hu⟩ := Hd.same_eq.1 hsame
    refine ⟨pgs_eq' (fun i hi => (hu i (by omega)).symm) fun i h1 hi => ?_, fun t ht => (hr t ht).symm⟩
    show D3.own n i = _
    rw [ho]
    have hd := chg_diff hc hi
    unfold Pg.page
    unfold Pg.diff at hd
    cases e : dget P.d i with
    | none => rfl
    | some s =>
      rw [e] at hd
      have : D.own n i = s := by simpa using hd
      rw [this]; rfl
  | some hc Df e E =>
    obtain ⟨c1, c2, c3, c4⟩ := cs_ok (P := P) (D := D) ok.d h1
    have C : Chs n D.l (P.cs D n) := ⟨c1, c2, c4, by unfold Pg.cs; simp, hn, hl, mk⟩
    rcases torn C E hW 0 false with ho | ⟨he, ho⟩
    · have ho : ∀ p, D3.own n p = updP (P.cs D n) p (D.own n p) := fun p => by rw [own]; exact ho p
      have h0 : D3.own n 0 = P.now.up.bytes := by rw [ho]; exact updP_mem List.mem_cons_self c2
      have hd := head_dec (ok.now.up hs)
      refine ⟨fun a b => ?_, fun H T => .inl ?_⟩
      · rw [h0] at b; exact b hd.1
      · have hsame : P.now.up.same H = true := by
          rcases T with ⟨e1, _⟩ | ⟨_, _, e1⟩
          · rw [h0] at e1; exact absurd e1 (bytes_ne _)
          · rw [e1, h0]; exact same_symm hd.2
        obtain ⟨_, hr, hu⟩ := Hd.same_eq.1 hsame
        refine ⟨pgs_eq' (fun i hi => (hu i (by omega)).symm) fun i g1 hi => ?_, fun t ht => (hr t ht).symm⟩
        show D3.own n i = _
        rw [ho]
        exact cs_page ok.d h1 g1 hi
    · have ho : ∀ p, D3.own n p = D.own n p := fun p => by rw [own]; exact ho p
      refine ⟨old ho, fun H T => .inr ⟨he, ?_⟩⟩
      obtain ⟨_, hr, hu⟩ := Hd.same_eq.1 (tld ho H T)
      refine ⟨pgs_eq' (P := Pg.reset P.good) (fun i hi => (hu i (by omega)).symm) fun i g1 hi => ?_, fun t ht => (hr t ht).symm⟩
      show D3.own n i = D.own n i
      exact ho i
end Go.Proofs.YthbogjbcecmopaaGreatDoor
namespace Go.Proofs.YthbogjbcecmopaaGreatDoor
open Go.Gx
set_option maxRecDepth 100000
set_option linter.unusedVariables false
variable {h h0 x x' : Hp} {K : Value → Hp → Prop} {n m tb pb jb db : Nat} {S S' : Nat → Prop} {D D' : Dk} {P P' : Pg} {L G L' : List KV}
theorem row_in {α : Type} {f : α → List Value} {sz : Nat} (hf : ∀ x, (f x).length = sz) (hz : 0 < sz) {h : Hp} {a : Option Addr} {L : List α} (R : RowAt f sz h a L) (hL : 0 < L.length) {c : Nat} (hc : blkOf a c) : h c ≠ none := by
  obtain ⟨b, o, ea, hcell⟩ := R.get hf hz (List.getElem?_eq_getElem hL)
  obtain ⟨o', s', e⟩ := hc
  rw [ea] at e; cases e
  have : (f L[0])[0]? = some ((f L[0])[0]'(by rw [hf]; exact hz)) := List.getElem?_eq_getElem _
  have e2 := hcell 0 _ this
  intro e3
  unfold Hp.cell at e2
  rw [e3] at e2; cases e2
theorem same_any {L M : List KV} {a b : Option Addr} {c d : Nat} (H : SliceAt h a (L.length * 2) (kvCells L)) (G : SliceAt h b (M.length * 2) (kvCells M)) (hL : L.length < 4294967296) (hK : ∀ r : Bool, (L = M → r = true) → K (.bool r) h) :
    CallsH Tryz.prog ref08_Same.id #[.slice a L.length c, .slice b M.length d] h K := by
  apply ref08_Same.calls
  unfold ref08_Same.W
  refine split_ne (fun e => hK false fun e2 => absurd (by rw [e2]) e) fun el => ?_
  have el : ((L.length : Nat) : Int) = ((M.length : Nat) : Int) := el
  refine ⟨fun i x m => x = h ∧ ∃ j : Nat, i = (j : Int) ∧ j ≤ L.length ∧ m = L.length - j, ⟨_, rfl, 0, rfl, Nat.zero_le _, rfl⟩, ?_⟩
  rintro i x m ⟨rfl, j, rfl, hj, rfl⟩
  by_cases hq : L = M
  · subst hq
    refine split_dec (fun g => ?_) fun _ => hK true fun _ => rfl
    have g : ((j : Nat) : Int) < ((L.length : Nat) : Int) := g
    obtain ⟨p, hp⟩ : ∃ p, L[j]? = some p := ⟨_, List.getElem?_eq_getElem (by omega)⟩
    obtain ⟨b1, o1, e1, c1, c2⟩ := kv_cell H hp
    obtain ⟨b2, o2, e2, d1, d2⟩ := kv_cell G hp
    refine ⟨by omega, g, b1, o1, e1, _, by rw [Int.toNat_natCast]; exact c1, _, by rw [Int.toNat_natCast]; exact c2, by omega, g, b2, o2, e2, _, by rw [Int.toNat_natCast]; exact d1, _, by rw [Int.toNat_natCast]; exact d2, ?_⟩
    have hh : ∀ s : ByteArray, beqS s s = true := fun s => by rw [beqS_val]; exact decide_eq_true rfl
    rw [hh, hh]
    refine split_not (fun e => by cases e) fun _ => ⟨L.length - (j + 1), by omega, rfl, j + 1, by rw [wid (by omega) (by omega)]; omega, by omega, rfl⟩
  · have any : ∀ r : Bool, K (.bool r) x := fun r => hK r fun e => absurd e hq
    refine split_dec (fun g => ?_) fun _ => any true
    have g : ((j : Nat) : Int) < ((L.length : Nat) : Int) := g
    obtain ⟨p, hp⟩ : ∃ p, L[j]? = some p := ⟨_, List.getElem?_eq_getElem (by omega)⟩
    obtain ⟨p', hp'⟩ : ∃ p, M[j]? = some p := ⟨_, List.getElem?_eq_getElem (by omega)⟩
    obtain ⟨b1, o1, e1, c1, c2⟩ := kv_cell H hp
    obtain ⟨b2, o2, e2, d1, d2⟩ := kv_cell G hp'
    refine ⟨by omega, g, b1, o1, e1, _, by rw [Int.toNat_natCast]; exact c1, _, by rw [Int.toNat_natCast]; exact c2, by omega, by show ((j : Nat) : Int) < ((M.length : Nat) : Int); omega, b2, o2, e2, _, by rw [Int.toNat_natCast]; exact d1, _, by rw [Int.toNat_natCast]; exact d2, ?_⟩
    exact split_not (fun _ => any false) fun _ => ⟨L.length - (j + 1), by omega, rfl, j + 1, by rw [wid (by omega) (by omega)]; omega, by omega, rfl⟩
structure WB (h0 x : Hp) (S : Nat → Prop) (tb pb jb db n : Nat) (D : Dk) (P : Pg) (m : Nat) (L G : List KV) : Prop where
  e : PgAt x pb jb db S n D P
  don : DOn D
  t : TrAt x tb pb 1
  nt : ¬ S tb
  sub : Sub h0 x
  new : ∀ c, S c → h0 c = none
  now : TS D n m P.now P.d L
  good : TS D n m P.good [] G
  syn : Syn P.good D n
  mark : D.read 0 = zeroB 256
theorem WB.subs (B : WB h0 x S tb pb jb db n D P m L G) (s : Sub x x') : WB h0 x' S tb pb jb db n D P m L G := ⟨B.e.sub s, B.don, Blk.sub B.t s, B.nt, B.sub.trans s, B.new, B.now, B.good, B.syn, B.mark⟩
theorem WB.set {hg' : Nat} {I I' : List Nat} (B : WB h0 x S tb pb jb db n D P m L G) (k : Keep S x x') (E' : PgAt x' pb jb db S n D P') (M : MvT n D 1 P P' I I') (TT : TreeS (P'.pgs D n) (P'.now.r 1) hg' L' I') : WB h0 x' S tb pb jb db n D P' m L' G :=
  ⟨E', B.don, Blk.keep B.t k B.nt, B.nt, k.sub B.sub B.new, B.new, ⟨⟨hg', I', TT⟩, fun t ht h1 => (M.roots t h1).trans (B.now.2.1 t ht h1), by rw [M.ser]; exact B.now.2.2⟩, by rw [M.good]; exact B.good, by rw [M.good]; exact B.syn, B.mark⟩
theorem WB.len (B : WB h0 x S tb pb jb db n D P m L G) : 8 * n + 1 ≤ D.l.length ∧ 1 ≤ n := by
  obtain ⟨S0, mb, pa, pc, Q, e⟩ := B.e.ex
  exact ⟨e.j.len, e.j.n1⟩
theorem WB.mono {m' : Nat} (B : WB h0 x S tb pb jb db n D P m L G) (h : m ≤ m') : WB h0 x S tb pb jb db n D P m' L G := ⟨B.e, B.don, B.t, B.nt, B.sub, B.new, B.now.mono h, B.good.mono h, B.syn, B.mark⟩
theorem wb_commit (B : WB h0 x S tb pb jb db n D P m L G) (hm : m < 1000) (hK : ∀ x' S' D' P', Step S x S' x' → WB h0 x' S' tb pb jb db n D' P' (m + 1) L L → K (.int .i64 0) x') : CallsH Tryz.prog pager_Pager_Commit.id #[.pointer (some ⟨pb, 0, none⟩)] x K := by
  have hn1 : ∃ S0, JAt x jb db S0 n D := by
    obtain ⟨S0, mb, pa, pc, Q, e⟩ := B.e.ex
    exact ⟨S0, e.j⟩
  obtain ⟨S0, J⟩ := hn1
  obtain ⟨r1, r2, r3⟩ := commit_don (P := P) B.don J B.e.ok.d
  have hs := B.now.2.2
  have out : ∀ {x' S'}, Step S x S' x' → Blk x' tb 89 [.pointer (some ⟨pb, 0, none⟩), .int .i64 ((1 : Nat) : Nat)] ∧ ¬ S' tb ∧ Sub h0 x' ∧ ∀ c, S' c → h0 c = none := fun {x' S'} st => by
    have bt := B.t
    unfold TrAt at bt
    refine ⟨Blk.keep bt st.1 B.nt, (st.out (by unfold Blk at bt; exact bt) B.nt).2, st.1.sub B.sub B.new, fun c hc => (st.2 c hc).elim (B.new c) fun h => B.sub.none h⟩
  obtain ⟨⟨hg, I, TT⟩, hr, hs⟩ := B.now
  have TT : TreeS (P.pgs D n) (P.now.r 1) hg L I := TT
  refine pcommit_spec B.e B.don.2.2 (fun _ e => by omega) (fun hc x' S' E' st => ?_) (fun _ _ hne => absurd r1 hne) fun hc hs2 _ x' S' E' st => ?_
  · obtain ⟨o1, o2, o3, o4⟩ := out st
    have e := reset_pgs0 hc B.e.ok.d
    have T1 : TS D n (m + 1) P.now [] L := ⟨⟨hg, I, by rw [← e] at TT; exact TT⟩, hr, by omega⟩
    exact hK x' S' D _ st ⟨E', B.don, o1, o2, o3, o4, T1, T1, B.syn.same (chg_same hc), B.mark⟩
  · obtain ⟨o1, o2, o3, o4⟩ := out st
    have e := reset_pgs1 (D' := (commitD n D (P.cs D n)).1) r3
    have T1 : TS (commitD n D (P.cs D n)).1 n (m + 1) P.now.up [] L := ⟨⟨hg, I, by rw [← e] at TT; exact TT⟩, hr, by show P.now.s + 1 ≤ m + 1; omega⟩
    obtain ⟨u1, u2⟩ := commit_upd (P := P) B.don B.e.ok.d B.len.2 B.len.1
    exact hK x' S' _ _ st ⟨E', r2, o1, o2, o3, o4, T1, T1, .inr ⟨P.now.up, B.e.ok.now.up hs2, same_refl _, u1⟩, u2⟩
set_option maxHeartbeats 16000000 in
theorem bwhole_core {h : Hp} (a1 : Option Addr) (c1 : Nat) (os1 : List Op6) (ho1 : RowAt op6C 6 h a1 os1) (a2 : Option Addr) (c2 : Nat) (os2 : List Op6) (ho2 : RowAt op6C 6 h a2 os2) (cut : Int) (hcut : cut ≤ 9223372036854775807) (a4 : Option Addr) (c4 : Nat) (ps : List Bool) (hps : RowAt boolC 1 h a4 ps) :
    CallsH Tryz.prog law15_BtreeWhole.id #[.agg #[.slice a1 os1.length c1, .slice a2 os2.length c2], .int .i64 cut, .slice a4 ps.length c4] h fun v h' => v = .bool true ∧ Sub h h' := by
  apply law15_BtreeWhole.calls
  unfold law15_BtreeWhole.W
  intro k1 hk1
  have sH := Sub.upd hk1 (.cells [Value.slice a1 os1.length c1, .slice a2 os2.length c2].toArray 58 (0, 0))
  have BH := Blk.new h k1 58 [.slice a1 os1.length c1, .slice a2 os2.length c2]
  generalize h.upd k1 (.cells [Value.slice a1 os1.length c1, .slice a2 os2.length c2].toArray 58 (0, 0)) = h0 at sH BH ⊢
  have live : ∀ x, Sub h0 x → CallsH Tryz.prog law15_lives.id #[] x fun v h' => ∃ b : Bool, v = .bool b ∧ (Value.bool b = .bool true ∧ Sub h h') := fun x s => lives_spec fun h' s' => ⟨_, rfl, rfl, sH.trans (s.trans s')⟩
  refine opened_spec 24 (by decide) (by decide) fun h3 tb pb jb db S s3 E fr T n2 nt => ⟨_, _, _, rfl, ?_⟩
  have B0 : WB h0 h3 S tb pb jb db 24 (Dk.new (8 * 24 + 1)) newPg 0 [] [] := by
    have T0 : TS (Dk.new (8 * 24 + 1)) 24 0 zeroHd [] [] := ⟨⟨0, [], rfl, rfl, rfl⟩, fun t _ _ => rfl, Nat.le_refl _⟩
    exact ⟨E, ⟨rfl, rfl, rfl⟩, T, nt, s3, fr, T0, T0, .inl ⟨new_own _ 24 0 (by omega), by decide⟩, new_read _ (by omega)⟩
  clear E fr T n2 nt
  refine ⟨fun x => x = h3 ∧ 0 ≤ cut, ?_, split_cond (fun e => by cases e) fun _ => split_dec (fun _ => split_not (fun _ => live h3 s3) fun e => by cases e) fun g300 => split_dec (fun _ => split_not (fun _ => live h3 s3) fun e => by cases e) fun gc => ⟨rfl, by omega⟩⟩
  rintro x ⟨rfl, gc⟩
  refine ⟨fun a11 k12 k13 n14 y m => ∃ (q : Nat) (S : Nat → Prop) (D : Dk) (P : Pg) (L G : List KV), n14 = (q : Int) ∧ q ≤ 2 ∧ m = 2 - q ∧ k12 = G.length ∧ LsAt y S a11 k13 G ∧ WB h0 y S tb pb jb db 24 D P q L G, ⟨_, 0, S, _, _, [], [], rfl, by decide, rfl, rfl, LsAt.nil _ _, B0⟩, ?_⟩
  rintro a11 k12 k13 n14 y m ⟨q, S, D, P, L, G, rfl, hq, rfl, rfl, A, B⟩
  refine split_dec (fun g => ?_) fun g => ?_
  · -- a phase
    have g : ((q : Nat) : Int) < 2 := g
    have next : IntKind.i64.wrap ((q : Int) + 1) = ((q + 1 : Nat) : Int) := by rw [wid (by omega) (by omega)]; omega
    obtain ⟨oa, oc, os, ho, cellx⟩ : ∃ (oa : Option Addr) (oc : Nat) (os : List Op6), RowAt op6C 6 h oa os ∧ ∀ {z : Hp}, Sub h0 z → z.cell k1 (0 + ((q : Nat) : Int).toNat * 1) = some (.slice oa os.length oc) := by
      rw [Int.toNat_natCast]
      by_cases e0 : q = 0
      · subst e0; exact ⟨a1, c1, os1, ho1, fun s => (BH.sub s).cell' 0 rfl⟩
      · have e1 : q = 1 := by omega
        subst e1; exact ⟨a2, c2, os2, ho2, fun s => (BH.sub s).cell' 1 rfl⟩
    refine ⟨fun z => ∃ (P : Pg) (L : List KV), WB h0 z S tb pb jb db 24 D P q L G ∧ LsAt z S a11 k13 G, ?_, fun n31 z k33 => ∃ (j : Nat) (P : Pg) (L : List KV), n31 = (j : Int) ∧ j ≤ 40 ∧ k33 = 40 - j ∧ WB h0 z S tb pb jb db 24 D P q L G ∧ LsAt z S a11 k13 G, ⟨_, 0, P, L, rfl, by decide, rfl, B, A⟩, ?_⟩
    · rintro z ⟨P, L, B, A⟩
      refine split_eq (fun e0 => ?_) fun e0 => ⟨2 - (q + 1), by omega, q + 1, S, D, P, L, G, next, by omega, rfl, rfl, A, B.mono (by omega)⟩
      refine wb_commit B (by omega) fun z' S' D' P' st B' => ⟨_, rfl, split_ne (fun e => absurd rfl e) fun _ => ?_⟩
      obtain ⟨⟨hg, I, TT⟩, _, _⟩ := B'.now
      have TT : TreeS (P'.pgs D' 24) (P'.now.r 1) hg L I := TT
      exact all_spec B'.e B'.t (by decide) TT.tree fun h23 ra rc N => ⟨_, _, _, rfl, 2 - (q + 1), by omega, q + 1, S', D', P', L, L, next, by omega, rfl, rfl, ⟨N.own, fun b hb => S_out B'.e (N.new b hb)⟩, B'.subs N.sub⟩
    · rintro n31 z k33 ⟨j, P, L, rfl, hj, rfl, B, A⟩
      refine ⟨by omega, g, oa, os.length, oc, cellx B.sub, split_dec (fun gj => split_dec (fun g40 => ?_) fun _ => ⟨P, L, B, A⟩) fun _ => ⟨P, L, B, A⟩⟩
      have gj : ((j : Nat) : Int) < ((os.length : Nat) : Int) := gj
      have g40 : ((j : Nat) : Int) < 40 := g40
      have hq' : os[j]? = some (os[j]'(by omega)) := List.getElem?_eq_getElem (by omega)
      generalize os[j]'(by omega) = o at hq'
      obtain ⟨b, oo, ea, hc⟩ := ((ho.sub sH).sub B.sub).get op6C_len (by decide) hq'
      have hc' : ∀ k v, (op6C o)[k]? = some v → z.cell b (oo + ((j : Nat) : Int).toNat * 6 + k) = some v := fun k v e => by rw [Int.toNat_natCast]; exact hc k v e
      have nextj : IntKind.i64.wrap ((j : Int) + 1) = ((j + 1 : Nat) : Int) := by rw [wid (by omega) (by omega)]; omega
      refine ⟨by omega, g, oa, os.length, oc, cellx B.sub, by omega, gj, b, oo, ea, _, hc' 0 _ rfl, _, hc' 1 _ rfl, _, hc' 2 _ rfl, _, hc' 3 _ rfl, _, hc' 4 _ rfl, _, hc' 5 _ rfl, ?_⟩
      refine light_spec o.a o.b o.c o.x o.y o.z ⟨_, rfl, split_not (fun _ => live z B.sub) fun e => by cases e⟩ fun hx hy hz => ⟨_, rfl, split_not (fun e => by cases e) fun _ => ?_⟩
      obtain ⟨⟨hg, I, TT⟩, hr, _⟩ := B.now
      have TT : TreeS (P.pgs D 24) (P.now.r 1) hg L I := TT
      have nr : ∀ t, t < 4 → t ≠ 1 → P.now.r t ∉ I := fun t ht h1 hi => by rw [hr t ht h1] at hi; exact root0 TT hi
      have stp : ∀ {z' : Hp}, Keep S z z' → Step S z S z' := fun k => ⟨k, fun _ h => .inl h⟩
      have go : ∀ {z' : Hp} (P' : Pg) (L' : List KV), WB h0 z' S tb pb jb db 24 D P' q L' G → LsAt z' S a11 k13 G → ∃ k57, k57 < 40 - j ∧ ∃ (j' : Nat) (P : Pg) (L : List KV), IntKind.i64.wrap ((j : Int) + 1) = (j' : Int) ∧ j' ≤ 40 ∧ k57 = 40 - j' ∧ WB h0 z' S tb pb jb db 24 D P q L G ∧ LsAt z' S a11 k13 G := fun P' L' B' A' => ⟨40 - (j + 1), by omega, j + 1, P', L', nextj, by omega, rfl, B', A'⟩
      refine split_eq (fun _ => ?_) fun _ => ?_
      · exact drop_spec B.e B.t B.nt (by decide) TT nr o.x (fun _ h' s => ⟨_, rfl, go P L (B.subs s) (A.step (Step.sub s))⟩) fun _ h' P' hg' I' E' kp TT' M fr => ⟨_, rfl, go P' _ (B.set kp E' M TT') (A.step (stp kp))⟩
      · refine value_spec o.a o.b o.c o.x o.y o.z hz fun h59 sv s59 hsv => ⟨_, rfl, s59, ?_⟩
        have B5 := B.subs s59
        have A5 := A.step (Step.sub s59)
        exact put_spec B5.e B5.t B5.nt (by decide) TT o.x sv (fun _ => ⟨_, rfl, go P L B5 A5⟩) (fun _ _ h' s => ⟨_, rfl, go P L (B5.subs s) (A5.step (Step.sub s))⟩) fun _ _ h' P' hg' I' E' kp TT' M _ => ⟨_, rfl, go P' _ (B5.set kp E' M TT') (A5.step ⟨kp, fun _ h => .inl h⟩)⟩
  · -- behind both
    have g : ¬ ((q : Nat) : Int) < 2 := g
    have hq2 : q = 2 := by omega
    subst hq2
    obtain ⟨⟨hg, I, TT⟩, hr, hsn⟩ := B.now
    have TT : TreeS (P.pgs D 24) (P.now.r 1) hg L I := TT
    refine all_spec B.e B.t (by decide) TT.tree fun h66 wa wc N => ⟨_, _, _, rfl, ?_⟩
    have B6 := B.subs N.sub
    have A6 := A.step (Step.sub N.sub)
    have W6 : LsAt h66 S wa wc L := ⟨N.own, fun b hb => S_out B.e (N.new b hb)⟩
    obtain ⟨k, rfl⟩ : ∃ k : Nat, cut = (k : Int) := ⟨cut.toNat, by omega⟩
    have hlen := B6.len
    obtain ⟨S0, mb, pa, pc, Q, e⟩ := B6.e.ex
    obtain ⟨Sd, d1, d2, d3⟩ := e.j.step
    refine fuse_spec d1 B6.don.1 (by omega) k (by omega) fun h60 dk60 st60 => ⟨_, rfl, split_ne (fun e => absurd rfl e) fun _ => ?_⟩
    obtain ⟨S0', J60, stJ⟩ := d3 h60 Sd _ dk60 st60 rfl
    obtain ⟨S60, e60, stE⟩ := e.jstep J60 stJ
    have E60 : PgAt h60 pb jb db S60 24 { D with fuse := k } P := ⟨⟨_, _, _, _, _, e60⟩, B6.e.ok, B6.don.1⟩
    have A60 := A6.step stE
    have W60 := W6.step stE
    have sub60 : Sub h0 h60 := stE.1.sub B6.sub B6.new
    have new60 : ∀ c, S60 c → h0 c = none := fun c hc => (stE.2 c hc).elim (B6.new c) fun h' => B6.sub.none h'
    have don := B6.don
    have okP := B6.e.ok
    have syn := B6.syn
    have mark := B6.mark
    obtain ⟨⟨hgG, IG, TG⟩, _, _⟩ := B6.good
    have TG : TreeS ((Pg.reset P.good).pgs D 24) (P.good.r 1) hgG G IG := TG
    clear e e60 stE stJ J60 dk60 st60 d1 d2 d3
    refine callsK fun K' hK' => ?_
    have main : ∀ (x63 : Hp) (S' : Nat → Prop) (Df : Dk) (e : Int), JAt x63 jb db S' 24 Df → Step S60 h60 S' x63 → Last 24 P D Df e → K' (.int .i64 e) x63 := fun x63 S' Df e J63 st63 Ls => hK' _ _ ⟨_, rfl, ?_⟩
    · refine pcommit_spec E60 don.2.2 (fun _ e => by omega) (fun hc x63 S' E' st => ?_) (fun hc hs he x63 S' J' st => ?_) fun hc hs he x63 S' E' st => ?_
      · obtain ⟨S0, mb, pa, pc, Q, e⟩ := E'.ex
        exact main x63 S0 _ 0 e.j ⟨st.1, fun c hc => st.2 c ((e.s c).2 (.inr (.inr (.inl hc))))⟩ (Last.none (D := D) (show P.chg D 24 = [] from hc) k)
      · exact main x63 S' _ _ J' st (Last.some (D := D) (show P.chg D 24 ≠ [] from hc) _ _ (commit_ends (D := { D with fuse := k }) don.1 don.2.2 24 (P.cs D 24)))
      · obtain ⟨S0, mb, pa, pc, Q, e⟩ := E'.ex
        have en := commit_ends (D := { D with fuse := k }) don.1 don.2.2 24 (P.cs D 24)
        have he' : (commitD 24 { D with fuse := k } (P.cs D 24)).2 = 0 := he
        rw [he'] at en
        exact main x63 S0 _ 0 e.j ⟨st.1, fun c hc => st.2 c ((e.s c).2 (.inr (.inr (.inl hc))))⟩ (Last.some (D := D) (show P.chg D 24 ≠ [] from hc) _ _ en)
    clear hK' E60
    obtain ⟨Sd, q1, q2, q3, q4⟩ := J63.ex
    have hln := J63.len
    have st63' : Step S60 h60 Sd x63 := ⟨st63.1, fun c hc => st63.2 c ((q4 c).2 (.inr hc))⟩
    have sub63 : Sub h0 x63 := st63.1.sub sub60 new60
    have newd : ∀ c, Sd c → h0 c = none := fun c hc => (st63'.2 c hc).elim (new60 c) fun h' => sub60.none h'
    have hps0 := hps.sub sH
    refine fail_spec q2 (hps0.sub sub63) ?_ fun h66' S66 W hW dk66 st66 => ⟨rfl, start_spec dk66 rfl rfl fun h68 dk68 st68 => ⟨_, rfl, split_ne (fun e => absurd rfl e) fun _ => ?_⟩⟩
    · cases ps with
      | nil => exact .inl rfl
      | cons p ps => exact .inr fun c hc hs => row_in boolC_len (by decide) hps0 (by show 0 < ps.length + 1; omega) hc (newd c hs)
    have hl68 : 8 * 24 + 1 ≤ (settleL Df.l W).length := by rw [settleL_len]; exact hln
    have hrd : 16 ≤ ((Dk.mk (settleL Df.l W) [] 0 false).read 0).size := by
      rw [dk68.read_sz (by show 0 < (settleL Df.l W).length; omega)]; decide
    refine jopen_gen dk68 rfl rfl rfl 24 (by omega) (by omega) hl68 hrd fun h71 jb3 S71 J71 st71 => ⟨_, _, rfl, ?_⟩
    obtain ⟨hbad, heq⟩ := last_tree Ls hW don okP (by omega) (by omega) hlen.1 (by omega) mark syn
    have st71' := (st63'.trans st66).trans (st68.trans st71)
    refine popen_spec J71 (recov_down rfl) (by omega) (fun x y => (hbad x y).elim) fun H T h75 qb S75 nq st75 E75 => ⟨_, _, rfl, ?_⟩
    have st75' := st71'.trans st75
    have key := heq H T
    have fin : ∀ {hgx : Nat} {LX : List KV} {IX : List Nat}, TreeS ((newOf H).pgs (recov 24 ⟨settleL Df.l W, [], 0, false⟩) 24) (H.r 1) hgx LX IX → (LX = L ∨ (e ≠ 0 ∧ LX = G)) → CallsH Tryz.prog btree_Open.id #[.pointer (some ⟨qb, 0, none⟩), .int .i64 1] h75 fun v89 h90 => ∃ a91 n92, v89 = .tuple #[.pointer a91, .int .i64 n92] ∧ bif hb (n92 != 0) then (Value.bool false = .bool true ∧ Sub h h90) else CallsH Tryz.prog law15_all.id #[.pointer a91] h90 fun v93 h94 => ∃ a95 k96 k97, v93 = .slice a95 k96 k97 ∧ CallsH Tryz.prog ref08_Same.id #[.slice a95 k96 k97, .slice wa L.length wc] h94 fun v98 h99 => ∃ b100, v98 = .bool b100 ∧
        bif b100 then CallsH Tryz.prog law15_lives.id #[] h99 fun v101 h102 => ∃ b103, v101 = .bool b103 ∧ (Value.bool b103 = .bool true ∧ Sub h h102)
        else bif hb (e != 0) then CallsH Tryz.prog ref08_Same.id #[.slice a95 k96 k97, .slice a11 G.length k13] h99 fun v104 h105 => ∃ b106, v104 = .bool b106 ∧ bif b106 then CallsH Tryz.prog law15_lives.id #[] h105 fun v107 h108 => ∃ b109, v107 = .bool b109 ∧ (Value.bool b109 = .bool true ∧ Sub h h108) else (Value.bool false = .bool true ∧ Sub h h105)
        else (Value.bool false = .bool true ∧ Sub h h99) := fun {hgx LX IX} TX hX => by
      refine open_spec E75 (k := 1) (by decide) (fun h90 tb2 s90 n90 T90 _ => ⟨_, _, rfl, split_ne (fun e => absurd rfl e) fun _ => ?_⟩) fun no => absurd ⟨_, _, _, TX.tree⟩ no
      have E90 := E75.sub s90
      refine all_spec E90 T90 (by decide) TX.tree fun h94 xa xc NX => ⟨_, _, _, rfl, ?_⟩
      have stz := (st75'.trans (Step.sub s90)).trans (Step.sub NX.sub)
      have Az := A60.step stz
      have Wz := W60.step stz
      have subz : Sub h0 h94 := stz.1.sub sub60 new60
      have few := TX.tree.few (n := 24) (pgs_ok E75) fun i hi => (pgs_lt hi).2
      refine same_any NX.own.row Wz.sl (by omega) fun r hr => ⟨_, rfl, split_cond (fun _ => live h94 subz) fun er => ?_⟩
      rcases hX with rfl | ⟨he, rfl⟩
      · have := hr rfl
        rw [er] at this; cases this
      · exact split_ne (fun _ => same_any NX.own.row Az.sl (by omega) fun r' hr' => ⟨_, rfl, split_cond (fun _ => live h94 subz) fun er' => by have := hr' rfl; rw [er'] at this; cases this⟩) fun e0 => absurd e0 he
    rcases key with ⟨hp, hr2⟩ | ⟨he, hp, hr2⟩
    · exact fin (by rw [hp, hr2 1 (by decide)]; exact TT) (.inl rfl)
    · exact fin (by rw [hp, hr2 1 (by decide)]; exact TG) (.inr ⟨he, rfl⟩)
end Go.Proofs.YthbogjbcecmopaaGreatDoor
