/- Drop, Clear. Conditions: the pager stands, the tree is right, no page of it is another root. What the plain list's functions make of entries in a list. Conditions: the entries lie in memory as they are named; fewer than 2^32 of them. The law's own functions: what may be, the same entries, the example, those beside a key. Conditions: those that each contract names. -/
import Derived.Test.YthbogjbcecmopaaGreatDoorPr06
import Derived.KernelRfl
namespace Go.Proofs.YthbogjbcecmopaaGreatDoor
open Go.Gx
set_option maxRecDepth 100000
set_option linter.unusedVariables false
variable {n : Nat} {D : Dk} {P P' : Pg} {h : Hp} {K : Value → Hp → Prop} {pb jb db : Nat} {S : Nat → Prop} {tb k : Nat}
def DrJ (pb jb db : Nat) (S : Nat → Prop) (n : Nat) (D : Dk) (k : Nat) (P : Pg) (L : List KV) (I : List Nat) (h x : Hp) (m : Nat) : Prop :=
  ∃ P1, PgAt x pb jb db S n D P1 ∧ Keep S h x ∧ P1.now.r k ≠ 0 ∧ TrS (P1.pgs D n) m (P1.now.r k) eB eB ∧ ents (P1.pgs D n) m (P1.now.r k) = L ∧ (ids (P1.pgs D n) m (P1.now.r k)).Nodup ∧ MvT n D k P P1 I (ids (P1.pgs D n) m (P1.now.r k)) ∧ P.freeN n ≤ P1.freeN n ∧ ∀ t, t < 4 → t ≠ k → P1.now.r t ∉ ids (P1.pgs D n) m (P1.now.r k)
theorem nonroot_t (E : POk n P) {I I' : List Nat} (M : MvT n D k P P' I I') (hr : ∀ t, t < 4 → t ≠ k → P.now.r t ∉ I) : ∀ t, t < 4 → t ≠ k → P'.now.r t ∉ I' := fun t ht hk hi => by
  rw [M.roots t hk] at hi
  rcases M.new _ hi with h | h
  · exact hr t ht hk h
  · by_cases e : P.now.r t = 0
    · rw [e, E.now.zero] at h; cases h
    · rw [(E.now.roots t ht).2 e] at h; cases h
set_option maxHeartbeats 4000000 in
theorem drop_spec (E : PgAt h pb jb db S n D P) (T : TrAt h tb pb k) (nt : ¬ S tb) (hk : k < 4) {hg : Nat} {L : List KV} {I : List Nat} (TT : TreeS (P.pgs D n) (P.now.r k) hg L I) (nr : ∀ t, t < 4 → t ≠ k → P.now.r t ∉ I) (key : ByteArray) (hF : kvIs key L = false → ∀ h', Sub h h' → K (.bool false) h')
    (hT : kvIs key L = true → ∀ h' P' hg' I', PgAt h' pb jb db S n D P' → Keep S h h' → TreeS (P'.pgs D n) (P'.now.r k) hg' (kvDrop key L) I' → MvT n D k P P' I I' → P.freeN n ≤ P'.freeN n → K (.bool true) h') :
    CallsH Tryz.prog btree_Tree_Drop.id #[.pointer (some ⟨tb, 0, none⟩), .string key] h K := by
  have hn := E.n2
  apply btree_Tree_Drop.calls
  unfold btree_Tree_Drop.W
  refine ⟨fun x => kvIs key L = true ∧ ∃ m, DrJ pb jb db S n D k P (kvDrop key L) I h x m, ?_, _, T.cell' 0 rfl, _, T.cell' 1 rfl, root_spec E hk ⟨_, rfl, Sub.refl _, split_eq (fun e0 => hF ?_ h (Sub.refl _)) fun e0 => ⟨_, T.cell' 0 rfl, _, T.cell' 1 rfl, root_spec E hk ⟨_, rfl, ?_⟩⟩⟩⟩
  · rintro x ⟨hi, m, J⟩
    refine ⟨fun x m => DrJ pb jb db S n D k P (kvDrop key L) I h x m, ⟨m, J⟩, ?_⟩
    rintro y m ⟨P1, E1, kp1, r0, T1, e1, n1, M1, fr1, nr1⟩
    have Ty : TrAt y tb pb k := Blk.keep T kp1 nt
    have hpk := pgs_ok E1
    obtain ⟨nd, pn, W, F⟩ := TrS_iff.1 T1
    have ok := hpk _ nd pn
    refine ⟨_, Ty.cell' 0 rfl, _, Ty.cell' 1 rfl, root_spec E1 hk ⟨_, rfl, load_spec E1 Ty _ (fun e => by rw [show P1.pgs D n _ = none from e] at pn; cases pn) fun nd' e z k' N => ⟨_, _, rfl, split_ne (fun e => absurd rfl e) fun _ => ?_⟩⟩⟩
    have e : nd' = nd := Option.some.inj ((show P1.pgs D n _ = some nd' from e).symm.trans pn)
    subst e
    obtain ⟨a, c, Ne, fra⟩ := N.ex
    have Ez := E1.sub N.sub
    have Tz : TrAt z tb pb k := Blk.sub Ty N.sub
    have kpz : Keep S h z := kp1.trans (N.sub.keep S)
    refine ⟨k', 0, rfl, _, _, _, Ne.c2, split_dec (fun g => hT hi z P1 (m + 1) _ Ez kpz ⟨r0, T1, e1.symm, rfl, n1, ?_⟩ M1 fr1) fun g => ?_⟩
    · have g : ((nd'.l.length : Nat) : Int) > 0 := g
      rw [← e1, ents_N pn]
      intro e0
      have := Fw_empty W F e0
      rw [this] at g
      exact absurd g (by decide)
    · have g : ¬ ((nd'.l.length : Nat) : Int) > 0 := g
      have hl : nd'.l = [] := List.length_eq_zero_iff.1 (by omega)
      have hw := pgs_why (P := P1) (D := D) (n := n) (i := P1.now.r k) (by rw [pn]; rfl)
      obtain ⟨u1, u2, u3⟩ := why_used hw
      rw [ids_N pn] at n1 M1 nr1
      rw [ents_N pn] at e1
      obtain ⟨hid, nN⟩ := List.nodup_cons.1 n1
      have kd : ((nd'.kind : Nat) : Int) = if nd'.leaf = true then 1 else 2 := by unfold Nd.kind; split <;> rfl
      -- both steps of the pager
      have step : (nd'.first = 0 ∨ P1.why n (nd'.first : Nat) = 0) → nd'.first ≠ P1.now.r k → ∀ K' : Value → Hp → Prop, (∀ x, PgAt x pb jb db S n D ((P1.point k nd'.first).give (P1.now.r k)) → Keep S z x → K' (.int .i64 0) x) →
          CallsH Tryz.prog pager_Pager_Point.id #[.pointer (some ⟨pb, 0, none⟩), .int .i64 (k : Nat), .int .i64 (nd'.first : Nat)] z fun v h27 => ∃ n28, v = .int .i64 n28 ∧ ∃ a29, h27.cell tb 0 = some (.pointer a29) ∧ CallsH Tryz.prog pager_Pager_Give.id #[.pointer a29, .int .i64 (P1.now.r k : Nat)] h27 K' := fun hf hne K' hK' => by
        refine ppoint_ok Ez hk hf fun h4 E4 st4 => ⟨_, rfl, _, (Blk.keep Tz st4.1 nt : TrAt h4 tb pb k).cell' 0 rfl, ?_⟩
        have hw4 : (P1.point k nd'.first).why n (P1.now.r k : Nat) = 0 := hw
        refine give_spec E4 _ (fun e => absurd hw4 e) (fun q eq _ ⟨t', ht', er⟩ => ?_) fun q eq _ _ h5 E5 st5 => ?_
        · have hq : q = P1.now.r k := by omega
          have er : upR P1.now.r k nd'.first t' = q := er
          rw [hq] at er
          by_cases e : t' = k
          · rw [e, upR_same] at er; exact absurd er hne
          · unfold upR at er
            rw [if_neg e] at er
            exact absurd (by rw [er]; exact List.mem_cons_self) (nr1 t' ht' e)
        · have hq : P1.now.r k = q := by omega
          subst hq
          exact hK' h5 E5 (st4.1.trans st5.1)
      have M3 : MvT n D k P ((P1.point k nd'.first).give (P1.now.r k)) I (idsN (P1.pgs D n) m nd') := (M1.trans (MvT.point k nd'.first _)).trans ((Mv.give (P := P1.point k nd'.first) u3 u1 _).t k)
      have fr3 : P.freeN n ≤ ((P1.point k nd'.first).give (P1.now.r k)).freeN n := by
        have := freeN_give (P := P1.point k nd'.first) u1 n
        have h2 : (P1.point k nd'.first).freeN n = P1.freeN n := rfl
        omega
      have rk : ((P1.point k nd'.first).give (P1.now.r k)).now.r k = nd'.first := upR_same _ _ _
      refine ⟨_, Tz.cell' 0 rfl, _, Tz.cell' 1 rfl, k', 0, rfl, _, Ne.c1, ?_⟩
      cases m with
      | zero =>
        have hlf : nd'.leaf = true := W.1
        have hz := ok.z hlf
        refine step (.inl hz) (by rw [hz]; omega) _ fun x Ex kpx => ⟨_, rfl, k', 0, rfl, _, (Ne.out kpx (S_out E1 N.k0) fun b hb => S_out E1 (fra b hb)).c0, ?_⟩
        rw [kd, if_pos hlf]
        refine split_eq (fun _ => hT hi x _ 0 [] Ex (kpz.trans kpx) ⟨rk.trans hz, ?_, rfl⟩ M3 fr3) fun e => absurd rfl e
        rw [← e1]
        show nd'.kv = []
        unfold Nd.kv
        rw [hl]; rfl
      | succ m =>
        have hlf : nd'.leaf = false := W.1
        have hch := W.2.2
        have ecl : nd'.cl eB = [(eB, nd'.first)] := by unfold Nd.cl; rw [hl]; rfl
        have eN : entsN (P1.pgs D n) (m + 1) nd' = ents (P1.pgs D n) m nd'.first := by
          show (entsK (P1.pgs D n) m (nd'.cl eB)).flatten = _
          rw [ecl]; unfold entsK; simp
        have iN : idsN (P1.pgs D n) (m + 1) nd' = ids (P1.pgs D n) m nd'.first := by
          show idsK (P1.pgs D n) m (nd'.cl eB) = _
          rw [ecl]; unfold idsK; simp
        rw [ecl] at hch
        have Tf : TrS (P1.pgs D n) m nd'.first eB eB := hch.1
        rw [iN] at hid nN M3
        rw [eN] at e1
        have fin : nd'.first ∈ ids (P1.pgs D n) m nd'.first := ids_self
        have hne : nd'.first ≠ P1.now.r k := fun e => hid (e ▸ fin)
        refine step (.inr (pgs_why (Tf.in_pg fin))) hne _ fun x Ex kpx => ⟨_, rfl, k', 0, rfl, _, (Ne.out kpx (S_out E1 N.k0) fun b hb => S_out E1 (fra b hb)).c0, ?_⟩
        rw [kd, if_neg (by rw [hlf]; decide)]
        have fr : ∀ i ∈ ids (P1.pgs D n) m nd'.first, ((P1.point k nd'.first).give (P1.now.r k)).pgs D n i = P1.pgs D n i := fun i hi => pgs_give_ne (P := P1.point k nd'.first) fun e => hid (e ▸ hi)
        obtain ⟨f1, f2, f3⟩ := Tf.tr.frame fr
        refine split_eq (fun e => by cases e) fun _ => ⟨m, by omega, _, Ex, kpz.trans kpx, ?_, ?_, ?_, ?_, ?_, fr3, ?_⟩
        · rw [rk]
          have := pgs_lt (P := P1) (D := D) (Tf.in_pg fin)
          omega
        · rw [rk]; exact Tf.frame fr
        · rw [rk]; exact f2.trans e1
        · rw [rk, f3]; exact nN
        · rw [rk, f3]; exact M3
        · intro t ht htk
          rw [rk, f3]
          show upR P1.now.r k nd'.first t ∉ _
          unfold upR
          rw [if_neg htk]
          exact fun h' => nr1 t ht htk (List.mem_cons_of_mem _ (by rw [iN]; exact h'))
  · cases hg with
    | zero => rw [TT.2.1]; rfl
    | succ m => exact absurd (by omega) TT.1
  · cases hg with
    | zero => exact absurd (by rw [TT.1]; rfl) e0
    | succ m =>
      obtain ⟨r0, T0, rfl, rfl, nI, _⟩ := TT
      refine remove_spec nt m E T T0 nI (blt_eB key) (fun h => absurd rfl h) (fun i hi hne t ht er => ?_) (fun h' s hi => ⟨_, rfl, split_not (fun _ => hF hi h' s) fun e => by cases e⟩) fun h' P1 E1 kp hi R => ⟨_, rfl, split_not (fun e => by cases e) fun _ => ⟨hi, m, P1, E1, kp, ?_, ?_, ?_, ?_, ?_, R.fr, ?_⟩⟩
      · by_cases e : t = k
        · rw [e] at er; exact hne er.symm
        · exact nr t ht e (er ▸ hi)
      · rw [R.mv.roots]; exact r0
      · rw [R.mv.roots]; exact R.tr
      · rw [R.mv.roots]; exact R.es
      · rw [R.mv.roots]; exact R.nd
      · rw [R.mv.roots]; exact R.mv.t k
      · intro t ht htk
        have := nonroot_t E.ok (R.mv.t k) nr t ht htk
        rw [R.mv.roots] at this ⊢
        exact this
def ClAt (x : Hp) (k1 : Nat) (l : List Nat) (M : Nat → Prop) : Prop := ∃ la lc, Blk x k1 107 [.slice la l.length lc] ∧ OwnR keyC 1 x 3 la lc l ∧ (∀ b, blkOf la b → b ≠ k1) ∧ ∀ c, M c ↔ (c = k1 ∨ blkOf la c)
set_option maxHeartbeats 4000000 in
theorem clear_spec (E : PgAt h pb jb db S n D P) (T : TrAt h tb pb k) (nt : ¬ S tb) (hk : k < 4) {hg : Nat} {L : List KV} {I : List Nat} (TT : TreeS (P.pgs D n) (P.now.r k) hg L I) (nr : ∀ t, t < 4 → t ≠ k → P.now.r t ∉ I)
    (hK : ∀ h' P', PgAt h' pb jb db S n D P' → Keep S h h' → P'.now.r k = 0 → MvT n D k P P' I [] → K (.tuple #[]) h') : CallsH Tryz.prog btree_Tree_Clear.id #[.pointer (some ⟨tb, 0, none⟩)] h K := by
  have hn := E.n2
  have high := TT.high
  have TT' := TT.tree
  have nI : I.Nodup := by
    cases hg with
    | zero => rw [TT.2.2]; exact List.nodup_nil
    | succ m => exact TT.2.2.2.2.1
  have vp := visit_perm TT'
  have nV : (visit (P.pgs D n) hg (P.now.r k)).Nodup := vp.nodup_iff.2 nI
  have used : ∀ i ∈ visit (P.pgs D n) hg (P.now.r k), (P.pgs D n i).isSome = true := fun i hi => TT.used i (vp.mem_iff.1 hi)
  have nrV : ∀ t, t < 4 → t ≠ k → P.now.r t ∉ visit (P.pgs D n) hg (P.now.r k) := fun t ht htk hi => nr t ht htk (vp.mem_iff.1 hi)
  apply btree_Tree_Clear.calls
  unfold btree_Tree_Clear.W
  intro k1 hk1
  have B1 := Blk.new h k1 107 [.slice none 0 0]
  have s1 := Sub.upd hk1 (.cells [Value.slice none 0 0].toArray 107 (0, 0))
  generalize h.upd k1 (.cells [Value.slice none 0 0].toArray 107 (0, 0)) = y at B1 s1 ⊢
  have tk1 : tb ≠ k1 := fun e => by subst e; unfold TrAt Blk at T; rw [T] at hk1; cases hk1
  have Ty : TrAt y tb pb k := Blk.sub T s1
  refine each_spec (B := n) (I := fun l M x => ClAt x k1 l M) ?_ ?_ ?_ rfl (M := fun c => c = k1) ⟨none, 0, B1, OwnR.nil _ _, (fun b ⟨o, s, e⟩ => by cases e), fun c => ⟨.inl, fun h => h.elim id fun ⟨o, s, e⟩ => by cases e⟩⟩ (E.sub s1) Ty hk (fun c hc e => S_out E hk1 (e ▸ hc)) tk1 TT' (by rw [vp.length_eq]; exact high.2) fun h3 M3 C3 st3 => ⟨rfl, ?_⟩
  · rintro l M x z ⟨la, lc, c1, c2, c3, c4⟩ s
    exact ⟨la, lc, c1.sub s, c2.sub s, c3, c4⟩
  · rintro l M x c ⟨la, lc, c1, c2, c3, c4⟩ hc e
    rcases (c4 c).1 hc with rfl | hc
    · unfold Blk at c1; rw [c1] at e; cases e
    · exact Own.in_heap c2 hc e
  · rintro l M x id nd k' a c hl ⟨la, lc, c1, c2, c3, c4⟩ e Ne K' hK'
    refine fnI (cap := [_]) (by kernel_rfl) ?_
    apply btree_Tree_Clear_1.calls
    unfold btree_Tree_Clear_1.W
    refine ⟨_, _, _, c1.cell' 0 rfl, fun k4 hk4 => ?_⟩
    have s4 := Sub.upd hk4 (.cells (keyC id).toArray 3 (0, 0))
    have B4 := Blk.new x k4 3 (keyC id)
    have c1' := c1.sub s4
    have c2' := c2.sub s4
    refine ⟨keyC id, B4.slice rfl, fun a' c' z => OwnR keyC 1 z 3 a' c' (l ++ [id]) ∧ Keep (blkOf la) (x.upd k4 (.cells (keyC id).toArray 3 (0, 0))) z ∧ ∀ b, blkOf a' b → blkOf la b ∨ (x.upd k4 (.cells (keyC id).toArray 3 (0, 0))) b = none, ?_, ?_⟩
    · rintro a' c' z ⟨o1, o2, o3⟩
      have B1z := c1'.keep o2 fun hb => c3 k1 hb rfl
      have ne' : ∀ b, blkOf a' b → b ≠ k1 := fun b hb e => by
        rcases o3 b hb with h' | h'
        · exact c3 b h' e
        · rw [e] at h'; unfold Blk at c1'; rw [c1'] at h'; cases h'
      have kz := Keep.put (fun c => c = k1) z 0 [.slice a' (l.length + 1) c'] rfl
      refine ⟨B1z.store (by show 1 ≤ 1; decide), hK' _ (fun c => c = k1 ∨ blkOf a' c) ⟨a', c', ?_, o1.keep kz ne', ne', fun c => Iff.rfl⟩ ⟨?_, ?_⟩⟩
      · rw [List.length_append]
        exact B1z.put 0 [.slice a' (l.length + 1) c']
      · exact ((s4.keep M).trans (o2.mono fun c hc => (c4 c).2 (.inr hc))).trans (kz.mono fun c hc => (c4 c).2 (.inl hc))
      · rintro c (hc | hc)
        · exact .inl ((c4 c).2 (.inl hc))
        · rcases o3 c hc with h' | h'
          · exact .inl ((c4 c).2 (.inr h'))
          · exact .inr (s4.none h')
    · exact append_ownR appTInt keyC_len keyC_plain (M := [id]) c2' rfl rfl (rowC_one _).symm (by show (2 * (l.length + 1) + 768) * 8 ≤ _; omega) fun a' c' z o1 o2 o3 => ⟨o1, o2, o3⟩
  · have s3 : Sub h h3 := st3.1.sub s1 fun c hc => by rw [hc]; exact hk1
    have E3 := E.sub s3
    have T3 : TrAt h3 tb pb k := Blk.sub T s3
    obtain ⟨la, lc, c1, c2, c3, c4⟩ := C3
    have nS : ∀ c, S c → ¬ (c = k1 ∨ blkOf la c) := fun c hc hm => by
      rcases st3.2 c ((c4 c).2 hm) with h' | h'
      · exact S_out E hk1 (h' ▸ hc)
      · exact E.in_heap hc (s1.none h')
    refine ⟨_, T3.cell' 0 rfl, _, T3.cell' 1 rfl, ppoint_ok E3 hk (.inl rfl) fun h7 E7 st7 => ⟨_, rfl, ?_⟩⟩
    have B7 := c1.keep st7.1 fun hs => nS _ hs (.inl rfl)
    have O7 := c2.keep st7.1 fun b hb hs => nS b hs (.inr hb)
    have kp7 : Keep S h h7 := (s3.keep S).trans st7.1
    generalize hV : visit (P.pgs D n) hg (P.now.r k) = V at nV used nrV B7 O7
    have VI : V.Perm I := by rw [← hV]; exact vp
    have hVn : V.length ≤ n := by rw [VI.length_eq]; exact high.2
    have M0 : MvT n D k P (P.point k 0) I V := by
      refine ⟨rfl, rfl, rfl, fun t ht => if_neg ht, fun j h _ => ⟨h, rfl⟩, fun j h => .inl (VI.mem_iff.1 h), by rw [VI.length_eq]; rfl⟩
    refine ⟨_, _, _, B7.cell' 0 rfl, fun i x m => ∃ (j : Nat) (P1 : Pg), i = (j : Int) ∧ j ≤ V.length ∧ m = V.length - j ∧ PgAt x pb jb db S n D P1 ∧ Keep S h x ∧ OwnR keyC 1 x 3 la lc V ∧ P1.now.r = upR P.now.r k 0 ∧ MvT n D k P P1 I (V.drop j) ∧ ∀ i ∈ V.drop j, P1.pgs D n i = P.pgs D n i, ⟨_, 0, P.point k 0, rfl, Nat.zero_le _, rfl, E7, kp7, O7, rfl, M0, fun i _ => rfl⟩, ?_⟩
    rintro i x m ⟨j, P1, rfl, hj, rfl, E1, kp1, O1, er, M1, hp⟩
    refine split_dec (fun g => ?_) fun g => ?_
    · have g : ((j : Nat) : Int) < ((V.length : Nat) : Int) := g
      have hj' : j < V.length := by omega
      obtain ⟨id, hid⟩ : ∃ id, V[j]? = some id := ⟨_, List.getElem?_eq_getElem hj'⟩
      obtain ⟨b, o, ea, hc⟩ := O1.row.get keyC_len (by decide) hid
      have hdr : V.drop j = id :: V.drop (j + 1) := by
        have := (List.getElem?_eq_some_iff.1 hid).2
        rw [← this, List.drop_eq_getElem_cons hj']
      have idV : id ∈ V := List.mem_of_getElem? hid
      have pid : P1.pgs D n id = P.pgs D n id := hp id (by rw [hdr]; exact List.mem_cons_self)
      have hw : P1.why n (id : Nat) = 0 := pgs_why (D := D) (by rw [pid]; exact used id idV)
      obtain ⟨u1, u2, u3⟩ := why_used hw
      have T1 : TrAt x tb pb k := Blk.keep T kp1 nt
      refine ⟨by omega, g, b, o, ea, _, by rw [Int.toNat_natCast]; exact hc 0 _ rfl, _, T1.cell' 0 rfl, give_spec E1 _ (fun e => absurd hw e) (fun q eq _ ⟨t', ht', e2⟩ => ?_) fun q eq _ _ h5 E5 st5 => ⟨_, rfl, V.length - (j + 1), by omega, j + 1, P1.give id, by rw [wid (by omega) (by omega)]; omega, by omega, rfl, ?_, kp1.trans st5.1, O1.keep st5.1 fun b hb hs => nS b hs (.inr hb), er, ?_, ?_⟩⟩
      · have hq : q = id := by omega
        have e2 : P1.now.r t' = q := e2
        rw [er, hq] at e2
        unfold upR at e2
        by_cases e : t' = k
        · rw [if_pos e] at e2
          omega
        · rw [if_neg e] at e2
          exact absurd (e2 ▸ idV) (nrV t' ht' e)
      · have hq : id = q := by omega
        subst hq
        exact E5
      · rw [hdr] at M1
        exact M1.trans ((Mv.give u3 u1 _).t k)
      · intro i hi
        have nd1 : (V.drop j).Nodup := nV.sublist (List.drop_sublist _ _)
        rw [hdr] at nd1
        have := (List.nodup_cons.1 nd1).1
        have ine : i ≠ id := fun e => this (e ▸ hi)
        exact (pgs_give_ne ine).trans (hp i (by rw [hdr]; exact List.mem_cons_of_mem _ hi))
    · have g : ¬ ((j : Nat) : Int) < ((V.length : Nat) : Int) := g
      have : j = V.length := by omega
      subst this
      rw [List.drop_length] at M1
      exact hK x P1 E1 kp1 (by rw [er]; exact upR_same _ _ _) M1
end Go.Proofs.YthbogjbcecmopaaGreatDoor
namespace Go.Proofs.YthbogjbcecmopaaGreatDoor
open Go.Gx
set_option maxRecDepth 100000
set_option linter.unusedVariables false

abbrev tPair : TypeId := 42
theorem appTP : AppT Tryz.prog tPair 2 32 := AppT.of (by kernel_rfl)
abbrev noB : ByteArray := bytesL []

theorem kv_cell {h : Hp} {a : Option Addr} {L : List KV} (H : SliceAt h a (L.length * 2) (kvCells L)) {i : Nat} {p : KV} (hp : L[i]? = some p) :
    ∃ b o, a = some ⟨b, o, none⟩ ∧ h.cell b (o + i * 2) = some (.string p.1) ∧ h.cell b (o + i * 2 + 1) = some (.string p.2) := by
  have hi := (List.getElem?_eq_some_iff.1 hp).1
  obtain ⟨c1, c2⟩ := kvCells_get L i p hp
  obtain ⟨b, o, e, v, hv, hc⟩ := H.cell (i := i * 2) (by omega)
  obtain ⟨b', o', e', v', hv', hc'⟩ := H.cell (i := i * 2 + 1) (by omega)
  rw [e] at e'
  cases e'
  rw [c1] at hv; cases hv
  rw [c2] at hv'; cases hv'
  exact ⟨b, o, e, hc, by rw [Nat.add_assoc]; exact hc'⟩
theorem kvFind_spec {L : List KV} {a : Option Addr} {c : Nat} {h : Hp} (H : SliceAt h a (L.length * 2) (kvCells L)) (hL : L.length < 4294967296) (k : ByteArray) {K : Value → Hp → Prop}
    (hK : K (.tuple #[.int .i64 (kvAt k L : Nat), .bool (kvIs k L)]) h) : CallsH Tryz.prog ref08_Find.id #[.slice a L.length c, .string k] h K := by
  apply ref08_Find.calls
  unfold ref08_Find.W
  refine ⟨fun n x m => x = h ∧ ∃ i : Nat, n = (i : Int) ∧ i ≤ kvAt k L ∧ m = L.length - i, ⟨_, rfl, 0, rfl, by omega, rfl⟩, ?_⟩
  rintro n x m ⟨rfl, i, rfl, hi, rfl⟩
  have hle := kvAt_le k L
  refine split_dec (fun h1 => ?_) (fun h1 => ?_)
  · have h1' : i < L.length := by have : (i : Int) < ((L.length : Nat) : Int) := h1; omega
    have hp : L[i]? = some L[i] := List.getElem?_eq_getElem h1'
    obtain ⟨b, o, e, c1, c2⟩ := kv_cell H hp
    have ei : ((i : Nat) : Int).toNat = i := rfl
    rw [ei]
    refine ⟨by omega, h1, b, o, e, L[i].1, c1, ?_⟩
    rw [bltS_val]
    refine split_not (fun h2 => ⟨by omega, h1, b, o, e, L[i].1, c1, ?_⟩) (fun h2 => ?_)
    · have : i = kvAt k L := by
        by_cases hc : i < kvAt k L
        · rw [kvAt_before k L i _ hp hc] at h2; cases h2
        · omega
      rw [beqS_val]
      have e2 : decide (L[i].1 = k) = kvIs k L := by
        unfold kvIs
        rw [← this, hp]
      rw [e2, this]
      exact hK
    · refine ⟨L.length - (i + 1), by omega, rfl, i + 1, by rw [wid (by omega) (by omega)]; omega, ?_, rfl⟩
      by_cases hc : i = kvAt k L
      · have := kvAt_at k L L[i] (by rw [← hc]; exact hp)
        rw [this] at h2; cases h2
      · omega
  · have h1 : ¬ i < L.length := by
      intro hc
      apply h1
      show (i : Int) < ((L.length : Nat) : Int)
      omega
    have e : kvAt k L = L.length := by omega
    have e2 : kvIs k L = false := by
      unfold kvIs
      rw [e, List.getElem?_eq_none (Nat.le_refl _)]
    rw [e, e2] at hK
    exact hK
theorem kvGet_spec {L : List KV} {a : Option Addr} {c : Nat} {h : Hp} (H : SliceAt h a (L.length * 2) (kvCells L)) (hL : L.length < 4294967296) (k : ByteArray) {K : Value → Hp → Prop}
    (hK : K (.tuple #[.string ((kvGet k L).getD noB), .bool (kvIs k L)]) h) : CallsH Tryz.prog ref08_Get.id #[.slice a L.length c, .string k] h K := by
  apply ref08_Get.calls
  unfold ref08_Get.W
  refine kvFind_spec H hL k ⟨_, _, rfl, split_not (fun h1 => ?_) (fun h1 => ?_)⟩
  · have : kvGet k L = none := by unfold kvGet; rw [h1]; rfl
    rw [this, h1] at hK; exact hK
  · obtain ⟨w, _, hp⟩ := kvIs_split h1
    obtain ⟨b, o, e, c1, c2⟩ := kv_cell H hp
    have hlt := kvAt_lt h1
    refine ⟨by omega, by show ((kvAt k L : Nat) : Int) < ((L.length : Nat) : Int); omega, b, o, e, w, c2, ?_⟩
    have : kvGet k L = some w := by unfold kvGet; rw [if_pos h1, hp]; rfl
    rw [this, h1] at hK; exact hK
theorem kv_part {h : Hp} {a : Option Addr} {L : List KV} (H : SliceAt h a (L.length * 2) (kvCells L)) {c i n : Nat} (hc : L.length ≤ c) (hi : i + n ≤ L.length) : SliceAt h (slA c i 2 a) (n * 2) (kvCells ((L.drop i).take n)) := by
  have := H.part (m := c) (l := i) (k := n * 2) (sz := 2) (by omega) (by omega)
  rw [kvCells_drop, kvCells_take] at this
  exact this
theorem kvPut_len (k v : ByteArray) (L : List KV) : (kvPut k v L).length = kvAt k L + 1 + (L.length - (if kvIs k L then kvAt k L + 1 else kvAt k L)) := by
  unfold kvPut
  have := kvAt_le k L
  rw [List.length_append, List.length_take, List.length_cons, List.length_drop]; omega
def NewKV (h h' : Hp) (a : Option Addr) (c : Nat) (L : List KV) : Prop := Sub h h' ∧ (∀ b, blkOf a b → h b = none) ∧ Go.Gx.Own h' tPair 2 a L.length c (kvCells L)
theorem kvPut_spec {L : List KV} {a : Option Addr} {c : Nat} {h : Hp} (H : SliceAt h a (L.length * 2) (kvCells L)) (hc : L.length ≤ c) (hL : L.length < 4294967296) (k v : ByteArray) {K : Value → Hp → Prop}
    (hK : ∀ h' a' c', NewKV h h' a' c' (kvPut k v L) → K (.slice a' (kvPut k v L).length c') h') : CallsH Tryz.prog ref08_Put.id #[.slice a L.length c, .string k, .string v] h K := by
  apply ref08_Put.calls
  unfold ref08_Put.W
  have hle := kvAt_le k L
  have ei : ((kvAt k L : Nat) : Int).toNat = kvAt k L := rfl
  refine kvFind_spec H hL k ⟨_, _, rfl, by omega, by show ((kvAt k L : Nat) : Int) ≤ ((c : Nat) : Int); omega, kvCells (L.take (kvAt k L)), ?_, ?_⟩
  · have := kv_part H (c := c) (i := 0) (n := kvAt k L) hc (by omega)
    rw [List.drop_zero] at this; exact this
  have hl1 : (L.take (kvAt k L)).length = kvAt k L := by rw [List.length_take]; omega
  rw [ei]
  refine ⟨fun a' c' x => Sub h x ∧ (∀ b, blkOf a' b → h b = none) ∧ Go.Gx.Own x tPair 2 a' (0 + kvAt k L) c' ([] ++ kvCells (L.take (kvAt k L))), ?_,
    append_new appTP (Sub.refl h) (by rintro b ⟨o, s, e⟩; cases e) (Own.nil _ _ _) (by rw [kvCells_length, hl1]) (kvCells_plain _) (by omega) fun a' c' x g1 g2 g3 => ⟨g1, g2, g3⟩⟩
  rintro a1 c1 x1 ⟨hs1, hf1, ho1⟩ k10 hk10
  refine ⟨kvCells [(k, v)], (Blk.new _ _ _ (kvCells [(k, v)])).slice rfl, fun a' c' x => Sub h x ∧ (∀ b, blkOf a' b → h b = none) ∧ Go.Gx.Own x tPair 2 a' (0 + kvAt k L + 1) c' ([] ++ kvCells (L.take (kvAt k L)) ++ kvCells [(k, v)]), ?_,
    append_new appTP (hs1.trans (Sub.upd hk10 _)) hf1 (ho1.sub (Sub.upd hk10 _)) rfl (kvCells_plain _) (by omega) fun a' c' x g1 g2 g3 => ⟨g1, g2, g3⟩⟩
  rintro a2 c2 x2 ⟨hs2, hf2, ho2⟩
  have hlen := kvPut_len k v L
  have fin : ∀ (i : Nat), i ≤ L.length → i = (if kvIs k L then kvAt k L + 1 else kvAt k L) → ∀ (n : Int), n = (i : Int) → (0 ≤ n ∧ n ≤ Int.ofNat L.length ∧ ∃ xs, SliceAt x2 (slA c n.toNat 2 a) ((L.length - n.toNat) * 2) xs ∧ ∃ J : Option Addr → Nat → Hp → Prop, (∀ a' c' x, J a' c' x → K (.slice a' (0 + kvAt k L + 1 + (L.length - n.toNat)) c') x) ∧ appendC Tryz.prog tPair a2 (0 + kvAt k L + 1) c2 x2 xs (L.length - n.toNat) J) := by
    intro i hi hie n hn
    subst hn
    have en : ((i : Nat) : Int).toNat = i := rfl
    rw [en]
    refine ⟨by omega, by show ((i : Nat) : Int) ≤ ((L.length : Nat) : Int); omega, kvCells (L.drop i), ?_, fun a' c' x => NewKV h x a' c' (kvPut k v L), ?_, ?_⟩
    · have := kv_part (H.sub hs2) (c := c) (i := i) (n := L.length - i) hc (by omega)
      rw [List.take_of_length_le (by simp)] at this
      exact this
    · intro a' c' x hx
      have e : 0 + kvAt k L + 1 + (L.length - i) = (kvPut k v L).length := by rw [hlen, ← hie]; omega
      rw [e]
      exact hK x a' c' hx
    · refine append_new appTP hs2 hf2 ho2 (by rw [kvCells_length, List.length_drop]) (kvCells_plain _) (by omega) fun a' c' x g1 g2 g3 => ⟨g1, g2, ?_⟩
      have e : 0 + kvAt k L + 1 + (L.length - i) = (kvPut k v L).length := by rw [hlen, ← hie]; omega
      rw [e] at g3
      have e2 : [] ++ kvCells (L.take (kvAt k L)) ++ kvCells [(k, v)] ++ kvCells (L.drop i) = kvCells (kvPut k v L) := by
        unfold kvPut
        rw [← hie, List.nil_append, ← kvCells_append, ← kvCells_append, List.append_assoc]; rfl
      rw [e2] at g3
      exact g3
  refine split_cond (fun h1 => ?_) (fun h1 => ?_)
  · have hlt := kvAt_lt h1
    exact fin (kvAt k L + 1) (by omega) (by rw [if_pos h1]) _ (by rw [wid (by omega) (by omega)]; omega)
  · exact fin (kvAt k L) (by omega) (by rw [if_neg (by rw [h1]; decide)]) _ rfl
theorem kvDrop_spec {L : List KV} {a : Option Addr} {c : Nat} {h : Hp} (H : SliceAt h a (L.length * 2) (kvCells L)) (hc : L.length ≤ c) (hL : L.length < 4294967296) (k : ByteArray) {K : Value → Hp → Prop}
    (h1 : kvIs k L = false → K (.tuple #[.slice a L.length c, .bool false]) h)
    (h2 : kvIs k L = true → ∀ h' a' c', NewKV h h' a' c' (kvDrop k L) → K (.tuple #[.slice a' (kvDrop k L).length c', .bool true]) h') : CallsH Tryz.prog ref08_Drop.id #[.slice a L.length c, .string k] h K := by
  apply ref08_Drop.calls
  unfold ref08_Drop.W
  have hle := kvAt_le k L
  have ei : ((kvAt k L : Nat) : Int).toNat = kvAt k L := rfl
  refine kvFind_spec H hL k ⟨_, _, rfl, split_not (fun g => h1 g) (fun g => ?_)⟩
  have hlt := kvAt_lt g
  have hl1 : (L.take (kvAt k L)).length = kvAt k L := by rw [List.length_take]; omega
  have w1 : IntKind.i64.wrap (((kvAt k L : Nat) : Int) + 1) = ((kvAt k L + 1 : Nat) : Int) := by rw [wid (by omega) (by omega)]; omega
  have ei1 : ((kvAt k L + 1 : Nat) : Int).toNat = kvAt k L + 1 := rfl
  rw [ei, w1, ei1]
  refine ⟨by omega, by show ((kvAt k L : Nat) : Int) ≤ ((c : Nat) : Int); omega, kvCells (L.take (kvAt k L)), ?_, ?_⟩
  · have := kv_part H (c := c) (i := 0) (n := kvAt k L) hc (by omega)
    rw [List.drop_zero] at this; exact this
  refine ⟨fun a' c' x => Sub h x ∧ (∀ b, blkOf a' b → h b = none) ∧ Go.Gx.Own x tPair 2 a' (0 + kvAt k L) c' ([] ++ kvCells (L.take (kvAt k L))), ?_,
    append_new appTP (Sub.refl h) (by rintro b ⟨o, s, e⟩; cases e) (Own.nil _ _ _) (by rw [kvCells_length, hl1]) (kvCells_plain _) (by omega) fun a' c' x g1 g2 g3 => ⟨g1, g2, g3⟩⟩
  rintro a1 c1 x1 ⟨hs1, hf1, ho1⟩
  have hd : kvDrop k L = L.take (kvAt k L) ++ L.drop (kvAt k L + 1) := by unfold kvDrop; rw [if_pos g]
  have e : 0 + kvAt k L + (L.length - (kvAt k L + 1)) = (kvDrop k L).length := by rw [hd, List.length_append, List.length_drop, hl1]; omega
  refine ⟨by omega, by show ((kvAt k L + 1 : Nat) : Int) ≤ ((L.length : Nat) : Int); omega, kvCells (L.drop (kvAt k L + 1)), ?_, fun a' c' x => NewKV h x a' c' (kvDrop k L), ?_, ?_⟩
  · have := kv_part (H.sub hs1) (c := c) (i := kvAt k L + 1) (n := L.length - (kvAt k L + 1)) hc (by omega)
    rw [List.take_of_length_le (by simp)] at this
    exact this
  · intro a' c' x hx
    rw [e]
    exact h2 g x a' c' hx
  · refine append_new appTP hs1 hf1 ho1 (by rw [kvCells_length, List.length_drop]) (kvCells_plain _) (by omega) fun a' c' x g1 g2 g3 => ⟨g1, g2, ?_⟩
    rw [e] at g3
    have e2 : [] ++ kvCells (L.take (kvAt k L)) ++ kvCells (L.drop (kvAt k L + 1)) = kvCells (kvDrop k L) := by
      rw [hd, List.nil_append, ← kvCells_append]
    rw [e2] at g3
    exact g3
theorem kvRange_spec {L : List KV} {a : Option Addr} {c : Nat} {h : Hp} (H : SliceAt h a (L.length * 2) (kvCells L)) (hL : L.length < 4294967296) (k1 k2 : ByteArray) (most : Nat) {K : Value → Hp → Prop}
    (hK : ∀ h' a' c', NewKV h h' a' c' (kvRange k1 k2 most L) → K (.slice a' (kvRange k1 k2 most L).length c') h') : CallsH Tryz.prog ref08_Range.id #[.slice a L.length c, .string k1, .string k2, .int .i64 most] h K := by
  apply ref08_Range.calls
  unfold ref08_Range.W
  refine ⟨fun a' l' c' n x m => ∃ i : Nat, n = (i : Int) ∧ i ≤ L.length ∧ m = L.length - i ∧ l' = (kvRange k1 k2 most (L.take i)).length ∧ NewKV h x a' c' (kvRange k1 k2 most (L.take i)),
    ⟨_, 0, rfl, by omega, rfl, by simp [kvRange], Sub.refl _, (by rintro b ⟨o, s, e⟩; cases e), ?_⟩, ?_⟩
  · have : kvRange k1 k2 most (L.take 0) = [] := by simp [kvRange]
    rw [this]; exact Own.nil _ _ _
  rintro a' l' c' n x m ⟨i, rfl, hi, rfl, rfl, hs, hf, ho⟩
  refine split_dec (fun g1 => ?_) (fun g1 => ?_)
  · have g1' : i < L.length := by have : (i : Int) < ((L.length : Nat) : Int) := g1; omega
    have hp : L[i]? = some L[i] := List.getElem?_eq_getElem g1'
    obtain ⟨b, o, e, d1, d2⟩ := kv_cell (H.sub hs) hp
    have ei : ((i : Nat) : Int).toNat = i := rfl
    have w1 : IntKind.i64.wrap ((i : Int) + 1) = ((i + 1 : Nat) : Int) := by rw [wid (by omega) (by omega)]; omega
    have ht : L.take (i + 1) = L.take i ++ [L[i]] := by rw [List.take_add_one, hp]; rfl
    have hll : (kvRange k1 k2 most (L.take i)).length ≤ i := by
      unfold kvRange
      rw [List.length_take]
      have := List.length_filter_le (kvIn k1 k2) (L.take i)
      rw [List.length_take] at this; omega
    have stay : (kvIn k1 k2 L[i] = false ∨ most ≤ (kvRange k1 k2 most (L.take i)).length) → kvRange k1 k2 most (L.take (i + 1)) = kvRange k1 k2 most (L.take i) := by
      intro hh
      unfold kvRange at hh ⊢
      rw [ht, List.filter_append]
      rcases hh with hh | hh
      · rw [List.filter_cons_of_neg (by rw [hh]; decide), List.filter_nil, List.append_nil]
      · rw [List.length_take] at hh
        rw [List.take_append_of_le_length (by omega)]
    have go : kvIn k1 k2 L[i] = true → (kvRange k1 k2 most (L.take i)).length < most → kvRange k1 k2 most (L.take (i + 1)) = kvRange k1 k2 most (L.take i) ++ [L[i]] := by
      intro hh hm
      unfold kvRange at hm ⊢
      rw [ht, List.filter_append, List.filter_cons_of_pos hh, List.filter_nil]
      rw [List.length_take] at hm
      rw [List.take_of_length_le (l := (L.take i).filter (kvIn k1 k2) ++ [L[i]]) (by rw [List.length_append, List.length_cons, List.length_nil]; omega), List.take_of_length_le (l := (L.take i).filter (kvIn k1 k2)) (by omega)]
    rw [ei, w1]
    have skip : (kvIn k1 k2 L[i] = false ∨ most ≤ (kvRange k1 k2 most (L.take i)).length) → ∃ k, k < L.length - i ∧ (∃ j : Nat, ((i + 1 : Nat) : Int) = (j : Int) ∧ j ≤ L.length ∧ k = L.length - j ∧ (kvRange k1 k2 most (L.take i)).length = (kvRange k1 k2 most (L.take j)).length ∧ NewKV h x a' c' (kvRange k1 k2 most (L.take j))) := by
      intro hh
      refine ⟨_, ?_, i + 1, rfl, by omega, rfl, by rw [stay hh], by rw [stay hh]; exact ⟨hs, hf, ho⟩⟩
      omega
    refine ⟨by omega, g1, b, o, e, _, d1, ?_⟩
    rw [bltS_val]
    refine split_not (fun g2 => ⟨by omega, g1, b, o, e, _, d1, ?_⟩) (fun g2 => skip (.inl (by unfold kvIn; rw [g2]; rfl)))
    rw [bltS_val, beqS_val]
    refine split_cond (fun g3 => ?_) (fun g3 => skip (.inl (by unfold kvIn; rw [g2, g3]; rfl)))
    refine split_dec (fun g4 => ?_) (fun g4 => skip (.inr ?_))
    · have g4 : (kvRange k1 k2 most (L.take i)).length < most := by
        have : (((kvRange k1 k2 most (L.take i)).length : Nat) : Int) < (most : Int) := g4
        omega
      refine ⟨by omega, g1, b, o, e, _, d1, _, d2, fun k hk => ?_⟩
      have hgo := go (by unfold kvIn; rw [g2, g3]; rfl) g4
      refine ⟨kvCells [L[i]], (Blk.new _ _ _ (kvCells [L[i]])).slice rfl, fun a2 c2 y => NewKV h y a2 c2 (kvRange k1 k2 most (L.take (i + 1))), ?_, ?_⟩
      · intro a2 c2 y hy
        refine ⟨_, ?_, i + 1, rfl, by omega, rfl, by rw [hgo, List.length_append]; rfl, hy⟩
        omega
      · refine append_new appTP (hs.trans (Sub.upd hk _)) hf (ho.sub (Sub.upd hk _)) rfl (kvCells_plain _) (by omega) fun a2 c2 y u1 u2 u3 => ⟨u1, u2, ?_⟩
        rw [hgo, List.length_append, kvCells_append]
        exact u3
    · have : ¬ (((kvRange k1 k2 most (L.take i)).length : Nat) : Int) < (most : Int) := g4
      omega
  · have hie : i = L.length := by
      have : ¬ (i : Int) < ((L.length : Nat) : Int) := g1
      omega
    subst hie
    rw [List.take_length] at ho ⊢
    exact hK x a' c' ⟨hs, hf, ho⟩

theorem NewKV.row {h h' : Hp} {a : Option Addr} {c : Nat} {L : List KV} (N : NewKV h h' a c L) : NewR kvC 2 tPair h h' a c L := ⟨N.1, N.2.1, N.2.2⟩
end Go.Proofs.YthbogjbcecmopaaGreatDoor
namespace Go.Proofs.YthbogjbcecmopaaGreatDoor
open Go.Gx
set_option maxRecDepth 100000
set_option linter.unusedVariables false
variable {n : Nat} {D : Dk} {P P' : Pg} {h : Hp} {K : Value → Hp → Prop} {pb jb db : Nat} {S : Nat → Prop} {tb k : Nat}
theorem refMay_spec (k v : ByteArray) (hK : K (.bool (may k v)) h) : CallsH Tryz.prog ref08_May.id #[.string k, .string v] h K := by
  apply ref08_May.calls
  unfold ref08_May.W
  unfold may at hK
  refine split_dec (fun e1 => split_dec (fun e2 => ?_) fun e2 => ?_) fun e1 => ?_
  · have e1 : (k.size : Int) ≥ 1 := e1
    have e2 : (k.size : Int) ≤ 64 := e2
    rw [hb_eq]
    have : decide (Int.ofNat v.size ≤ 400) = decide (1 ≤ k.size ∧ k.size ≤ 64 ∧ v.size ≤ 400) := decide_eq_decide.2 ⟨fun h => by have h : (v.size : Int) ≤ 400 := h; omega, fun h => by show (v.size : Int) ≤ 400; omega⟩
    rw [this]; exact hK
  · have e2 : ¬ (k.size : Int) ≤ 64 := e2
    rw [decide_eq_false (by omega)] at hK; exact hK
  · have e1 : ¬ (k.size : Int) ≥ 1 := e1
    rw [decide_eq_false (by omega)] at hK; exact hK
theorem same_spec {L M : List KV} {a b : Option Addr} {c d : Nat} (H : SliceAt h a (L.length * 2) (kvCells L)) (G : SliceAt h b (M.length * 2) (kvCells M)) (hL : L.length < 4294967296) (e : L = M) (hK : K (.bool true) h) :
    CallsH Tryz.prog ref08_Same.id #[.slice a L.length c, .slice b M.length d] h K := by
  subst e
  apply ref08_Same.calls
  unfold ref08_Same.W
  refine split_ne (fun e => absurd rfl e) fun _ => ⟨fun i x m => x = h ∧ ∃ j : Nat, i = (j : Int) ∧ j ≤ L.length ∧ m = L.length - j, ⟨_, rfl, 0, rfl, Nat.zero_le _, rfl⟩, ?_⟩
  rintro i x m ⟨rfl, j, rfl, hj, rfl⟩
  refine split_dec (fun g => ?_) fun _ => hK
  have g : ((j : Nat) : Int) < ((L.length : Nat) : Int) := g
  obtain ⟨p, hp⟩ : ∃ p, L[j]? = some p := ⟨_, List.getElem?_eq_getElem (by omega)⟩
  obtain ⟨b1, o1, e1, c1, c2⟩ := kv_cell H hp
  obtain ⟨b2, o2, e2, d1, d2⟩ := kv_cell G hp
  refine ⟨by omega, g, b1, o1, e1, _, by rw [Int.toNat_natCast]; exact c1, _, by rw [Int.toNat_natCast]; exact c2, by omega, g, b2, o2, e2, _, by rw [Int.toNat_natCast]; exact d1, _, by rw [Int.toNat_natCast]; exact d2, ?_⟩
  have hh : ∀ s : ByteArray, beqS s s = true := fun s => by rw [beqS_val]; exact decide_eq_true rfl
  rw [hh, hh]
  refine split_not (fun e => by cases e) fun _ => ⟨L.length - (j + 1), by omega, rfl, j + 1, by rw [wid (by omega) (by omega)]; omega, by omega, rfl⟩
theorem kvGetR_spec {L : List KV} {a : Option Addr} {c : Nat} (H : SliceAt h a (L.length * 2) (kvCells L)) (hL : L.length < 4294967296) (k : ByteArray) (hK : K (.tuple #[.string ((kvGet k L).getD eB), .bool (kvGet k L).isSome]) h) : CallsH Tryz.prog ref08_Get.id #[.slice a L.length c, .string k] h K := by
  apply ref08_Get.calls
  unfold ref08_Get.W
  refine kvFind_spec H hL k ⟨_, _, rfl, ?_⟩
  cases hi : kvIs k L with
  | false =>
    have : kvGet k L = none := by unfold kvGet; rw [hi]; rfl
    rw [this] at hK
    exact split_not (fun _ => hK) fun e => by cases e
  | true =>
    have hlt := kvAt_lt hi
    obtain ⟨p, hp⟩ : ∃ p, L[kvAt k L]? = some p := ⟨_, List.getElem?_eq_getElem hlt⟩
    have : kvGet k L = some p.2 := by unfold kvGet; rw [hi, hp]; rfl
    rw [this] at hK
    obtain ⟨b1, o1, e1, c1, c2⟩ := kv_cell H hp
    exact split_not (fun e => by cases e) fun _ => ⟨by omega, by show ((kvAt k L : Nat) : Int) < ((L.length : Nat) : Int); omega, b1, o1, e1, _, by rw [Int.toNat_natCast]; exact c2, hK⟩
theorem light_spec (a b c : Int) (x y z : ByteArray) (hF : K (.bool false) h) (hT : x.size ≤ 500 → y.size ≤ 500 → z.size ≤ 1000 → K (.bool true) h) : CallsH Tryz.prog law15_light.id #[.agg #[.int .i64 a, .int .i64 b, .int .i64 c, .string x, .string y, .string z]] h K := by
  apply law15_light.calls
  unfold law15_light.W
  refine split_dec (fun e1 => split_dec (fun e2 => ?_) fun _ => hF) fun _ => hF
  have e1 : (x.size : Int) ≤ 500 := e1
  have e2 : (y.size : Int) ≤ 500 := e2
  rw [hb_eq]
  by_cases e3 : Int.ofNat z.size ≤ 1000
  · rw [decide_eq_true e3]
    have e3 : (z.size : Int) ≤ 1000 := e3
    exact hT (by omega) (by omega) (by omega)
  · rw [decide_eq_false e3]; exact hF
theorem newPg_tree (n : Nat) (D : Dk) (k : Nat) : TreeS (newPg.pgs D n) (newPg.now.r k) 0 [] [] := ⟨rfl, rfl, rfl⟩
theorem root0 {hg : Nat} {L : List KV} {I : List Nat} (TT : TreeS (P.pgs D n) (P.now.r k) hg L I) : 0 ∉ I := fun h0 => by
  have := pgs_lt (D := D) (P := P) (TT.used 0 h0)
  omega
theorem TreeS.nil {pg : Nat → Option Nd} {root hg : Nat} {I : List Nat} (T : TreeS pg root hg [] I) : hg = 0 ∧ root = 0 ∧ I = [] := by
  cases hg with
  | zero => exact ⟨rfl, T.1, T.2.2⟩
  | succ m => exact absurd rfl T.2.2.2.2.2
set_option maxHeartbeats 2000000 in
theorem lives_spec (hK : ∀ h', Sub h h' → K (.bool true) h') : CallsH Tryz.prog law15_lives.id #[] h K := by
  apply law15_lives.calls
  unfold law15_lives.W
  refine opened_spec 4 (by decide) (by decide) fun h2 tb pb jb db S s2 E fr T n2 nt => ⟨_, _, _, rfl, ?_⟩
  have f0 : newPg.freeN 4 = 3 := by decide
  have m0 : may (bytesL [97]) (bytesL [120]) = true := by decide
  refine ⟨fun x => ∃ P1 hg1 I1, PgAt x pb jb db S 4 (Dk.new (8 * 4 + 1)) P1 ∧ Keep S h2 x ∧ TreeS (P1.pgs (Dk.new (8 * 4 + 1)) 4) (P1.now.r 1) hg1 (kvPut (bytesL [97]) (bytesL [120]) []) I1 ∧ MvT 4 (Dk.new (8 * 4 + 1)) 1 newPg P1 [] I1 ∧ I1.length = 1, ?_, split_cond (fun e => by cases e) fun _ => ?_⟩
  · rintro x ⟨P1, hg1, I1, E1, kp1, TT, M1, l1⟩
    have T1 : TrAt x tb pb 1 := Blk.keep T kp1 nt
    have kg : kvGet (bytesL [97]) (kvPut (bytesL [97]) (bytesL [120]) []) = some (bytesL [120]) := by decide
    have fr1 := M1.free
    refine get_spec E1 T1 (by decide) TT.tree _ fun h9 s9 => ⟨_, _, rfl, ?_⟩
    rw [kg]
    refine split_beqS (fun _ => split_cond (fun _ => ?_) fun e => by cases e) fun e => absurd rfl e
    have E9 := E1.sub s9
    have T9 : TrAt h9 tb pb 1 := Blk.sub T1 s9
    refine drop_spec E9 T9 nt (by decide) TT (fun t ht htk hi => ?_) _ (fun e => absurd e (by decide)) fun _ h13 P2 hg2 I2 E2 kp2 TT2 M2 fr2 => ⟨_, rfl, split_cond (fun _ => ?_) fun e => by cases e⟩
    · have : P1.now.r t = 0 := M1.roots t htk
      rw [this] at hi
      exact root0 TT hi
    · have e0 : kvDrop (bytesL [97]) (kvPut (bytesL [97]) (bytesL [120]) []) = [] := by decide
      rw [e0] at TT2
      obtain ⟨rfl, r0, rfl⟩ := TT2.nil
      have T2 : TrAt h13 tb pb 1 := Blk.keep T9 kp2 nt
      have fr3 := M2.free
      refine height_spec E2 T2 (by decide) TT2.tree (by decide) fun h16 s16 => ⟨_, rfl, split_eq (fun _ => free_spec (E2.sub s16) ⟨_, rfl, ?_⟩) fun e => absurd rfl e⟩
      have : P2.freeN 4 = 3 := by
        simp only [List.length_nil] at fr1 fr3
        omega
      have ev : hb (((3 : Nat) : Int) == 3) = true := by rw [hb_eq]; rfl
      rw [this, ev]
      refine hK _ ?_
      have k02 : Keep S h2 h16 := kp1.trans ((s9.keep S).trans (kp2.trans (s16.keep S)))
      exact k02.sub s2 fr
  · refine put_spec E T nt (by decide) (newPg_tree 4 _ 1) _ _ (fun e => absurd e (by decide)) (fun _ e => by omega) fun _ _ h22 P1 hg1 I1 E1 kp1 TT M1 l1 => ⟨_, rfl, split_ne (fun e => absurd rfl e) fun _ => ?_⟩
    have T1 : TrAt h22 tb pb 1 := Blk.keep T kp1 nt
    have hh := TT.high
    have h1 : 1 ≤ hg1 := by
      cases hg1 with
      | zero => exact absurd TT.2.1 (kvPut_ne _ _)
      | succ m => omega
    have l1 : I1.length ≤ 0 + 0 + 1 := l1
    have e1 : hg1 = 1 := by omega
    subst e1
    have fr1 := M1.free
    simp only [List.length_nil] at fr1
    refine height_spec E1 T1 (by decide) TT.tree (by decide) fun h25 s25 => ⟨_, rfl, split_ne (fun e => absurd rfl e) fun _ => free_spec (E1.sub s25) ⟨_, rfl, split_ne (fun e => absurd ?_ e) fun _ => ⟨P1, 1, I1, E1.sub s25, kp1.trans (s25.keep S), TT, M1, by omega⟩⟩⟩
    have : P1.freeN 4 = 2 := by omega
    rw [this]; rfl
theorem kvNx_le {key : ByteArray} {L : List KV} : (if kvIs key L then kvAt key L + 1 else kvAt key L) ≤ L.length := by
  have := kvAt_le key L
  split
  · rename_i e; have := kvAt_lt e; omega
  · omega
set_option maxHeartbeats 1000000 in
theorem beside_spec (E : PgAt h pb jb db S n D P) (T : TrAt h tb pb k) (hk : k < 4) {hg : Nat} {L : List KV} {I : List Nat} (TT : Tree (P.pgs D n) (P.now.r k) hg L I) {la : Option Addr} {lc : Nat} (H : SliceAt h la (L.length * 2) (kvCells L)) (hL : L.length < 4294967296) (key : ByteArray) (hkey : key.size ≤ 100000) (hK : ∀ h', Sub h h' → K (.bool true) h') :
    CallsH Tryz.prog law15_beside.id #[.pointer (some ⟨tb, 0, none⟩), .slice la L.length lc, .string key] h K := by
  have hs := (TT.small (pgs_ok E)).2
  have hat := kvAt_le key L
  apply law15_beside.calls
  unfold law15_beside.W
  refine kvFind_spec H hL key ⟨_, _, rfl, prev_spec E T hk TT key fun h6 s6 => ⟨_, _, _, rfl, fun x => Sub h x, ?_, ?_⟩⟩
  · intro x sx
    refine ⟨fun i y => i = ((if kvIs key L then kvAt key L + 1 else kvAt key L : Nat) : Int) ∧ y = x, ?_, ?_⟩
    · rintro i y ⟨rfl, rfl⟩
      refine next_spec (E.sub sx) (Blk.sub T sx) hk TT key hkey fun h16 s16 => ⟨_, _, _, rfl, ?_⟩
      rw [nextGt_at hs]
      have sxx := sx.trans s16
      have hnx := kvNx_le (key := key) (L := L)
      generalize (if kvIs key L then kvAt key L + 1 else kvAt key L) = j at hnx
      cases hj : L[j]? with
      | none =>
        have : L.length ≤ j := List.getElem?_eq_none_iff.1 hj
        have ed : hb (decide (((j : Nat) : Int) < Int.ofNat L.length)) = false := by
          rw [hb_eq]
          exact decide_eq_false fun h => by have h : ((j : Nat) : Int) < ((L.length : Nat) : Int) := h; omega
        rw [ed]
        have hh : ∀ s : ByteArray, beqS s s = true := fun s => by rw [beqS_val]; exact decide_eq_true rfl
        refine split_cond (fun _ => split_cond (fun e => by cases e) fun _ => split_not (fun _ => ?_) fun e => by cases e) fun e => by cases e
        show K (.bool (beqS eB eB && (beqS eB eB && true))) h16
        rw [hh]
        exact hK h16 sxx
      | some p =>
        have hlt := (List.getElem?_eq_some_iff.1 hj).1
        have ed : hb (decide (((j : Nat) : Int) < Int.ofNat L.length)) = true := by
          rw [hb_eq]
          exact decide_eq_true (by show ((j : Nat) : Int) < ((L.length : Nat) : Int); omega)
        rw [ed]
        obtain ⟨b1, o1, e1, c1, c2⟩ := kv_cell (H.sub sxx) hj
        have hh : ∀ s : ByteArray, beqS s s = true := fun s => by rw [beqS_val]; exact decide_eq_true rfl
        refine split_cond (fun _ => split_cond (fun _ => ⟨by omega, by show ((j : Nat) : Int) < ((L.length : Nat) : Int); omega, b1, o1, e1, _, by rw [Int.toNat_natCast]; exact c1, _, by rw [Int.toNat_natCast]; exact c2, ?_⟩) fun e => by cases e) fun e => by cases e
        show bif beqS p.1 p.1 && (beqS p.2 p.2 && true) then _ else _
        rw [hh, hh]
        exact hK h16 sxx
    · cases hi : kvIs key L with
      | true => exact ⟨by rw [wid (by omega) (by omega)]; show _ = ((kvAt key L + 1 : Nat) : Int); omega, rfl⟩
      | false => exact ⟨rfl, rfl⟩
  · rw [lastLt_at hs]
    by_cases e0 : kvAt key L = 0
    · rw [if_pos e0, e0]
      have ev : hb (decide (((0 : Nat) : Int) > 0)) = false := by rw [hb_eq]; rfl
      rw [ev]
      have hh : ∀ s : ByteArray, beqS s s = true := fun s => by rw [beqS_val]; exact decide_eq_true rfl
      refine split_cond (fun e => by cases e) fun _ => split_cond (fun e => by cases e) fun _ => split_not (fun _ => ?_) fun e => by cases e
      show bif !(beqS eB eB && (beqS eB eB && true)) then _ else _
      rw [hh]
      exact split_not (fun e => by cases e) fun _ => s6
    · rw [if_neg e0]
      obtain ⟨p, hp⟩ : ∃ p, L[kvAt key L - 1]? = some p := ⟨_, List.getElem?_eq_getElem (by omega)⟩
      rw [hp]
      have ed : hb (decide (((kvAt key L : Nat) : Int) > 0)) = true := by
        rw [hb_eq]; exact decide_eq_true (by omega)
      have e1 : IntKind.i64.wrap (((kvAt key L : Nat) : Int) - 1) = ((kvAt key L - 1 : Nat) : Int) := by rw [wid (by omega) (by omega)]; omega
      rw [ed, e1]
      obtain ⟨b1, o1, e2, c1, c2⟩ := kv_cell (H.sub s6) hp
      have hh : ∀ s : ByteArray, beqS s s = true := fun s => by rw [beqS_val]; exact decide_eq_true rfl
      refine split_cond (fun e => by cases e) fun _ => split_cond (fun _ => ⟨by omega, by show ((kvAt key L - 1 : Nat) : Int) < ((L.length : Nat) : Int); omega, b1, o1, e2, _, by rw [Int.toNat_natCast]; exact c1, _, by rw [Int.toNat_natCast]; exact c2, ?_⟩) fun e => by cases e
      show bif !(beqS p.1 p.1 && (beqS p.2 p.2 && true)) then _ else _
      rw [hh, hh]
      exact split_not (fun e => by cases e) fun _ => s6
end Go.Proofs.YthbogjbcecmopaaGreatDoor
