/- A key taken away below a page. Conditions: the pager stands, the tree is right, no page below is another root. Drop, Clear. Conditions: the pager stands, the tree is right, no page of it is another root. What the plain list's functions make of entries in a list. Conditions: the entries lie in memory as they are named; fewer than 2^32 of them. The law's own functions: what may be, the same entries, the example, those beside a key. Conditions: those that each contract names. What a commit leaves of the pages; a value; a put and what the map says of it; the entries from a key to another one. Conditions: those that each contract names. The core of BtreePlays. Conditions: the operations lie in a row. Operations, and numbers, in a row (for the seat that has no Plays). Conditions: none. -/
import Derived.Test.YthbogjbcecmopaaDoorPd05
import Derived.KernelRfl
namespace Go.Proofs.YthbogjbcecmopaaDoor
open Go.Gx
set_option maxRecDepth 100000
set_option linter.unusedVariables false
variable {n : Nat} {D : Dk} {P P' : Pg} {h : Hp} {K : Value → Hp → Prop} {pb jb db : Nat} {S : Nat → Prop} {tb k : Nat}
theorem eszs_sub {lf : Bool} {l l' : List En} (s : l'.Sublist l) : eszs lf l' ≤ eszs lf l := by
  induction s with
  | slnil => exact Nat.le_refl _
  | cons a s ih => rw [eszs_cons]; omega
  | cons_cons a s ih => rw [eszs_cons, eszs_cons]; omega
theorem NdOk.sub {lf : Bool} {fi : Nat} {l l' : List En} (o : NdOk ⟨lf, fi, l⟩) (s : l'.Sublist l) : NdOk ⟨lf, fi, l'⟩ := by
  refine ⟨fun e he => o.en e (s.subset he), o.first, ?_, o.z⟩
  have h1 := o.size
  have h2 := eszs_sub (lf := lf) s
  unfold Nd.size at h1 ⊢
  have h1 : Nd.base lf + eszs lf l ≤ 1024 := h1
  show Nd.base lf + eszs lf l' ≤ 1024
  omega
structure DrpN (n : Nat) (D : Dk) (P P' : Pg) (m id : Nat) (f t : ByteArray) (L : List KV) (I : List Nat) : Prop where
  tr : TrS (P'.pgs D n) m id f t
  es : ents (P'.pgs D n) m id = L
  nd : (ids (P'.pgs D n) m id).Nodup
  mv : Mv n D P P' I (ids (P'.pgs D n) m id)
  fr : P.freeN n ≤ P'.freeN n
def RmJ (pb jb db : Nat) (S : Nat → Prop) (n : Nat) (D : Dk) (P : Pg) (m : Nat) (lf : Bool) (fi : Nat) (f t : ByteArray) (l1 l2 : List En) (X : List (List KV)) (R : List KV) (I : List Nat) (h : Hp) (k' : Nat) (b : Bool) (x : Hp) : Prop :=
  ∃ P2 a2 c2 l3 z Y, PgAt x pb jb db S n D P2 ∧ Keep S h x ∧ NdVw x k' a2 c2 ⟨lf, fi, l1 ++ l3⟩ ∧ (∀ b, blkOf a2 b → ¬ S b) ∧ l3.Sublist l2 ∧ Fw (P2.pgs D n) (m + 1) ⟨lf, fi, l1 ++ l3⟩ f t ∧ (idsN (P2.pgs D n) (m + 1) ⟨lf, fi, l1 ++ l3⟩).Nodup ∧ entsK (P2.pgs D n) m (Nd.cl ⟨lf, fi, l1 ++ l3⟩ f) = X ++ z :: Y ∧ NA (z :: Y) ∧ (z :: Y).flatten = R ∧
    Mv n D P P2 I (idsN (P2.pgs D n) (m + 1) ⟨lf, fi, l1 ++ l3⟩) ∧ P.freeN n ≤ P2.freeN n ∧ (b = false → l3 = l2)
def RmF (pb jb db : Nat) (S : Nat → Prop) (n : Nat) (D : Dk) (P : Pg) (m : Nat) (nd : Nd) (f t : ByteArray) (L : List KV) (I : List Nat) (h : Hp) (k' : Nat) (b : Bool) (x : Hp) : Prop :=
  ∃ P3 a3 c3 nd3, PgAt x pb jb db S n D P3 ∧ Keep S h x ∧ NdEx x k' a3 c3 nd3 ∧ NdOk nd3 ∧ Fw (P3.pgs D n) (m + 1) nd3 f t ∧ Fn (P3.pgs D n) (m + 1) nd3 ∧ (idsN (P3.pgs D n) (m + 1) nd3).Nodup ∧ entsN (P3.pgs D n) (m + 1) nd3 = L ∧ Mv n D P P3 I (idsN (P3.pgs D n) (m + 1) nd3) ∧ P.freeN n ≤ P3.freeN n ∧ (b = false → nd3 = nd)
set_option maxHeartbeats 4000000 in
theorem before_spec (nt : ¬ S tb) {m : Nat} {lf : Bool} {fi : Nat} {f t : ByteArray} {l1 l2 : List En} {X : List (List KV)} {R : List KV} {I : List Nat} {k' : Nat} {b : Bool} {x : Hp} (hl1 : l1.length < 65536) (T : TrAt h tb pb k) (k0 : h k' = none) (nk : ¬ S k') (ok : NdOk ⟨lf, fi, l1 ++ l2⟩) (EP : POk n P) (nr : ∀ t, t < 4 → P.now.r t ∉ I) (hX : NA X) (lX : X.length = l1.length) (J : RmJ pb jb db S n D P m lf fi f t l1 l2 X R I h k' b x)
    (hK : ∀ b' y, RmF pb jb db S n D P m ⟨lf, fi, l1 ++ l2⟩ f t (X.flatten ++ R) I h k' (b || b') y → K (.bool b') y) : CallsH Tryd.prog btree_Tree_join.id #[.pointer (some ⟨tb, 0, none⟩), .pointer (some ⟨k', 0, none⟩), .int .i64 ((l1.length : Nat) - 2 : Int)] x K := by
  obtain ⟨P2, a2, c2, l3, z, Y, E2, kp2, N2, n2, sl, W2, nN2, e2, hz, hR, M2, fr2, hb⟩ := J
  have ok3 : NdOk ⟨lf, fi, l1 ++ l3⟩ := ok.sub (List.Sublist.append_left sl _)
  have ll := ok3.len
  have ll : 4 * (l1 ++ l3).length ≤ 1024 := ll
  rw [List.length_append] at ll
  have fin : NA (X ++ z :: Y) → ∀ {y : Hp}, Sub x y → RmF pb jb db S n D P m ⟨lf, fi, l1 ++ l2⟩ f t (X.flatten ++ R) I h k' (b || false) y := fun hn y sy => by
    refine ⟨P2, a2, c2, _, E2.sub sy, kp2.trans (sy.keep S), N2.ex.sub sy, ok3, W2, ?_, nN2, ?_, M2, fr2, fun e => ?_⟩
    · show NA (entsK (P2.pgs D n) m (Nd.cl ⟨lf, fi, l1 ++ l3⟩ f))
      rw [e2]; exact hn
    · show (entsK (P2.pgs D n) m (Nd.cl ⟨lf, fi, l1 ++ l3⟩ f)).flatten = _
      rw [e2, List.flatten_append, hR]
    · rw [Bool.or_false] at e
      rw [hb e]
  rcases List.eq_nil_or_concat l1 with rfl | ⟨l0, e0, rfl⟩
  · have : X = [] := List.length_eq_zero_iff.1 lX
    subst this
    exact join_out N2.ex (by show l3.length < _; have : ([] : List En).length = 0 := rfl; omega) _ (.inl (by decide)) (hK false x (fin hz (Sub.refl x)))
  · rw [List.concat_eq_append] at *
    obtain ⟨K0, c0, q1, q2, q3, q4⟩ := cl_split lf fi l0 f
    have es : ∀ l, l0 ++ [e0] ++ l = l0 ++ e0 :: l := fun l => by rw [List.append_assoc]; rfl
    have hln : (l0 ++ [e0]).length = l0.length + 1 := by rw [List.length_append]; rfl
    have ei : (((l0 ++ [e0]).length : Nat) : Int) - 2 = ((l0.length : Nat) : Int) - 1 := by rw [hln]; omega
    rw [ei]
    have nr2 := M2.nonroot EP nr
    rw [es] at N2 ok3 W2 nN2 e2 M2 nr2
    -- the parts of the cells
    have e3 : entsK (P2.pgs D n) m (K0 ++ [c0]) ++ ents (P2.pgs D n) m e0.kid :: entsK (P2.pgs D n) m (l3.map clE) = X ++ z :: Y := by
      rw [← e2, q1, entsK_append, entsK_append, List.append_assoc]; rfl
    obtain ⟨x1, x2⟩ := List.append_inj e3 (by unfold entsK; rw [List.length_map, List.length_append, q2, lX, hln]; rfl)
    obtain ⟨x3, x4⟩ := List.cons.inj x2
    rw [entsK_append] at x1
    have x1 : entsK (P2.pgs D n) m K0 ++ [ents (P2.pgs D n) m c0.2] = X := x1
    rw [← x1] at hX
    refine join_spec nt m E2 (Blk.keep T kp2 nt) N2 nk n2 ok3 W2 nN2 nr2 q1 q3 (fun y sy hne => hK false y ?_) fun y P3 a3 c3 E3 kp3 N3 nb3 R3 => hK true y ?_
    · refine fin ?_ sy
      rw [← x1, List.append_assoc]
      exact NA_cat hX hz (by rw [← x3]; exact hne)
    · obtain ⟨r1, r2, r3, r4⟩ := join_up q1 W2 nN2 R3
      rw [x3, x4] at r2
      refine ⟨P3, a3, c3, _, E3, (fun c o hc hs => kp3 c o (kp2 c o hc hs) fun h' => h'.elim hs fun e => by rw [e, k0] at hc; cases hc), N3.ex, ok3.sub (List.Sublist.append_left (List.sublist_cons_self _ _) _), r1, ?_, r3, ?_, M2.trans r4, Nat.le_trans fr2 R3.fr, fun e => by rw [Bool.or_true] at e; cases e⟩
      · show NA (entsK (P3.pgs D n) m (Nd.cl ⟨lf, fi, l0 ++ l3⟩ f))
        rw [r2]
        exact NA_join hX hz
      · show (entsK (P3.pgs D n) m (Nd.cl ⟨lf, fi, l0 ++ l3⟩ f)).flatten = _
        rw [r2, ← x1, ← hR]
        simp only [List.flatten_append, List.flatten_cons, List.flatten_nil, List.append_assoc, List.append_nil]
set_option maxHeartbeats 8000000 in
theorem remove_spec (nt : ¬ S tb) {key : ByteArray} (m : Nat) : ∀ {h : Hp} {K : Value → Hp → Prop} {P : Pg} {id : Nat} {f t : ByteArray}, PgAt h pb jb db S n D P → TrAt h tb pb k → TrS (P.pgs D n) m id f t → (ids (P.pgs D n) m id).Nodup → blt key f = false → below t key → (∀ i ∈ ids (P.pgs D n) m id, i ≠ id → ∀ t, t < 4 → P.now.r t ≠ i) →
    (∀ h', Sub h h' → kvIs key (ents (P.pgs D n) m id) = false → K (.bool false) h') →
    (∀ h' P', PgAt h' pb jb db S n D P' → Keep S h h' → kvIs key (ents (P.pgs D n) m id) = true → DrpN n D P P' m id f t (kvDrop key (ents (P.pgs D n) m id)) (ids (P.pgs D n) m id) → K (.bool true) h') →
    CallsH Tryd.prog btree_Tree_remove.id #[.pointer (some ⟨tb, 0, none⟩), .int .i64 (id : Nat), .string key] h K := by
  induction m using Nat.strongRecOn with
  | ind m ih =>
  intro h K P id f t E T TT nI hf ht nr hF hT
  have hn := E.n2
  have hpk := pgs_ok E
  obtain ⟨nd, pn, W, F⟩ := TrS_iff.1 TT
  have ok := hpk id nd pn
  have ll := ok.len
  have hw : P.why n (id : Nat) = 0 := pgs_why (by rw [pn]; rfl)
  rw [ids_N pn] at nI hT nr
  rw [ents_N pn] at hF hT
  obtain ⟨hid, nN⟩ := List.nodup_cons.1 nI
  have nr' : ∀ t, t < 4 → P.now.r t ∉ idsN (P.pgs D n) m nd := fun t ht hi => nr _ (List.mem_cons_of_mem _ hi) (fun e => hid (e ▸ hi)) t ht rfl
  apply btree_Tree_remove.calls
  unfold btree_Tree_remove.W
  refine load_spec E T _ (fun e => by rw [show P.pgs D n id = none from e] at pn; cases pn) fun nd' e h2 k' N2 => ?_
  have e : nd' = nd := Option.some.inj ((show P.pgs D n id = some nd' from e).symm.trans pn)
  subst e
  refine ⟨_, _, rfl, split_ne (fun e => absurd rfl e) fun _ => ?_⟩
  obtain ⟨a, c, No, fra⟩ := N2.ow
  have k0 := N2.k0
  have s2 := N2.sub
  have nk : ¬ S k' := S_out E k0
  have na : ∀ b, blkOf a b → ¬ S b := fun b hb => S_out E (fra b hb)
  have srt : kvSorted nd'.kv := by
    cases m with
    | zero => exact (keysOk_iff.1 W.2).2
    | succ m => exact (keysOk_iff.1 W.2.1.1).2
  have kd : ((nd'.kind : Nat) : Int) = if nd'.leaf = true then 1 else 2 := by unfold Nd.kind; split <;> rfl
  refine ⟨k', 0, rfl, _, No.ex.c0, ?_⟩
  rw [kd]
  cases m with
  | zero =>
    have hlf : nd'.leaf = true := W.1
    rw [if_pos hlf]
    refine split_eq (fun _ => place_spec No.ex srt (by omega) key fun h3 s3 => ⟨_, rfl, ?_⟩) fun e => absurd rfl e
    have s23 := s2.trans s3
    have N3 := No.vw.sub s3
    have hat := kvAt_le key nd'.kv
    rw [nd'.kv_len] at hat
    have le3 := N3.vw.le
    refine ⟨k', 0, rfl, _, _, _, N3.ex.c2, split_eq (fun g => hF h3 s23 ?_) fun g => ?_⟩
    · have g : ((kvAt key nd'.kv : Nat) : Int) = ((nd'.l.length : Nat) : Int) := g
      show kvIs key nd'.kv = false
      unfold kvIs
      rw [List.getElem?_eq_none (by rw [nd'.kv_len]; omega)]
    · have g : ¬ ((kvAt key nd'.kv : Nat) : Int) = ((nd'.l.length : Nat) : Int) := g
      have he : nd'.l[kvAt key nd'.kv]? = some (nd'.l[kvAt key nd'.kv]'(by omega)) := List.getElem?_eq_getElem (by omega)
      generalize nd'.l[kvAt key nd'.kv]'(by omega) = en at he
      obtain ⟨b, o, ea, g0, g1, g2⟩ := N3.ex.get he
      refine ⟨k', 0, rfl, _, _, _, N3.ex.c2, by omega, by show ((kvAt key nd'.kv : Nat) : Int) < ((nd'.l.length : Nat) : Int); omega, b, o, ea, _, by rw [Int.toNat_natCast]; exact g0, ?_⟩
      rw [beqS_val]
      refine split_not (fun ek => hF h3 s23 ?_) fun ek => ?_
      · show kvIs key nd'.kv = false
        unfold kvIs
        rw [Nd.kv_get he]; exact ek
      · have hi : kvIs key nd'.kv = true := by
          unfold kvIs
          rw [Nd.kv_get he]; exact ek
        have e1 : IntKind.i64.wrap (((kvAt key nd'.kv : Nat) : Int) + 1) = ((kvAt key nd'.kv + 1 : Nat) : Int) := by rw [wid (by omega) (by omega)]; omega
        rw [e1, Int.toNat_natCast, Int.toNat_natCast]
        have rs := N3.rest (q := kvAt key nd'.kv + 1) (by omega) (Sub.refl _)
        have ld : (nd'.l.drop (kvAt key nd'.kv + 1)).length = nd'.l.length - (kvAt key nd'.kv + 1) := List.length_drop
        have drp : nd'.l.take (kvAt key nd'.kv) ++ nd'.l.drop (kvAt key nd'.kv + 1) = dropL key nd'.l := rfl
        unfold RowAt at rs
        rw [ld] at rs
        refine ⟨k', 0, rfl, _, _, _, N3.ex.c2, by omega, by show ((kvAt key nd'.kv : Nat) : Int) ≤ ((c : Nat) : Int); omega, by omega, Int.le_refl _, k', 0, rfl, _, _, _, N3.ex.c2, by omega, by show ((kvAt key nd'.kv + 1 : Nat) : Int) ≤ ((nd'.l.length : Nat) : Int); omega, _, rs, fun a' c' x' => Sub h3 x' ∧ VwR enC 3 x' 77 a' c' (dropL key nd'.l) ∧ ∀ b, blkOf a' b → blkOf a b ∨ h3 b = none, ?_, ?_⟩
        · rintro a9 c9 x9 ⟨s9, V9, nb9⟩
          obtain ⟨r1, r2, r3⟩ := N3.set (n := kvAt key nd'.kv + (nd'.l.length - (kvAt key nd'.kv + 1))) s9 V9 (by rw [← drp, List.length_append, List.length_take, ld]; omega) nb9
          have kp : Keep S h (x9.put k' 2 [.slice a9 (kvAt key nd'.kv + (nd'.l.length - (kvAt key nd'.kv + 1))) c9]) := fun c o hc hs => r3 c o (s23 c o hc) fun e => by rw [e, k0] at hc; cases hc
          have E9 := (E.sub s23).out r3 fun c hc e => nk (e ▸ hc)
          have o9 : NdOk ⟨nd'.leaf, nd'.first, dropL key nd'.l⟩ := by
            refine ⟨fun e he => ok.en e (dropL_mem he), ok.first, ?_, ok.z⟩
            have h1 := ok.size
            have h2 := dropL_size nd'.leaf key nd'.l
            unfold Nd.size at h1 ⊢
            show Nd.base nd'.leaf + eszs nd'.leaf (dropL key nd'.l) ≤ 1024
            omega
          refine ⟨k', 0, rfl, r1, store_spec E9 (Blk.keep T kp nt) r2.ex o9 hw fun h4 E4 k4 => ⟨rfl, hT h4 _ E4 (kp.trans k4) hi ?_⟩⟩
          have W9 : Fw (P.pgs D n) 0 ⟨nd'.leaf, nd'.first, dropL key nd'.l⟩ f t := ⟨hlf, dropL_ok W.2 hi⟩
          obtain ⟨g1, g2, g3, g4, g5⟩ := store_law W9 trivial o9 hw hid nN
          exact ⟨g1, g2.trans (dropL_kv hi), by rw [g3]; exact g4, by rw [g3]; exact g5, Nat.le_refl _⟩
        · rw [slA_zero]
          refine append_cap appTEn enC_len enC_plain (i := kvAt key nd'.kv) (L := nd'.l) N3.vw (by omega) ld.symm rfl (by rw [ld]; omega) fun a' c' h' s V nb _ => ⟨s, V, nb⟩
  | succ m =>
    have hlf : nd'.leaf = false := W.1
    rw [if_neg (by rw [hlf]; decide)]
    obtain ⟨l1, l2, K1, c', A⟩ := kid_at' hpk W hf ht
    have hbe := A.be
    have hkid := A.kid
    have hl := A.l
    rw [hbe] at hkid
    have nsub : (ids (P.pgs D n) m c'.2).Nodup := by
      have := nN
      rw [A.is, idsK_append, idsK_append, idsK_one] at this
      exact (List.nodup_append.1 (List.nodup_append.1 this).1).2.1
    have apart : ∀ {P1 : Pg} {I'}, Mv n D P P1 (idsN (P.pgs D n) (m + 1) nd') I' → P1.pgs D n id = some nd' ∧ id ∉ I' := fun M => by
      have ap := M.apart (R := [id]) fun i hi => by rw [List.mem_singleton.1 hi]; exact ⟨by rw [pn]; rfl, hid⟩
      exact ⟨(ap.1 id List.mem_cons_self).trans pn, ap.2 id List.mem_cons_self⟩
    have lift : ∀ {P1 : Pg} {I'}, Mv n D P P1 (idsN (P.pgs D n) (m + 1) nd') I' → Mv n D P P1 (id :: idsN (P.pgs D n) (m + 1) nd') (id :: I') := fun M =>
      M.lift (fun i hi => List.mem_cons_of_mem _ hi) (fun i hi => (List.mem_cons.1 hi).elim (fun e => .inr (e ▸ List.mem_cons_self)) .inl) (by simp only [List.length_cons]; omega)
    have naA := A.na F
    have isA : kvIs key (entsN (P.pgs D n) (m + 1) nd') = kvIs key (ents (P.pgs D n) m c'.2) := by rw [A.es, kvIs_right _ A.lt, kvIs_left _ A.gt]
    have esA : (entsK (P.pgs D n) m K1).flatten ++ (kvDrop key (ents (P.pgs D n) m c'.2) ++ (entsK (P.pgs D n) m (l2.map clE)).flatten) = kvDrop key (entsN (P.pgs D n) (m + 1) nd') := by
      rw [A.es, kvDrop_right _ A.lt, kvDrop_left _ A.gt]
    have hnd : nd' = ⟨nd'.leaf, nd'.first, l1 ++ l2⟩ := by rw [← hl]
    have hlen : nd'.l.length = l1.length + l2.length := by rw [hl, List.length_append]
    have kids : ∀ l, (Nd.kids ⟨nd'.leaf, nd'.first, l1 ++ l⟩)[l1.length]? = some c'.2 := fun l => by
      rw [Nd.kids_cl _ f, A.cls, List.map_append, List.getElem?_append_right (by rw [List.length_map, A.len]; exact Nat.le_refl _), List.length_map, A.len, Nat.sub_self]; rfl
    refine split_eq (fun e => by cases e) fun _ => below_spec No.ex srt (by omega) key fun h3 s3 => ⟨_, rfl, kid_spec (No.ex.sub s3) hkid ⟨_, rfl, ?_⟩⟩
    have s23 := s2.trans s3
    refine ih m (by omega) (E.sub s23) (Blk.sub T s23) A.tr nsub A.lo A.hi (fun i hi _ t' ht' e => nr' t' ht' (by rw [e]; exact A.kid_sub i hi)) (fun h4 s4 hi => ⟨_, rfl, split_not (fun _ => hF h4 (s23.trans s4) (by rw [isA]; exact hi)) fun e => by cases e⟩) fun h4 P1 E4 k4 hi R => ⟨_, rfl, split_not (fun e => by cases e) fun _ => ?_⟩
    have hi' : kvIs key (entsN (P.pgs D n) (m + 1) nd') = true := by rw [isA]; exact hi
    obtain ⟨W1, e1, n1, M1, len1⟩ := A.one W nN R.tr R.mv R.nd
    have N4 := (No.vw.sub s3).keep k4 nk na
    have k04 : Keep S h h4 := (s23.keep S).trans k4
    have nr1 := M1.nonroot E.ok nr'
    have ei : ((kvBe key nd'.kv : Nat) : Int) - 1 = ((l1.length : Nat) : Int) - 1 := by rw [hbe]
    have ei2 : IntKind.i64.wrap (((l1.length : Nat) : Int) - 1 - 1) = ((l1.length : Nat) : Int) - 2 := by rw [wid (by omega) (by omega)]; omega
    rw [ei, ei2]
    rw [R.es] at e1
    -- behind both joins
    have last : ∀ b1 b2 y, RmF pb jb db S n D P m ⟨nd'.leaf, nd'.first, l1 ++ l2⟩ f t ((entsK (P.pgs D n) m K1).flatten ++ (kvDrop key (ents (P.pgs D n) m c'.2) ++ (entsK (P.pgs D n) m (l2.map clE)).flatten)) (idsN (P.pgs D n) (m + 1) nd') h k' (b1 || b2) y →
        bif b1 then CallsH Tryd.prog btree_Tree_store.id #[.pointer (some ⟨tb, 0, none⟩), .int .i64 (id : Nat), .pointer (some ⟨k', 0, none⟩)] y fun v h' => v = .tuple #[] ∧ K (.bool true) h'
        else bif b2 then CallsH Tryd.prog btree_Tree_store.id #[.pointer (some ⟨tb, 0, none⟩), .int .i64 (id : Nat), .pointer (some ⟨k', 0, none⟩)] y fun v h' => v = .tuple #[] ∧ K (.bool true) h'
        else K (.bool true) y := by
      rintro b1 b2 y ⟨P3, a3, c3, nd3, E3, kp3, N3, o3, W3, F3, n3, e3, M3, fr3, hb⟩
      rw [esA] at e3
      obtain ⟨pid, hid3⟩ := apart M3
      have hw3 : P3.why n (id : Nat) = 0 := pgs_why (by rw [pid]; rfl)
      have sto : CallsH Tryd.prog btree_Tree_store.id #[.pointer (some ⟨tb, 0, none⟩), .int .i64 (id : Nat), .pointer (some ⟨k', 0, none⟩)] y fun v h' => v = .tuple #[] ∧ K (.bool true) h' := by
        refine store_spec E3 (Blk.keep T kp3 nt) N3 o3 hw3 fun h5 E5 k5 => ⟨rfl, hT h5 _ E5 (kp3.trans k5) hi' ?_⟩
        obtain ⟨g1, g2, g3, g4, g5⟩ := store_law W3 F3 o3 hw3 hid3 n3
        exact ⟨g1, g2.trans e3, by rw [g3]; exact g4, by rw [g3]; exact (lift M3).trans g5, fr3⟩
      cases b1 with
      | true => exact sto
      | false =>
        cases b2 with
        | true => exact sto
        | false =>
          have : nd3 = nd' := (hb rfl).trans hnd.symm
          subst this
          refine hT y P3 E3 kp3 hi' ⟨TrS_iff.2 ⟨_, pid, W3, F3⟩, (ents_N pid).trans e3, ?_, ?_, fr3⟩
          · rw [ids_N pid]; exact List.nodup_cons.2 ⟨hid3, n3⟩
          · rw [ids_N pid]; exact lift M3
    have mid : ∀ b1 x, RmJ pb jb db S n D P m nd'.leaf nd'.first f t l1 l2 (entsK (P.pgs D n) m K1) (kvDrop key (ents (P.pgs D n) m c'.2) ++ (entsK (P.pgs D n) m (l2.map clE)).flatten) (idsN (P.pgs D n) (m + 1) nd') h k' b1 x →
        ∃ b54, Value.bool b1 = .bool b54 ∧ CallsH Tryd.prog btree_Tree_join.id #[.pointer (some ⟨tb, 0, none⟩), .pointer (some ⟨k', 0, none⟩), .int .i64 ((l1.length : Nat) - 2 : Int)] x fun v h56 => ∃ b57, v = .bool b57 ∧
          bif b54 then CallsH Tryd.prog btree_Tree_store.id #[.pointer (some ⟨tb, 0, none⟩), .int .i64 (id : Nat), .pointer (some ⟨k', 0, none⟩)] h56 fun v h' => v = .tuple #[] ∧ K (.bool true) h'
          else bif b57 then CallsH Tryd.prog btree_Tree_store.id #[.pointer (some ⟨tb, 0, none⟩), .int .i64 (id : Nat), .pointer (some ⟨k', 0, none⟩)] h56 fun v h' => v = .tuple #[] ∧ K (.bool true) h'
          else K (.bool true) h56 := fun b1 x J =>
      ⟨b1, rfl, before_spec nt (by omega) T k0 nk (by rw [← hnd]; exact ok) E.ok nr' (NA_left naA) (by unfold entsK; rw [List.length_map, A.len]) J fun b2 y F => ⟨b2, rfl, last b1 b2 y F⟩⟩
    have W1' : Fw (P1.pgs D n) (m + 1) ⟨nd'.leaf, nd'.first, l1 ++ l2⟩ f t := by rw [← hnd]; exact W1
    have n1' : (idsN (P1.pgs D n) (m + 1) ⟨nd'.leaf, nd'.first, l1 ++ l2⟩).Nodup := by rw [← hnd]; exact n1
    have e1' : entsK (P1.pgs D n) m (Nd.cl ⟨nd'.leaf, nd'.first, l1 ++ l2⟩ f) = entsK (P.pgs D n) m K1 ++ kvDrop key (ents (P.pgs D n) m c'.2) :: entsK (P.pgs D n) m (l2.map clE) := by rw [← hnd]; exact e1
    have M1' : Mv n D P P1 (idsN (P.pgs D n) (m + 1) nd') (idsN (P1.pgs D n) (m + 1) ⟨nd'.leaf, nd'.first, l1 ++ l2⟩) := by rw [← hnd]; exact M1
    have N4' : NdVw h4 k' a c ⟨nd'.leaf, nd'.first, l1 ++ l2⟩ := by rw [← hnd]; exact N4
    have naY := NA_tail (NA_right naA)
    cases l2 with
    | nil =>
      refine join_out N4.ex (by omega) _ (.inr ⟨by rw [hlen]; show ((l1.length : Nat) : Int) - 1 + 1 ≥ ((l1.length + 0 : Nat) : Int); omega, by omega⟩) (mid false h4 ?_)
      exact ⟨P1, a, c, [], _, _, E4, k04, N4', na, List.Sublist.refl _, W1', n1', e1', trivial, rfl, M1', R.fr, fun _ => rfl⟩
    | cons e l2 =>
      have eY : entsK (P.pgs D n) m ((e :: l2).map clE) = ents (P.pgs D n) m e.kid :: entsK (P.pgs D n) m (l2.map clE) := rfl
      rw [eY] at e1' naY
      have e1c : entsK (P1.pgs D n) m (Nd.cl ⟨nd'.leaf, nd'.first, l1 ++ e :: l2⟩ f) = entsK (P1.pgs D n) m K1 ++ ents (P1.pgs D n) m c'.2 :: ents (P1.pgs D n) m e.kid :: entsK (P1.pgs D n) m (l2.map clE) := by
        rw [A.cls, entsK_append]; rfl
      obtain ⟨x1, x2⟩ := List.append_inj (e1c.symm.trans e1') (by unfold entsK; rw [List.length_map, List.length_map])
      obtain ⟨x3, x4⟩ := List.cons.inj x2
      obtain ⟨x5, x6⟩ := List.cons.inj x4
      refine join_spec nt m E4 (Blk.keep T k04 nt) N4' nk na (by rw [← hnd]; exact ok) W1' n1' (by rw [← hnd]; exact nr1) A.cls kids (fun y sy hne => mid false y ?_) fun y P2 a2 c2 E2 kp2 N2 nb2 R2 => mid true y ?_
      · rw [x3, x5] at hne
        exact ⟨P1, a, c, e :: l2, _, _, E4.sub sy, k04.trans (sy.keep S), N4'.sub sy, na, List.Sublist.refl _, W1', n1', e1', ⟨hne, naY⟩, rfl, M1', R.fr, fun _ => rfl⟩
      · obtain ⟨r1, r2, r3, r4⟩ := join_up A.cls W1' n1' R2
        rw [x1, x3, x5, x6] at r2
        refine ⟨P2, a2, c2, l2, _, _, E2, (fun c o hc hs => kp2 c o (k04 c o hc hs) fun h' => h'.elim hs fun e => by rw [e, k0] at hc; cases hc), N2, nb2, List.sublist_cons_self _ _, r1, r3, r2, NA_join1 naY, ?_, M1'.trans r4, Nat.le_trans R.fr R2.fr, fun e => by cases e⟩
        rw [eY]
        simp only [List.flatten_cons, List.append_assoc]
end Go.Proofs.YthbogjbcecmopaaDoor
namespace Go.Proofs.YthbogjbcecmopaaDoor
open Go.Gx
set_option maxRecDepth 100000
set_option linter.unusedVariables false
variable {n : Nat} {D : Dk} {P P' : Pg} {h : Hp} {K : Value → Hp → Prop} {pb jb db : Nat} {S : Nat → Prop} {tb k : Nat}
def DrJ (pb jb db : Nat) (S : Nat → Prop) (n : Nat) (D : Dk) (k : Nat) (P : Pg) (L : List KV) (I : List Nat) (h x : Hp) (m : Nat) : Prop :=
  ∃ P1, PgAt x pb jb db S n D P1 ∧ Keep S h x ∧ P1.now.r k ≠ 0 ∧ TrS (P1.pgs D n) m (P1.now.r k) eB eB ∧ ents (P1.pgs D n) m (P1.now.r k) = L ∧ (ids (P1.pgs D n) m (P1.now.r k)).Nodup ∧ MvT n D k P P1 I (ids (P1.pgs D n) m (P1.now.r k)) ∧ P.freeN n ≤ P1.freeN n ∧ ∀ t, t < 4 → t ≠ k → P1.now.r t ∉ ids (P1.pgs D n) m (P1.now.r k)
theorem nonroot_t (E : POk n P) {I I' : List Nat} (M : MvT n D k P P' I I') (hr : ∀ t, t < 4 → t ≠ k → P.now.r t ∉ I) : ∀ t, t < 4 → t ≠ k → P'.now.r t ∉ I' := fun t ht hk hi => by
  rw [M.roots t hk] at hi
  rcases M.new _ hi with h | h
  · exact hr t ht hk h
  · by_cases e : P.now.r t = 0
    · rw [e, E.now.zero] at h; cases h
    · rw [(E.now.roots t ht).2 e] at h; cases h
set_option maxHeartbeats 4000000 in
theorem drop_spec (E : PgAt h pb jb db S n D P) (T : TrAt h tb pb k) (nt : ¬ S tb) (hk : k < 4) {hg : Nat} {L : List KV} {I : List Nat} (TT : TreeS (P.pgs D n) (P.now.r k) hg L I) (nr : ∀ t, t < 4 → t ≠ k → P.now.r t ∉ I) (key : ByteArray) (hF : kvIs key L = false → ∀ h', Sub h h' → K (.bool false) h')
    (hT : kvIs key L = true → ∀ h' P' hg' I', PgAt h' pb jb db S n D P' → Keep S h h' → TreeS (P'.pgs D n) (P'.now.r k) hg' (kvDrop key L) I' → MvT n D k P P' I I' → P.freeN n ≤ P'.freeN n → K (.bool true) h') :
    CallsH Tryd.prog btree_Tree_Drop.id #[.pointer (some ⟨tb, 0, none⟩), .string key] h K := by
  have hn := E.n2
  apply btree_Tree_Drop.calls
  unfold btree_Tree_Drop.W
  refine ⟨fun x => kvIs key L = true ∧ ∃ m, DrJ pb jb db S n D k P (kvDrop key L) I h x m, ?_, _, T.cell' 0 rfl, _, T.cell' 1 rfl, root_spec E hk ⟨_, rfl, Sub.refl _, split_eq (fun e0 => hF ?_ h (Sub.refl _)) fun e0 => ⟨_, T.cell' 0 rfl, _, T.cell' 1 rfl, root_spec E hk ⟨_, rfl, ?_⟩⟩⟩⟩
  · rintro x ⟨hi, m, J⟩
    refine ⟨fun x m => DrJ pb jb db S n D k P (kvDrop key L) I h x m, ⟨m, J⟩, ?_⟩
    rintro y m ⟨P1, E1, kp1, r0, T1, e1, n1, M1, fr1, nr1⟩
    have Ty : TrAt y tb pb k := Blk.keep T kp1 nt
    have hpk := pgs_ok E1
    obtain ⟨nd, pn, W, F⟩ := TrS_iff.1 T1
    have ok := hpk _ nd pn
    refine ⟨_, Ty.cell' 0 rfl, _, Ty.cell' 1 rfl, root_spec E1 hk ⟨_, rfl, load_spec E1 Ty _ (fun e => by rw [show P1.pgs D n _ = none from e] at pn; cases pn) fun nd' e z k' N => ⟨_, _, rfl, split_ne (fun e => absurd rfl e) fun _ => ?_⟩⟩⟩
    have e : nd' = nd := Option.some.inj ((show P1.pgs D n _ = some nd' from e).symm.trans pn)
    subst e
    obtain ⟨a, c, Ne, fra⟩ := N.ex
    have Ez := E1.sub N.sub
    have Tz : TrAt z tb pb k := Blk.sub Ty N.sub
    have kpz : Keep S h z := kp1.trans (N.sub.keep S)
    refine ⟨k', 0, rfl, _, _, _, Ne.c2, split_dec (fun g => hT hi z P1 (m + 1) _ Ez kpz ⟨r0, T1, e1.symm, rfl, n1, ?_⟩ M1 fr1) fun g => ?_⟩
    · have g : ((nd'.l.length : Nat) : Int) > 0 := g
      rw [← e1, ents_N pn]
      intro e0
      have := Fw_empty W F e0
      rw [this] at g
      exact absurd g (by decide)
    · have g : ¬ ((nd'.l.length : Nat) : Int) > 0 := g
      have hl : nd'.l = [] := List.length_eq_zero_iff.1 (by omega)
      have hw := pgs_why (P := P1) (D := D) (n := n) (i := P1.now.r k) (by rw [pn]; rfl)
      obtain ⟨u1, u2, u3⟩ := why_used hw
      rw [ids_N pn] at n1 M1 nr1
      rw [ents_N pn] at e1
      obtain ⟨hid, nN⟩ := List.nodup_cons.1 n1
      have kd : ((nd'.kind : Nat) : Int) = if nd'.leaf = true then 1 else 2 := by unfold Nd.kind; split <;> rfl
      -- both steps of the pager
      have step : (nd'.first = 0 ∨ P1.why n (nd'.first : Nat) = 0) → nd'.first ≠ P1.now.r k → ∀ K' : Value → Hp → Prop, (∀ x, PgAt x pb jb db S n D ((P1.point k nd'.first).give (P1.now.r k)) → Keep S z x → K' (.int .i64 0) x) →
          CallsH Tryd.prog pager_Pager_Point.id #[.pointer (some ⟨pb, 0, none⟩), .int .i64 (k : Nat), .int .i64 (nd'.first : Nat)] z fun v h27 => ∃ n28, v = .int .i64 n28 ∧ ∃ a29, h27.cell tb 0 = some (.pointer a29) ∧ CallsH Tryd.prog pager_Pager_Give.id #[.pointer a29, .int .i64 (P1.now.r k : Nat)] h27 K' := fun hf hne K' hK' => by
        refine ppoint_ok Ez hk hf fun h4 E4 st4 => ⟨_, rfl, _, (Blk.keep Tz st4.1 nt : TrAt h4 tb pb k).cell' 0 rfl, ?_⟩
        have hw4 : (P1.point k nd'.first).why n (P1.now.r k : Nat) = 0 := hw
        refine give_spec E4 _ (fun e => absurd hw4 e) (fun q eq _ ⟨t', ht', er⟩ => ?_) fun q eq _ _ h5 E5 st5 => ?_
        · have hq : q = P1.now.r k := by omega
          have er : upR P1.now.r k nd'.first t' = q := er
          rw [hq] at er
          by_cases e : t' = k
          · rw [e, upR_same] at er; exact absurd er hne
          · unfold upR at er
            rw [if_neg e] at er
            exact absurd (by rw [er]; exact List.mem_cons_self) (nr1 t' ht' e)
        · have hq : P1.now.r k = q := by omega
          subst hq
          exact hK' h5 E5 (st4.1.trans st5.1)
      have M3 : MvT n D k P ((P1.point k nd'.first).give (P1.now.r k)) I (idsN (P1.pgs D n) m nd') := (M1.trans (MvT.point k nd'.first _)).trans ((Mv.give (P := P1.point k nd'.first) u3 u1 _).t k)
      have fr3 : P.freeN n ≤ ((P1.point k nd'.first).give (P1.now.r k)).freeN n := by
        have := freeN_give (P := P1.point k nd'.first) u1 n
        have h2 : (P1.point k nd'.first).freeN n = P1.freeN n := rfl
        omega
      have rk : ((P1.point k nd'.first).give (P1.now.r k)).now.r k = nd'.first := upR_same _ _ _
      refine ⟨_, Tz.cell' 0 rfl, _, Tz.cell' 1 rfl, k', 0, rfl, _, Ne.c1, ?_⟩
      cases m with
      | zero =>
        have hlf : nd'.leaf = true := W.1
        have hz := ok.z hlf
        refine step (.inl hz) (by rw [hz]; omega) _ fun x Ex kpx => ⟨_, rfl, k', 0, rfl, _, (Ne.out kpx (S_out E1 N.k0) fun b hb => S_out E1 (fra b hb)).c0, ?_⟩
        rw [kd, if_pos hlf]
        refine split_eq (fun _ => hT hi x _ 0 [] Ex (kpz.trans kpx) ⟨rk.trans hz, ?_, rfl⟩ M3 fr3) fun e => absurd rfl e
        rw [← e1]
        show nd'.kv = []
        unfold Nd.kv
        rw [hl]; rfl
      | succ m =>
        have hlf : nd'.leaf = false := W.1
        have hch := W.2.2
        have ecl : nd'.cl eB = [(eB, nd'.first)] := by unfold Nd.cl; rw [hl]; rfl
        have eN : entsN (P1.pgs D n) (m + 1) nd' = ents (P1.pgs D n) m nd'.first := by
          show (entsK (P1.pgs D n) m (nd'.cl eB)).flatten = _
          rw [ecl]; unfold entsK; simp
        have iN : idsN (P1.pgs D n) (m + 1) nd' = ids (P1.pgs D n) m nd'.first := by
          show idsK (P1.pgs D n) m (nd'.cl eB) = _
          rw [ecl]; unfold idsK; simp
        rw [ecl] at hch
        have Tf : TrS (P1.pgs D n) m nd'.first eB eB := hch.1
        rw [iN] at hid nN M3
        rw [eN] at e1
        have fin : nd'.first ∈ ids (P1.pgs D n) m nd'.first := ids_self
        have hne : nd'.first ≠ P1.now.r k := fun e => hid (e ▸ fin)
        refine step (.inr (pgs_why (Tf.in_pg fin))) hne _ fun x Ex kpx => ⟨_, rfl, k', 0, rfl, _, (Ne.out kpx (S_out E1 N.k0) fun b hb => S_out E1 (fra b hb)).c0, ?_⟩
        rw [kd, if_neg (by rw [hlf]; decide)]
        have fr : ∀ i ∈ ids (P1.pgs D n) m nd'.first, ((P1.point k nd'.first).give (P1.now.r k)).pgs D n i = P1.pgs D n i := fun i hi => pgs_give_ne (P := P1.point k nd'.first) fun e => hid (e ▸ hi)
        obtain ⟨f1, f2, f3⟩ := Tf.tr.frame fr
        refine split_eq (fun e => by cases e) fun _ => ⟨m, by omega, _, Ex, kpz.trans kpx, ?_, ?_, ?_, ?_, ?_, fr3, ?_⟩
        · rw [rk]
          have := pgs_lt (P := P1) (D := D) (Tf.in_pg fin)
          omega
        · rw [rk]; exact Tf.frame fr
        · rw [rk]; exact f2.trans e1
        · rw [rk, f3]; exact nN
        · rw [rk, f3]; exact M3
        · intro t ht htk
          rw [rk, f3]
          show upR P1.now.r k nd'.first t ∉ _
          unfold upR
          rw [if_neg htk]
          exact fun h' => nr1 t ht htk (List.mem_cons_of_mem _ (by rw [iN]; exact h'))
  · cases hg with
    | zero => rw [TT.2.1]; rfl
    | succ m => exact absurd (by omega) TT.1
  · cases hg with
    | zero => exact absurd (by rw [TT.1]; rfl) e0
    | succ m =>
      obtain ⟨r0, T0, rfl, rfl, nI, _⟩ := TT
      refine remove_spec nt m E T T0 nI (blt_eB key) (fun h => absurd rfl h) (fun i hi hne t ht er => ?_) (fun h' s hi => ⟨_, rfl, split_not (fun _ => hF hi h' s) fun e => by cases e⟩) fun h' P1 E1 kp hi R => ⟨_, rfl, split_not (fun e => by cases e) fun _ => ⟨hi, m, P1, E1, kp, ?_, ?_, ?_, ?_, ?_, R.fr, ?_⟩⟩
      · by_cases e : t = k
        · rw [e] at er; exact hne er.symm
        · exact nr t ht e (er ▸ hi)
      · rw [R.mv.roots]; exact r0
      · rw [R.mv.roots]; exact R.tr
      · rw [R.mv.roots]; exact R.es
      · rw [R.mv.roots]; exact R.nd
      · rw [R.mv.roots]; exact R.mv.t k
      · intro t ht htk
        have := nonroot_t E.ok (R.mv.t k) nr t ht htk
        rw [R.mv.roots] at this ⊢
        exact this
def ClAt (x : Hp) (k1 : Nat) (l : List Nat) (M : Nat → Prop) : Prop := ∃ la lc, Blk x k1 23 [.slice la l.length lc] ∧ OwnR keyC 1 x 3 la lc l ∧ (∀ b, blkOf la b → b ≠ k1) ∧ ∀ c, M c ↔ (c = k1 ∨ blkOf la c)
set_option maxHeartbeats 4000000 in
theorem clear_spec (E : PgAt h pb jb db S n D P) (T : TrAt h tb pb k) (nt : ¬ S tb) (hk : k < 4) {hg : Nat} {L : List KV} {I : List Nat} (TT : TreeS (P.pgs D n) (P.now.r k) hg L I) (nr : ∀ t, t < 4 → t ≠ k → P.now.r t ∉ I)
    (hK : ∀ h' P', PgAt h' pb jb db S n D P' → Keep S h h' → P'.now.r k = 0 → MvT n D k P P' I [] → K (.tuple #[]) h') : CallsH Tryd.prog btree_Tree_Clear.id #[.pointer (some ⟨tb, 0, none⟩)] h K := by
  have hn := E.n2
  have high := TT.high
  have TT' := TT.tree
  have nI : I.Nodup := by
    cases hg with
    | zero => rw [TT.2.2]; exact List.nodup_nil
    | succ m => exact TT.2.2.2.2.1
  have vp := visit_perm TT'
  have nV : (visit (P.pgs D n) hg (P.now.r k)).Nodup := vp.nodup_iff.2 nI
  have used : ∀ i ∈ visit (P.pgs D n) hg (P.now.r k), (P.pgs D n i).isSome = true := fun i hi => TT.used i (vp.mem_iff.1 hi)
  have nrV : ∀ t, t < 4 → t ≠ k → P.now.r t ∉ visit (P.pgs D n) hg (P.now.r k) := fun t ht htk hi => nr t ht htk (vp.mem_iff.1 hi)
  apply btree_Tree_Clear.calls
  unfold btree_Tree_Clear.W
  intro k1 hk1
  have B1 := Blk.new h k1 23 [.slice none 0 0]
  have s1 := Sub.upd hk1 (.cells [Value.slice none 0 0].toArray 23 (0, 0))
  generalize h.upd k1 (.cells [Value.slice none 0 0].toArray 23 (0, 0)) = y at B1 s1 ⊢
  have tk1 : tb ≠ k1 := fun e => by subst e; unfold TrAt Blk at T; rw [T] at hk1; cases hk1
  have Ty : TrAt y tb pb k := Blk.sub T s1
  refine each_spec (B := n) (I := fun l M x => ClAt x k1 l M) ?_ ?_ ?_ rfl (M := fun c => c = k1) ⟨none, 0, B1, OwnR.nil _ _, (fun b ⟨o, s, e⟩ => by cases e), fun c => ⟨.inl, fun h => h.elim id fun ⟨o, s, e⟩ => by cases e⟩⟩ (E.sub s1) Ty hk (fun c hc e => S_out E hk1 (e ▸ hc)) tk1 TT' (by rw [vp.length_eq]; exact high.2) fun h3 M3 C3 st3 => ⟨rfl, ?_⟩
  · rintro l M x z ⟨la, lc, c1, c2, c3, c4⟩ s
    exact ⟨la, lc, c1.sub s, c2.sub s, c3, c4⟩
  · rintro l M x c ⟨la, lc, c1, c2, c3, c4⟩ hc e
    rcases (c4 c).1 hc with rfl | hc
    · unfold Blk at c1; rw [c1] at e; cases e
    · exact Own.in_heap c2 hc e
  · rintro l M x id nd k' a c hl ⟨la, lc, c1, c2, c3, c4⟩ e Ne K' hK'
    refine fnI (cap := [_]) (by kernel_rfl) ?_
    apply btree_Tree_Clear_1.calls
    unfold btree_Tree_Clear_1.W
    refine ⟨_, _, _, c1.cell' 0 rfl, fun k4 hk4 => ?_⟩
    have s4 := Sub.upd hk4 (.cells (keyC id).toArray 3 (0, 0))
    have B4 := Blk.new x k4 3 (keyC id)
    have c1' := c1.sub s4
    have c2' := c2.sub s4
    refine ⟨keyC id, B4.slice rfl, fun a' c' z => OwnR keyC 1 z 3 a' c' (l ++ [id]) ∧ Keep (blkOf la) (x.upd k4 (.cells (keyC id).toArray 3 (0, 0))) z ∧ ∀ b, blkOf a' b → blkOf la b ∨ (x.upd k4 (.cells (keyC id).toArray 3 (0, 0))) b = none, ?_, ?_⟩
    · rintro a' c' z ⟨o1, o2, o3⟩
      have B1z := c1'.keep o2 fun hb => c3 k1 hb rfl
      have ne' : ∀ b, blkOf a' b → b ≠ k1 := fun b hb e => by
        rcases o3 b hb with h' | h'
        · exact c3 b h' e
        · rw [e] at h'; unfold Blk at c1'; rw [c1'] at h'; cases h'
      have kz := Keep.put (fun c => c = k1) z 0 [.slice a' (l.length + 1) c'] rfl
      refine ⟨B1z.store (by show 1 ≤ 1; decide), hK' _ (fun c => c = k1 ∨ blkOf a' c) ⟨a', c', ?_, o1.keep kz ne', ne', fun c => Iff.rfl⟩ ⟨?_, ?_⟩⟩
      · rw [List.length_append]
        exact B1z.put 0 [.slice a' (l.length + 1) c']
      · exact ((s4.keep M).trans (o2.mono fun c hc => (c4 c).2 (.inr hc))).trans (kz.mono fun c hc => (c4 c).2 (.inl hc))
      · rintro c (hc | hc)
        · exact .inl ((c4 c).2 (.inl hc))
        · rcases o3 c hc with h' | h'
          · exact .inl ((c4 c).2 (.inr h'))
          · exact .inr (s4.none h')
    · exact append_ownR appTInt keyC_len keyC_plain (M := [id]) c2' rfl rfl (rowC_one _).symm (by show (2 * (l.length + 1) + 768) * 8 ≤ _; omega) fun a' c' z o1 o2 o3 => ⟨o1, o2, o3⟩
  · have s3 : Sub h h3 := st3.1.sub s1 fun c hc => by rw [hc]; exact hk1
    have E3 := E.sub s3
    have T3 : TrAt h3 tb pb k := Blk.sub T s3
    obtain ⟨la, lc, c1, c2, c3, c4⟩ := C3
    have nS : ∀ c, S c → ¬ (c = k1 ∨ blkOf la c) := fun c hc hm => by
      rcases st3.2 c ((c4 c).2 hm) with h' | h'
      · exact S_out E hk1 (h' ▸ hc)
      · exact E.in_heap hc (s1.none h')
    refine ⟨_, T3.cell' 0 rfl, _, T3.cell' 1 rfl, ppoint_ok E3 hk (.inl rfl) fun h7 E7 st7 => ⟨_, rfl, ?_⟩⟩
    have B7 := c1.keep st7.1 fun hs => nS _ hs (.inl rfl)
    have O7 := c2.keep st7.1 fun b hb hs => nS b hs (.inr hb)
    have kp7 : Keep S h h7 := (s3.keep S).trans st7.1
    generalize hV : visit (P.pgs D n) hg (P.now.r k) = V at nV used nrV B7 O7
    have VI : V.Perm I := by rw [← hV]; exact vp
    have hVn : V.length ≤ n := by rw [VI.length_eq]; exact high.2
    have M0 : MvT n D k P (P.point k 0) I V := by
      refine ⟨rfl, rfl, rfl, fun t ht => if_neg ht, fun j h _ => ⟨h, rfl⟩, fun j h => .inl (VI.mem_iff.1 h), by rw [VI.length_eq]; rfl⟩
    refine ⟨_, _, _, B7.cell' 0 rfl, fun i x m => ∃ (j : Nat) (P1 : Pg), i = (j : Int) ∧ j ≤ V.length ∧ m = V.length - j ∧ PgAt x pb jb db S n D P1 ∧ Keep S h x ∧ OwnR keyC 1 x 3 la lc V ∧ P1.now.r = upR P.now.r k 0 ∧ MvT n D k P P1 I (V.drop j) ∧ ∀ i ∈ V.drop j, P1.pgs D n i = P.pgs D n i, ⟨_, 0, P.point k 0, rfl, Nat.zero_le _, rfl, E7, kp7, O7, rfl, M0, fun i _ => rfl⟩, ?_⟩
    rintro i x m ⟨j, P1, rfl, hj, rfl, E1, kp1, O1, er, M1, hp⟩
    refine split_dec (fun g => ?_) fun g => ?_
    · have g : ((j : Nat) : Int) < ((V.length : Nat) : Int) := g
      have hj' : j < V.length := by omega
      obtain ⟨id, hid⟩ : ∃ id, V[j]? = some id := ⟨_, List.getElem?_eq_getElem hj'⟩
      obtain ⟨b, o, ea, hc⟩ := O1.row.get keyC_len (by decide) hid
      have hdr : V.drop j = id :: V.drop (j + 1) := by
        have := (List.getElem?_eq_some_iff.1 hid).2
        rw [← this, List.drop_eq_getElem_cons hj']
      have idV : id ∈ V := List.mem_of_getElem? hid
      have pid : P1.pgs D n id = P.pgs D n id := hp id (by rw [hdr]; exact List.mem_cons_self)
      have hw : P1.why n (id : Nat) = 0 := pgs_why (D := D) (by rw [pid]; exact used id idV)
      obtain ⟨u1, u2, u3⟩ := why_used hw
      have T1 : TrAt x tb pb k := Blk.keep T kp1 nt
      refine ⟨by omega, g, b, o, ea, _, by rw [Int.toNat_natCast]; exact hc 0 _ rfl, _, T1.cell' 0 rfl, give_spec E1 _ (fun e => absurd hw e) (fun q eq _ ⟨t', ht', e2⟩ => ?_) fun q eq _ _ h5 E5 st5 => ⟨_, rfl, V.length - (j + 1), by omega, j + 1, P1.give id, by rw [wid (by omega) (by omega)]; omega, by omega, rfl, ?_, kp1.trans st5.1, O1.keep st5.1 fun b hb hs => nS b hs (.inr hb), er, ?_, ?_⟩⟩
      · have hq : q = id := by omega
        have e2 : P1.now.r t' = q := e2
        rw [er, hq] at e2
        unfold upR at e2
        by_cases e : t' = k
        · rw [if_pos e] at e2
          omega
        · rw [if_neg e] at e2
          exact absurd (e2 ▸ idV) (nrV t' ht' e)
      · have hq : id = q := by omega
        subst hq
        exact E5
      · rw [hdr] at M1
        exact M1.trans ((Mv.give u3 u1 _).t k)
      · intro i hi
        have nd1 : (V.drop j).Nodup := nV.sublist (List.drop_sublist _ _)
        rw [hdr] at nd1
        have := (List.nodup_cons.1 nd1).1
        have ine : i ≠ id := fun e => this (e ▸ hi)
        exact (pgs_give_ne ine).trans (hp i (by rw [hdr]; exact List.mem_cons_of_mem _ hi))
    · have g : ¬ ((j : Nat) : Int) < ((V.length : Nat) : Int) := g
      have : j = V.length := by omega
      subst this
      rw [List.drop_length] at M1
      exact hK x P1 E1 kp1 (by rw [er]; exact upR_same _ _ _) M1
end Go.Proofs.YthbogjbcecmopaaDoor
namespace Go.Proofs.YthbogjbcecmopaaDoor
open Go.Gx
set_option maxRecDepth 100000
set_option linter.unusedVariables false

abbrev tPair : TypeId := 41
theorem appTP : AppT Tryd.prog tPair 2 32 := AppT.of (by kernel_rfl)
theorem kv_cell {h : Hp} {a : Option Addr} {L : List KV} (H : SliceAt h a (L.length * 2) (kvCells L)) {i : Nat} {p : KV} (hp : L[i]? = some p) :
    ∃ b o, a = some ⟨b, o, none⟩ ∧ h.cell b (o + i * 2) = some (.string p.1) ∧ h.cell b (o + i * 2 + 1) = some (.string p.2) := by
  have hi := (List.getElem?_eq_some_iff.1 hp).1
  obtain ⟨c1, c2⟩ := kvCells_get L i p hp
  obtain ⟨b, o, e, v, hv, hc⟩ := H.cell (i := i * 2) (by omega)
  obtain ⟨b', o', e', v', hv', hc'⟩ := H.cell (i := i * 2 + 1) (by omega)
  rw [e] at e'
  cases e'
  rw [c1] at hv; cases hv
  rw [c2] at hv'; cases hv'
  exact ⟨b, o, e, hc, by rw [Nat.add_assoc]; exact hc'⟩
theorem kvFind_spec {L : List KV} {a : Option Addr} {c : Nat} {h : Hp} (H : SliceAt h a (L.length * 2) (kvCells L)) (hL : L.length < 4294967296) (k : ByteArray) {K : Value → Hp → Prop}
    (hK : K (.tuple #[.int .i64 (kvAt k L : Nat), .bool (kvIs k L)]) h) : CallsH Tryd.prog ref08_Find.id #[.slice a L.length c, .string k] h K := by
  apply ref08_Find.calls
  unfold ref08_Find.W
  refine ⟨fun n x m => x = h ∧ ∃ i : Nat, n = (i : Int) ∧ i ≤ kvAt k L ∧ m = L.length - i, ⟨_, rfl, 0, rfl, by omega, rfl⟩, ?_⟩
  rintro n x m ⟨rfl, i, rfl, hi, rfl⟩
  have hle := kvAt_le k L
  refine split_dec (fun h1 => ?_) (fun h1 => ?_)
  · have h1' : i < L.length := by have : (i : Int) < ((L.length : Nat) : Int) := h1; omega
    have hp : L[i]? = some L[i] := List.getElem?_eq_getElem h1'
    obtain ⟨b, o, e, c1, c2⟩ := kv_cell H hp
    have ei : ((i : Nat) : Int).toNat = i := rfl
    rw [ei]
    refine ⟨by omega, h1, b, o, e, L[i].1, c1, ?_⟩
    rw [bltS_val]
    refine split_not (fun h2 => ⟨by omega, h1, b, o, e, L[i].1, c1, ?_⟩) (fun h2 => ?_)
    · have : i = kvAt k L := by
        by_cases hc : i < kvAt k L
        · rw [kvAt_before k L i _ hp hc] at h2; cases h2
        · omega
      rw [beqS_val]
      have e2 : decide (L[i].1 = k) = kvIs k L := by
        unfold kvIs
        rw [← this, hp]
      rw [e2, this]
      exact hK
    · refine ⟨L.length - (i + 1), by omega, rfl, i + 1, by rw [wid (by omega) (by omega)]; omega, ?_, rfl⟩
      by_cases hc : i = kvAt k L
      · have := kvAt_at k L L[i] (by rw [← hc]; exact hp)
        rw [this] at h2; cases h2
      · omega
  · have h1 : ¬ i < L.length := by
      intro hc
      apply h1
      show (i : Int) < ((L.length : Nat) : Int)
      omega
    have e : kvAt k L = L.length := by omega
    have e2 : kvIs k L = false := by
      unfold kvIs
      rw [e, List.getElem?_eq_none (Nat.le_refl _)]
    rw [e, e2] at hK
    exact hK
theorem kv_part {h : Hp} {a : Option Addr} {L : List KV} (H : SliceAt h a (L.length * 2) (kvCells L)) {c i n : Nat} (hc : L.length ≤ c) (hi : i + n ≤ L.length) : SliceAt h (slA c i 2 a) (n * 2) (kvCells ((L.drop i).take n)) := by
  have := H.part (m := c) (l := i) (k := n * 2) (sz := 2) (by omega) (by omega)
  rw [kvCells_drop, kvCells_take] at this
  exact this
theorem kvPut_len (k v : ByteArray) (L : List KV) : (kvPut k v L).length = kvAt k L + 1 + (L.length - (if kvIs k L then kvAt k L + 1 else kvAt k L)) := by
  unfold kvPut
  have := kvAt_le k L
  rw [List.length_append, List.length_take, List.length_cons, List.length_drop]; omega
def NewKV (h h' : Hp) (a : Option Addr) (c : Nat) (L : List KV) : Prop := Sub h h' ∧ (∀ b, blkOf a b → h b = none) ∧ Go.Gx.Own h' tPair 2 a L.length c (kvCells L)
theorem kvPut_spec {L : List KV} {a : Option Addr} {c : Nat} {h : Hp} (H : SliceAt h a (L.length * 2) (kvCells L)) (hc : L.length ≤ c) (hL : L.length < 4294967296) (k v : ByteArray) {K : Value → Hp → Prop}
    (hK : ∀ h' a' c', NewKV h h' a' c' (kvPut k v L) → K (.slice a' (kvPut k v L).length c') h') : CallsH Tryd.prog ref08_Put.id #[.slice a L.length c, .string k, .string v] h K := by
  apply ref08_Put.calls
  unfold ref08_Put.W
  have hle := kvAt_le k L
  have ei : ((kvAt k L : Nat) : Int).toNat = kvAt k L := rfl
  refine kvFind_spec H hL k ⟨_, _, rfl, by omega, by show ((kvAt k L : Nat) : Int) ≤ ((c : Nat) : Int); omega, kvCells (L.take (kvAt k L)), ?_, ?_⟩
  · have := kv_part H (c := c) (i := 0) (n := kvAt k L) hc (by omega)
    rw [List.drop_zero] at this; exact this
  have hl1 : (L.take (kvAt k L)).length = kvAt k L := by rw [List.length_take]; omega
  rw [ei]
  refine ⟨fun a' c' x => Sub h x ∧ (∀ b, blkOf a' b → h b = none) ∧ Go.Gx.Own x tPair 2 a' (0 + kvAt k L) c' ([] ++ kvCells (L.take (kvAt k L))), ?_,
    append_new appTP (Sub.refl h) (by rintro b ⟨o, s, e⟩; cases e) (Own.nil _ _ _) (by rw [kvCells_length, hl1]) (kvCells_plain _) (by omega) fun a' c' x g1 g2 g3 => ⟨g1, g2, g3⟩⟩
  rintro a1 c1 x1 ⟨hs1, hf1, ho1⟩ k10 hk10
  refine ⟨kvCells [(k, v)], (Blk.new _ _ _ (kvCells [(k, v)])).slice rfl, fun a' c' x => Sub h x ∧ (∀ b, blkOf a' b → h b = none) ∧ Go.Gx.Own x tPair 2 a' (0 + kvAt k L + 1) c' ([] ++ kvCells (L.take (kvAt k L)) ++ kvCells [(k, v)]), ?_,
    append_new appTP (hs1.trans (Sub.upd hk10 _)) hf1 (ho1.sub (Sub.upd hk10 _)) rfl (kvCells_plain _) (by omega) fun a' c' x g1 g2 g3 => ⟨g1, g2, g3⟩⟩
  rintro a2 c2 x2 ⟨hs2, hf2, ho2⟩
  have hlen := kvPut_len k v L
  have fin : ∀ (i : Nat), i ≤ L.length → i = (if kvIs k L then kvAt k L + 1 else kvAt k L) → ∀ (n : Int), n = (i : Int) → (0 ≤ n ∧ n ≤ Int.ofNat L.length ∧ ∃ xs, SliceAt x2 (slA c n.toNat 2 a) ((L.length - n.toNat) * 2) xs ∧ ∃ J : Option Addr → Nat → Hp → Prop, (∀ a' c' x, J a' c' x → K (.slice a' (0 + kvAt k L + 1 + (L.length - n.toNat)) c') x) ∧ appendC Tryd.prog tPair a2 (0 + kvAt k L + 1) c2 x2 xs (L.length - n.toNat) J) := by
    intro i hi hie n hn
    subst hn
    have en : ((i : Nat) : Int).toNat = i := rfl
    rw [en]
    refine ⟨by omega, by show ((i : Nat) : Int) ≤ ((L.length : Nat) : Int); omega, kvCells (L.drop i), ?_, fun a' c' x => NewKV h x a' c' (kvPut k v L), ?_, ?_⟩
    · have := kv_part (H.sub hs2) (c := c) (i := i) (n := L.length - i) hc (by omega)
      rw [List.take_of_length_le (by simp)] at this
      exact this
    · intro a' c' x hx
      have e : 0 + kvAt k L + 1 + (L.length - i) = (kvPut k v L).length := by rw [hlen, ← hie]; omega
      rw [e]
      exact hK x a' c' hx
    · refine append_new appTP hs2 hf2 ho2 (by rw [kvCells_length, List.length_drop]) (kvCells_plain _) (by omega) fun a' c' x g1 g2 g3 => ⟨g1, g2, ?_⟩
      have e : 0 + kvAt k L + 1 + (L.length - i) = (kvPut k v L).length := by rw [hlen, ← hie]; omega
      rw [e] at g3
      have e2 : [] ++ kvCells (L.take (kvAt k L)) ++ kvCells [(k, v)] ++ kvCells (L.drop i) = kvCells (kvPut k v L) := by
        unfold kvPut
        rw [← hie, List.nil_append, ← kvCells_append, ← kvCells_append, List.append_assoc]; rfl
      rw [e2] at g3
      exact g3
  refine split_cond (fun h1 => ?_) (fun h1 => ?_)
  · have hlt := kvAt_lt h1
    exact fin (kvAt k L + 1) (by omega) (by rw [if_pos h1]) _ (by rw [wid (by omega) (by omega)]; omega)
  · exact fin (kvAt k L) (by omega) (by rw [if_neg (by rw [h1]; decide)]) _ rfl
theorem kvDrop_spec {L : List KV} {a : Option Addr} {c : Nat} {h : Hp} (H : SliceAt h a (L.length * 2) (kvCells L)) (hc : L.length ≤ c) (hL : L.length < 4294967296) (k : ByteArray) {K : Value → Hp → Prop}
    (h1 : kvIs k L = false → K (.tuple #[.slice a L.length c, .bool false]) h)
    (h2 : kvIs k L = true → ∀ h' a' c', NewKV h h' a' c' (kvDrop k L) → K (.tuple #[.slice a' (kvDrop k L).length c', .bool true]) h') : CallsH Tryd.prog ref08_Drop.id #[.slice a L.length c, .string k] h K := by
  apply ref08_Drop.calls
  unfold ref08_Drop.W
  have hle := kvAt_le k L
  have ei : ((kvAt k L : Nat) : Int).toNat = kvAt k L := rfl
  refine kvFind_spec H hL k ⟨_, _, rfl, split_not (fun g => h1 g) (fun g => ?_)⟩
  have hlt := kvAt_lt g
  have hl1 : (L.take (kvAt k L)).length = kvAt k L := by rw [List.length_take]; omega
  have w1 : IntKind.i64.wrap (((kvAt k L : Nat) : Int) + 1) = ((kvAt k L + 1 : Nat) : Int) := by rw [wid (by omega) (by omega)]; omega
  have ei1 : ((kvAt k L + 1 : Nat) : Int).toNat = kvAt k L + 1 := rfl
  rw [ei, w1, ei1]
  refine ⟨by omega, by show ((kvAt k L : Nat) : Int) ≤ ((c : Nat) : Int); omega, kvCells (L.take (kvAt k L)), ?_, ?_⟩
  · have := kv_part H (c := c) (i := 0) (n := kvAt k L) hc (by omega)
    rw [List.drop_zero] at this; exact this
  refine ⟨fun a' c' x => Sub h x ∧ (∀ b, blkOf a' b → h b = none) ∧ Go.Gx.Own x tPair 2 a' (0 + kvAt k L) c' ([] ++ kvCells (L.take (kvAt k L))), ?_,
    append_new appTP (Sub.refl h) (by rintro b ⟨o, s, e⟩; cases e) (Own.nil _ _ _) (by rw [kvCells_length, hl1]) (kvCells_plain _) (by omega) fun a' c' x g1 g2 g3 => ⟨g1, g2, g3⟩⟩
  rintro a1 c1 x1 ⟨hs1, hf1, ho1⟩
  have hd : kvDrop k L = L.take (kvAt k L) ++ L.drop (kvAt k L + 1) := by unfold kvDrop; rw [if_pos g]
  have e : 0 + kvAt k L + (L.length - (kvAt k L + 1)) = (kvDrop k L).length := by rw [hd, List.length_append, List.length_drop, hl1]; omega
  refine ⟨by omega, by show ((kvAt k L + 1 : Nat) : Int) ≤ ((L.length : Nat) : Int); omega, kvCells (L.drop (kvAt k L + 1)), ?_, fun a' c' x => NewKV h x a' c' (kvDrop k L), ?_, ?_⟩
  · have := kv_part (H.sub hs1) (c := c) (i := kvAt k L + 1) (n := L.length - (kvAt k L + 1)) hc (by omega)
    rw [List.take_of_length_le (by simp)] at this
    exact this
  · intro a' c' x hx
    rw [e]
    exact h2 g x a' c' hx
  · refine append_new appTP hs1 hf1 ho1 (by rw [kvCells_length, List.length_drop]) (kvCells_plain _) (by omega) fun a' c' x g1 g2 g3 => ⟨g1, g2, ?_⟩
    rw [e] at g3
    have e2 : [] ++ kvCells (L.take (kvAt k L)) ++ kvCells (L.drop (kvAt k L + 1)) = kvCells (kvDrop k L) := by
      rw [hd, List.nil_append, ← kvCells_append]
    rw [e2] at g3
    exact g3
theorem NewKV.row {h h' : Hp} {a : Option Addr} {c : Nat} {L : List KV} (N : NewKV h h' a c L) : NewR kvC 2 tPair h h' a c L := ⟨N.1, N.2.1, N.2.2⟩
end Go.Proofs.YthbogjbcecmopaaDoor
namespace Go.Proofs.YthbogjbcecmopaaDoor
open Go.Gx
set_option maxRecDepth 100000
set_option linter.unusedVariables false
variable {n : Nat} {D : Dk} {P P' : Pg} {h : Hp} {K : Value → Hp → Prop} {pb jb db : Nat} {S : Nat → Prop} {tb k : Nat}
theorem refMay_spec (k v : ByteArray) (hK : K (.bool (may k v)) h) : CallsH Tryd.prog ref08_May.id #[.string k, .string v] h K := by
  apply ref08_May.calls
  unfold ref08_May.W
  unfold may at hK
  refine split_dec (fun e1 => split_dec (fun e2 => ?_) fun e2 => ?_) fun e1 => ?_
  · have e1 : (k.size : Int) ≥ 1 := e1
    have e2 : (k.size : Int) ≤ 64 := e2
    rw [hb_eq]
    have : decide (Int.ofNat v.size ≤ 400) = decide (1 ≤ k.size ∧ k.size ≤ 64 ∧ v.size ≤ 400) := decide_eq_decide.2 ⟨fun h => by have h : (v.size : Int) ≤ 400 := h; omega, fun h => by show (v.size : Int) ≤ 400; omega⟩
    rw [this]; exact hK
  · have e2 : ¬ (k.size : Int) ≤ 64 := e2
    rw [decide_eq_false (by omega)] at hK; exact hK
  · have e1 : ¬ (k.size : Int) ≥ 1 := e1
    rw [decide_eq_false (by omega)] at hK; exact hK
theorem same_spec {L M : List KV} {a b : Option Addr} {c d : Nat} (H : SliceAt h a (L.length * 2) (kvCells L)) (G : SliceAt h b (M.length * 2) (kvCells M)) (hL : L.length < 4294967296) (e : L = M) (hK : K (.bool true) h) :
    CallsH Tryd.prog ref08_Same.id #[.slice a L.length c, .slice b M.length d] h K := by
  subst e
  apply ref08_Same.calls
  unfold ref08_Same.W
  refine split_ne (fun e => absurd rfl e) fun _ => ⟨fun i x m => x = h ∧ ∃ j : Nat, i = (j : Int) ∧ j ≤ L.length ∧ m = L.length - j, ⟨_, rfl, 0, rfl, Nat.zero_le _, rfl⟩, ?_⟩
  rintro i x m ⟨rfl, j, rfl, hj, rfl⟩
  refine split_dec (fun g => ?_) fun _ => hK
  have g : ((j : Nat) : Int) < ((L.length : Nat) : Int) := g
  obtain ⟨p, hp⟩ : ∃ p, L[j]? = some p := ⟨_, List.getElem?_eq_getElem (by omega)⟩
  obtain ⟨b1, o1, e1, c1, c2⟩ := kv_cell H hp
  obtain ⟨b2, o2, e2, d1, d2⟩ := kv_cell G hp
  refine ⟨by omega, g, b1, o1, e1, _, by rw [Int.toNat_natCast]; exact c1, _, by rw [Int.toNat_natCast]; exact c2, by omega, g, b2, o2, e2, _, by rw [Int.toNat_natCast]; exact d1, _, by rw [Int.toNat_natCast]; exact d2, ?_⟩
  have hh : ∀ s : ByteArray, beqS s s = true := fun s => by rw [beqS_val]; exact decide_eq_true rfl
  rw [hh, hh]
  refine split_not (fun e => by cases e) fun _ => ⟨L.length - (j + 1), by omega, rfl, j + 1, by rw [wid (by omega) (by omega)]; omega, by omega, rfl⟩
theorem light_spec (a b c : Int) (x y z : ByteArray) (hF : K (.bool false) h) (hT : x.size ≤ 500 → y.size ≤ 500 → z.size ≤ 1000 → K (.bool true) h) : CallsH Tryd.prog law15_light.id #[.agg #[.int .i64 a, .int .i64 b, .int .i64 c, .string x, .string y, .string z]] h K := by
  apply law15_light.calls
  unfold law15_light.W
  refine split_dec (fun e1 => split_dec (fun e2 => ?_) fun _ => hF) fun _ => hF
  have e1 : (x.size : Int) ≤ 500 := e1
  have e2 : (y.size : Int) ≤ 500 := e2
  rw [hb_eq]
  by_cases e3 : Int.ofNat z.size ≤ 1000
  · rw [decide_eq_true e3]
    have e3 : (z.size : Int) ≤ 1000 := e3
    exact hT (by omega) (by omega) (by omega)
  · rw [decide_eq_false e3]; exact hF
theorem newPg_tree (n : Nat) (D : Dk) (k : Nat) : TreeS (newPg.pgs D n) (newPg.now.r k) 0 [] [] := ⟨rfl, rfl, rfl⟩
theorem root0 {hg : Nat} {L : List KV} {I : List Nat} (TT : TreeS (P.pgs D n) (P.now.r k) hg L I) : 0 ∉ I := fun h0 => by
  have := pgs_lt (D := D) (P := P) (TT.used 0 h0)
  omega
theorem TreeS.nil {pg : Nat → Option Nd} {root hg : Nat} {I : List Nat} (T : TreeS pg root hg [] I) : hg = 0 ∧ root = 0 ∧ I = [] := by
  cases hg with
  | zero => exact ⟨rfl, T.1, T.2.2⟩
  | succ m => exact absurd rfl T.2.2.2.2.2
set_option maxHeartbeats 2000000 in
theorem lives_spec (hK : ∀ h', Sub h h' → K (.bool true) h') : CallsH Tryd.prog law15_lives.id #[] h K := by
  apply law15_lives.calls
  unfold law15_lives.W
  refine opened_spec 4 (by decide) (by decide) fun h2 tb pb jb db S s2 E fr T n2 nt => ⟨_, _, _, rfl, ?_⟩
  have f0 : newPg.freeN 4 = 3 := by decide
  have m0 : may (bytesL [97]) (bytesL [120]) = true := by decide
  refine ⟨fun x => ∃ P1 hg1 I1, PgAt x pb jb db S 4 (Dk.new (8 * 4 + 1)) P1 ∧ Keep S h2 x ∧ TreeS (P1.pgs (Dk.new (8 * 4 + 1)) 4) (P1.now.r 1) hg1 (kvPut (bytesL [97]) (bytesL [120]) []) I1 ∧ MvT 4 (Dk.new (8 * 4 + 1)) 1 newPg P1 [] I1 ∧ I1.length = 1, ?_, split_cond (fun e => by cases e) fun _ => ?_⟩
  · rintro x ⟨P1, hg1, I1, E1, kp1, TT, M1, l1⟩
    have T1 : TrAt x tb pb 1 := Blk.keep T kp1 nt
    have kg : kvGet (bytesL [97]) (kvPut (bytesL [97]) (bytesL [120]) []) = some (bytesL [120]) := by decide
    have fr1 := M1.free
    refine get_spec E1 T1 (by decide) TT.tree _ fun h9 s9 => ⟨_, _, rfl, ?_⟩
    rw [kg]
    refine split_beqS (fun _ => split_cond (fun _ => ?_) fun e => by cases e) fun e => absurd rfl e
    have E9 := E1.sub s9
    have T9 : TrAt h9 tb pb 1 := Blk.sub T1 s9
    refine drop_spec E9 T9 nt (by decide) TT (fun t ht htk hi => ?_) _ (fun e => absurd e (by decide)) fun _ h13 P2 hg2 I2 E2 kp2 TT2 M2 fr2 => ⟨_, rfl, split_cond (fun _ => ?_) fun e => by cases e⟩
    · have : P1.now.r t = 0 := M1.roots t htk
      rw [this] at hi
      exact root0 TT hi
    · have e0 : kvDrop (bytesL [97]) (kvPut (bytesL [97]) (bytesL [120]) []) = [] := by decide
      rw [e0] at TT2
      obtain ⟨rfl, r0, rfl⟩ := TT2.nil
      have T2 : TrAt h13 tb pb 1 := Blk.keep T9 kp2 nt
      have fr3 := M2.free
      refine height_spec E2 T2 (by decide) TT2.tree (by decide) fun h16 s16 => ⟨_, rfl, split_eq (fun _ => free_spec (E2.sub s16) ⟨_, rfl, ?_⟩) fun e => absurd rfl e⟩
      have : P2.freeN 4 = 3 := by
        simp only [List.length_nil] at fr1 fr3
        omega
      have ev : hb (((3 : Nat) : Int) == 3) = true := by rw [hb_eq]; rfl
      rw [this, ev]
      refine hK _ ?_
      have k02 : Keep S h2 h16 := kp1.trans ((s9.keep S).trans (kp2.trans (s16.keep S)))
      exact k02.sub s2 fr
  · refine put_spec E T nt (by decide) (newPg_tree 4 _ 1) _ _ (fun e => absurd e (by decide)) (fun _ e => by omega) fun _ _ h22 P1 hg1 I1 E1 kp1 TT M1 l1 => ⟨_, rfl, split_ne (fun e => absurd rfl e) fun _ => ?_⟩
    have T1 : TrAt h22 tb pb 1 := Blk.keep T kp1 nt
    have hh := TT.high
    have h1 : 1 ≤ hg1 := by
      cases hg1 with
      | zero => exact absurd TT.2.1 (kvPut_ne _ _)
      | succ m => omega
    have l1 : I1.length ≤ 0 + 0 + 1 := l1
    have e1 : hg1 = 1 := by omega
    subst e1
    have fr1 := M1.free
    simp only [List.length_nil] at fr1
    refine height_spec E1 T1 (by decide) TT.tree (by decide) fun h25 s25 => ⟨_, rfl, split_ne (fun e => absurd rfl e) fun _ => free_spec (E1.sub s25) ⟨_, rfl, split_ne (fun e => absurd ?_ e) fun _ => ⟨P1, 1, I1, E1.sub s25, kp1.trans (s25.keep S), TT, M1, by omega⟩⟩⟩
    have : P1.freeN 4 = 2 := by omega
    rw [this]; rfl
end Go.Proofs.YthbogjbcecmopaaDoor
namespace Go.Proofs.YthbogjbcecmopaaDoor
open Go.Gx
set_option maxRecDepth 100000
set_option linter.unusedVariables false
variable {n : Nat} {D D' : Dk} {P P' : Pg} {h : Hp} {K : Value → Hp → Prop} {pb jb db : Nat} {S : Nat → Prop} {tb k : Nat}
theorem rowC_byte (l : List UInt8) : rowC byteC l = bytesV ⟨l.toArray⟩ := rowC_bytes ⟨l.toArray⟩
set_option maxHeartbeats 1000000 in
theorem value_spec (a b c : Int) (x y z : ByteArray) (hz : z.size ≤ 1000) (hK : ∀ h' s, Sub h h' → s.size ≤ 1000 → K (.string s) h') : CallsH Tryd.prog law15_value.id #[.agg #[.int .i64 a, .int .i64 b, .int .i64 c, .string x, .string y, .string z]] h K := by
  apply law15_value.calls
  unfold law15_value.W
  refine split_dec (fun _ => hK h z (Sub.refl h) hz) fun c0 => split_dec (fun _ => hK h z (Sub.refl h) hz) fun c1 => ?_
  obtain ⟨m, rfl⟩ : ∃ m : Nat, c = (m : Int) := ⟨c.toNat, by omega⟩
  refine ⟨by omega, by omega, by omega, by omega, fun k1 hk1 => ?_⟩
  rw [Int.toNat_natCast]
  have s1 := Sub.upd hk1 (.cells (repV m [Value.int .u8 0]).toArray 5 (0, 0))
  have B1 := Blk.new h k1 5 (repV m [Value.int .u8 0])
  have N1 : NewR byteC 1 5 h (h.upd k1 (.cells (repV m [Value.int .u8 0]).toArray 5 (0, 0))) (some ⟨k1, 0, none⟩) m (List.replicate m 0) := by
    refine ⟨s1, fun b ⟨o, s, e⟩ => by cases e; exact hk1, ?_⟩
    unfold OwnR
    rw [List.length_replicate, rowC_zeros]
    exact ⟨by unfold repV; simp, Nat.le_refl _, .inr ⟨k1, [], rfl, by rw [List.append_nil]; exact B1, by simp⟩⟩
  generalize h.upd k1 (.cells (repV m [Value.int .u8 0]).toArray 5 (0, 0)) = y1 at N1 s1 ⊢
  refine ⟨fun i x q => ∃ (j : Nat) (l : List UInt8), i = (j : Int) ∧ j ≤ m ∧ q = m - j ∧ l.length = m ∧ NewR byteC 1 5 h x (some ⟨k1, 0, none⟩) m l, ⟨_, 0, _, rfl, Nat.zero_le _, rfl, List.length_replicate, N1⟩, ?_⟩
  rintro i x q ⟨j, l, rfl, hj, rfl, hl, N⟩
  refine split_dec (fun g => ?_) fun g => ?_
  · have g : ((j : Nat) : Int) < ((m : Nat) : Int) := g
    have hx : l[j]? = some (l[j]'(by omega)) := List.getElem?_eq_getElem (by omega)
    obtain ⟨b, eb, st, N2⟩ := N.put byteC_len hx (by decide) (j := 0) (vs := [.int .u8 118]) (y := 118) (by show 0 + 1 ≤ 1; decide) rfl
    have hb : k1 = b := by cases eb; rfl
    subst hb
    have next : IntKind.i64.wrap ((j : Int) + 1) = ((j + 1 : Nat) : Int) := by rw [wid (by omega) (by omega)]; omega
    have hl2 : (l.set j 118).length = m := by rw [List.length_set]; exact hl
    refine ⟨by omega, g, k1, 0, rfl, ?_⟩
    rw [Int.toNat_natCast, next]
    refine ⟨st, split_dec (fun g2 => split_cond (fun _ => ?_) fun e => ?_) fun _ => ⟨m - (j + 1), by omega, j + 1, _, rfl, by omega, rfl, hl2, N2⟩⟩
    · have hx2 : (l.set j 118)[j]? = some ((l.set j 118)[j]'(by omega)) := List.getElem?_eq_getElem (by omega)
      obtain ⟨b, eb, st2, N3⟩ := N2.put byteC_len hx2 (by decide) (j := 0) (vs := [.int .u8 (byteAt z 0)]) (y := (z.data.toList[0]?).getD 0) (by show 0 + 1 ≤ 1; decide) rfl
      have hb : k1 = b := by cases eb; rfl
      subst hb
      exact ⟨by omega, g, k1, 0, rfl, st2, m - (j + 1), by omega, j + 1, _, rfl, by omega, rfl, by rw [List.length_set]; exact hl2, N3⟩
    · have g2 : (z.size : Int) > 0 := g2
      have : Nat.blt 0 z.size = true := Nat.blt_eq.mpr (by omega)
      rw [this] at e; cases e
  · refine ⟨⟨l.toArray⟩, ?_, hK x ⟨l.toArray⟩ N.sub ?_⟩
    · have := N.own.row
      unfold RowAt at this
      rw [hl, Nat.mul_one, rowC_byte] at this
      exact this
    · rw [← size_len]
      show l.length ≤ 1000
      omega
set_option maxHeartbeats 1000000 in
theorem lawput_spec (E : PgAt h pb jb db S n D P) (T : TrAt h tb pb k) (nt : ¬ S tb) (hk : k < 4) {hg : Nat} {L : List KV} {I : List Nat} (TT : TreeS (P.pgs D n) (P.now.r k) hg L I) {la : Option Addr} {lc : Nat} (H : SliceAt h la (L.length * 2) (kvCells L)) (hc : L.length ≤ lc) (hL : L.length < 4294967296) (nl : ∀ b, blkOf la b → ¬ S b) (key v : ByteArray)
    (hN : ∀ h', Sub h h' → K (.tuple #[.slice la L.length lc, .bool true]) h')
    (hG : ∀ h1 h' P' hg' I' a' c', PgAt h1 pb jb db S n D P' → Keep S h h1 → TreeS (P'.pgs D n) (P'.now.r k) hg' (kvPut key v L) I' → MvT n D k P P' I I' → NewKV h1 h' a' c' (kvPut key v L) → K (.tuple #[.slice a' (kvPut key v L).length c', .bool true]) h') :
    CallsH Tryd.prog law15_put.id #[.pointer (some ⟨pb, 0, none⟩), .pointer (some ⟨tb, 0, none⟩), .slice la L.length lc, .string key, .string v] h K := by
  have hhg := TT.high
  have hn := E.n2
  have hfl := freeN_le P n
  apply law15_put.calls
  unfold law15_put.W
  refine free_spec E ⟨_, rfl, height_spec E T hk TT.tree (by omega) fun h5 s5 => ⟨_, rfl, free_spec (E.sub s5) ⟨_, rfl, height_spec (E.sub s5) (Blk.sub T s5) hk TT.tree (by omega) fun h11 s11 => ⟨_, rfl, ?_⟩⟩⟩⟩
  have s := s5.trans s11
  refine put_spec (E.sub s) (Blk.sub T s) nt hk TT key v (fun hm => ⟨_, rfl, refMay_spec key v ⟨_, rfl, ?_⟩⟩) (fun hm hf h14 s14 => ⟨_, rfl, refMay_spec key v ⟨_, rfl, ?_⟩⟩) fun hm hf h14 P' hg' I' E' kp TT' M hl => ⟨_, rfl, refMay_spec key v ⟨_, rfl, ?_⟩⟩
  · rw [hm]
    refine split_not (fun _ => ?_) fun e => by cases e
    have : hb ((1 : Int) == 1) = true := by rw [hb_eq]; rfl
    rw [this]
    exact hN h11 s
  · rw [hm]
    have ev : hb (decide (((P.freeN n : Nat) : Int) > ((hg : Nat) : Int))) = false := by rw [hb_eq]; exact decide_eq_false (by omega)
    rw [ev]
    refine split_not (fun e => by cases e) fun _ => split_not (fun _ => ?_) fun e => by cases e
    have : hb ((5 : Int) == 5) = true := by rw [hb_eq]; rfl
    rw [this]
    exact hN h14 (s.trans s14)
  · rw [hm]
    have ev : hb (decide (((P.freeN n : Nat) : Int) > ((hg : Nat) : Int))) = true := by rw [hb_eq]; exact decide_eq_true (by omega)
    rw [ev]
    have H14 : SliceAt h14 la (L.length * 2) (kvCells L) := (H.sub s).keep kp nl
    refine split_not (fun e => by cases e) fun _ => split_not (fun e => by cases e) fun _ => kvPut_spec H14 hc hL key v fun h20 a' c' N => ⟨_, _, _, rfl, split_eq (fun _ => free_spec (E'.sub N.1) ⟨_, rfl, ?_⟩) fun e => absurd rfl e⟩
    have fr := M.free
    have : hb (decide (((P'.freeN n : Nat) : Int) ≥ IntKind.i64.wrap (IntKind.i64.wrap (((P.freeN n : Nat) : Int) - ((hg : Nat) : Int)) - 1))) = true := by
      rw [hb_eq, wid (x := ((P.freeN n : Nat) : Int) - ((hg : Nat) : Int)) (by omega) (by omega), wid (by omega) (by omega)]
      exact decide_eq_true (by omega)
    rw [this]
    exact hG h14 h20 P' hg' I' a' c' E' ((s.keep S).trans kp) TT' M N
end Go.Proofs.YthbogjbcecmopaaDoor
namespace Go.Proofs.YthbogjbcecmopaaDoor
open Go.Gx
set_option maxRecDepth 100000
set_option linter.unusedVariables false
def ptl (q : Option Addr × Nat × List KV) : List Value := [.slice q.1 q.2.2.length q.2.1]
variable {h h0 x x' : Hp} {K : Value → Hp → Prop} {n m tb pb jb db : Nat} {S S' : Nat → Prop} {D D' : Dk} {P P' : Pg} {la ga pa : Option Addr} {lc gc pc : Nat} {L G L' : List KV} {Qp : List (Option Addr × Nat × List KV)}
structure LsAt (x : Hp) (S : Nat → Prop) (a : Option Addr) (c : Nat) (L : List KV) : Prop where
  own : OwnR kvC 2 x 41 a c L
  nS : ∀ b, blkOf a b → ¬ S b
theorem LsAt.nil (x : Hp) (S : Nat → Prop) : LsAt x S none 0 [] := ⟨OwnR.nil _ _, fun b ⟨o, s, e⟩ => by cases e⟩
theorem LsAt.step {a : Option Addr} {c : Nat} (A : LsAt x S a c L) (st : Step S x S' x') : LsAt x' S' a c L :=
  ⟨A.own.keep st.1 A.nS, fun b hb hs => (st.2 b hs).elim (A.nS b hb) fun h => Own.in_heap A.own hb h⟩
theorem LsAt.ne {a : Option Addr} {c : Nat} (A : LsAt x S a c L) (O : OwnR ptl 1 x 38 pa pc Qp) : ∀ b, blkOf a b → ¬ blkOf pa b := by
  intro b ⟨o, s, e⟩ ⟨o2, s2, e2⟩
  rcases A.own.2.2 with ⟨e3, _⟩ | ⟨b1, r1, e3, B1, _⟩
  · rw [e3] at e; cases e
  · rcases O.2.2 with ⟨e4, _⟩ | ⟨b2, r2, e4, B2, _⟩
    · rw [e4] at e2; cases e2
    · rw [e3] at e; cases e
      rw [e4] at e2; cases e2
      exact absurd (B1.inj B2).1 (by decide)
theorem LsAt.new {h1 : Hp} {a : Option Addr} {c : Nat} (E : PgAt h1 pb jb db S n D P) (N : NewKV h1 x a c L) : LsAt x S a c L := ⟨N.row.own, fun b hb => S_out E (N.2.1 b hb)⟩
structure PlB (h0 x : Hp) (S : Nat → Prop) (tb pb : Nat) (la : Option Addr) (lc : Nat) (L : List KV) (ga : Option Addr) (gc : Nat) (G : List KV) (pa : Option Addr) (pc : Nat) (Qp : List (Option Addr × Nat × List KV)) : Prop where
  t : TrAt x tb pb 1
  nt : ¬ S tb
  sub : Sub h0 x
  new : ∀ c, S c → h0 c = none
  l : LsAt x S la lc L
  g : LsAt x S ga gc G
  p : OwnR ptl 1 x 38 pa pc Qp
  pS : ∀ b, blkOf pa b → ¬ S b ∧ h0 b = none
  q : ∀ e ∈ Qp, LsAt x S e.1 e.2.1 e.2.2
theorem PlB.step (B : PlB h0 x S tb pb la lc L ga gc G pa pc Qp) (st : Step S x S' x') : PlB h0 x' S' tb pb la lc L ga gc G pa pc Qp := by
  have nn : ∀ {c : Nat} {t : TypeId} {vs : List Value}, Blk x c t vs → ¬ S c → ¬ S' c := fun {c t vs} hb hn hs => (st.2 c hs).elim hn fun h => by unfold Blk at hb; rw [hb] at h; cases h
  refine ⟨Blk.keep B.t st.1 B.nt, nn B.t B.nt, st.1.sub B.sub B.new, fun c hc => (st.2 c hc).elim (B.new c) fun h => B.sub.none h, B.l.step st, B.g.step st, B.p.keep st.1 fun b hb => (B.pS b hb).1, fun b hb => ⟨fun hs => (st.2 b hs).elim (B.pS b hb).1 fun h => Own.in_heap B.p hb h, (B.pS b hb).2⟩, fun e he => (B.q e he).step st⟩
theorem PlB.keep (B : PlB h0 x S tb pb la lc L ga gc G pa pc Qp) (k : Keep S x x') : PlB h0 x' S tb pb la lc L ga gc G pa pc Qp := B.step ⟨k, fun _ h => .inl h⟩
def TS (D : Dk) (n m : Nat) (H : Hd) (d : List Ch) (L : List KV) : Prop := (∃ hg I, TreeS ((⟨H, H, d, []⟩ : Pg).pgs D n) (H.r 1) hg L I) ∧ (∀ t, t < 4 → t ≠ 1 → H.r t = 0) ∧ H.s ≤ m
theorem TS.mono {H : Hd} {d : List Ch} {m' : Nat} (T : TS D n m H d L) (h : m ≤ m') : TS D n m' H d L := ⟨T.1, T.2.1, by have := T.2.2; omega⟩
structure PlT (D : Dk) (n m : Nat) (P : Pg) (L G : List KV) (Qp : List (Option Addr × Nat × List KV)) : Prop where
  now : TS D n m P.now P.d L
  good : TS D n m P.good [] G
  len : P.pts.length = Qp.length
  pts : ∀ (i : Nat) (p : Hd × List Ch) (q : Option Addr × Nat × List KV), P.pts[i]? = some p → Qp[i]? = some q → TS D n m p.1 p.2 q.2.2
theorem PlT.mono {m' : Nat} (T : PlT D n m P L G Qp) (h : m ≤ m') : PlT D n m' P L G Qp := ⟨T.now.mono h, T.good.mono h, T.len, fun i p q h1 h2 => (T.pts i p q h1 h2).mono h⟩
theorem PlT.set {hg' : Nat} {I I' : List Nat} (T : PlT D n m P L G Qp) (M : MvT n D 1 P P' I I') (TT : TreeS (P'.pgs D n) (P'.now.r 1) hg' L' I') : PlT D n m P' L' G Qp := by
  refine ⟨⟨⟨hg', I', TT⟩, fun t ht h1 => (M.roots t h1).trans (T.now.2.1 t ht h1), by rw [M.ser]; exact T.now.2.2⟩, by rw [M.good]; exact T.good, by rw [M.pts]; exact T.len, fun i p q h1 h2 => T.pts i p q (by rw [← M.pts]; exact h1) h2⟩
theorem PlT.back {i : Nat} {p : Hd × List Ch} {q : Option Addr × Nat × List KV} (T : PlT D n m P L G Qp) (h1 : P.pts[i]? = some p) (h2 : Qp[i]? = some q) : PlT D n m (P.back i p) q.2.2 G (Qp.take i) := by
  refine ⟨T.pts i p q h1 h2, T.good, by show (P.pts.take i).length = _; rw [List.length_take, List.length_take, T.len], fun j p' q' g1 g2 => ?_⟩
  have g1 : (P.pts.take i)[j]? = some p' := g1
  rw [List.getElem?_take] at g1 g2
  split at g1
  · rename_i hj
    rw [if_pos hj] at g2
    exact T.pts j p' q' g1 g2
  · cases g1
end Go.Proofs.YthbogjbcecmopaaDoor
namespace Go.Proofs.YthbogjbcecmopaaDoor
open Go.Gx
set_option maxRecDepth 100000
set_option linter.unusedVariables false
structure Op6 where
  a : Int
  b : Int
  c : Int
  x : ByteArray
  y : ByteArray
  z : ByteArray
def op6C (o : Op6) : List Value := [.int .i64 o.a, .int .i64 o.b, .int .i64 o.c, .string o.x, .string o.y, .string o.z]
theorem op6C_len (o : Op6) : (op6C o).length = 6 := rfl
def intvC (n : Int) : List Value := [.int .i64 n]
theorem intvC_len (n : Int) : (intvC n).length = 1 := rfl
theorem op6_row {W : World} {a : Option Addr} {l : Nat} (hr : RowOk Tryd.prog W 31 a l) : ∃ os : List Op6, os.length = l ∧ RowAt op6C 6 (heapOf W) a os := by
  have ek : kds Tryd.prog 31 = [.int .i64, .int .i64, .int .i64, .str, .str, .str] := by kernel_rfl
  have es : Tryd.prog.cellsOf 31 = 6 := by kernel_rfl
  obtain ⟨os, h1, h2, _⟩ := hr.row (f := op6C) (sz := 6) (p := fun _ => True) op6C_len (by decide) es fun cs hk => by
    rw [ek] at hk
    obtain ⟨_, _, rfl, ⟨u, rfl, _⟩, k1⟩ := hk.cons_eq
    obtain ⟨_, _, rfl, ⟨n, rfl, _⟩, k2⟩ := k1.cons_eq
    obtain ⟨_, _, rfl, ⟨w, rfl, _⟩, k3⟩ := k2.cons_eq
    obtain ⟨_, _, rfl, ⟨x, rfl, _⟩, k4⟩ := k3.cons_eq
    obtain ⟨_, _, rfl, ⟨y, rfl, _⟩, k5⟩ := k4.cons_eq
    obtain ⟨_, _, rfl, ⟨z, rfl, _⟩, k6⟩ := k5.cons_eq
    obtain rfl := k6.nil_eq
    exact ⟨⟨u, n, w, x, y, z⟩, rfl, trivial⟩
  exact ⟨os, h1, h2⟩
theorem intv_row {W : World} {a : Option Addr} {l : Nat} (hr : RowOk Tryd.prog W 3 a l) : ∃ os : List Int, os.length = l ∧ RowAt intvC 1 (heapOf W) a os := by
  have ek : kds Tryd.prog 3 = [.int .i64] := by kernel_rfl
  have es : Tryd.prog.cellsOf 3 = 1 := by kernel_rfl
  obtain ⟨os, h1, h2, _⟩ := hr.row (f := intvC) (sz := 1) (p := fun _ => True) intvC_len (by decide) es fun cs hk => by
    rw [ek] at hk
    obtain ⟨_, _, rfl, ⟨u, rfl, _⟩, k1⟩ := hk.cons_eq
    obtain rfl := k1.nil_eq
    exact ⟨u, rfl, trivial⟩
  exact ⟨os, h1, h2⟩
end Go.Proofs.YthbogjbcecmopaaDoor
