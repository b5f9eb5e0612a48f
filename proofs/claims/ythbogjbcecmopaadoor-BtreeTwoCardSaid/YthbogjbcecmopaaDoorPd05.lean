/- The entries of a tree from one key to another one. Conditions: the pager stands as it is named. strings.Repeat as the library's shelf has it, laid at this program; the entry behind a key; all entries. Conditions: the pager stands as it is named. The entries beside a key; all entries. Conditions: the pager stands as it is named. The entry ahead of a key; all entries. Conditions: the pager stands as it is named. A node's bytes, and that they are read as it. Conditions: it fits into a page. A node's bytes, made; stored. Conditions: it fits into a page. Trees in cells: maps in parts, nodes in parts. Conditions: those that each lemma names. Nodes in parts, and put together. Conditions: those that each lemma names. What the pager's own steps make of the pages as nodes. Conditions: those that each lemma names. Slices that are cut to their length, and appends to them; nodes over them. Conditions: those that each lemma names. Cells replaced; what a put makes of a page. Conditions: those that each lemma names. A node stored, or parted and stored: what becomes of the trees. Conditions: those that each lemma names. Two pages put together: what becomes of the trees. Conditions: those that each lemma names. A node's entries: put, parted. Conditions: those that each contract names. What an insertion makes of the trees: steps of its law. Conditions: those that each lemma names. An entry put below a page. Conditions: the pager stands, the tree is right, as many pages are free as it may need. Put. Conditions: the pager stands, the tree is right. Two pages put together, if they fit. Conditions: the pager stands, the node above stands in memory. -/
import Derived.Test.YthbogjbcecmopaaDoorPd04
import Derived.Shelf.Strings.Repeat
namespace Go.Proofs.YthbogjbcecmopaaDoor
open Go.Gx
set_option maxRecDepth 100000
set_option linter.unusedVariables false
variable {h : Hp} {K : Value → Hp → Prop} {pb jb db n : Nat} {S : Nat → Prop} {D : Dk} {P : Pg} {tb k : Nat}
def kvC (p : KV) : List Value := [.string p.1, .string p.2]
theorem kvC_len (p : KV) : (kvC p).length = 2 := rfl
theorem kvC_plain (p : KV) : plainP (kvC p) := plainP_of rfl
theorem appTKV : AppT Tryd.prog 41 2 32 := AppT.of (by kernel_rfl)
structure OutAt (h : Hp) (k5 : Nat) (M : Nat → Prop) (L : List KV) : Prop where
  ex : ∃ a c, Blk h k5 38 [.slice a L.length c] ∧ OwnR kvC 2 h 41 a c L ∧ (∀ b, blkOf a b → b ≠ k5) ∧ ∀ b, M b ↔ (b = k5 ∨ blkOf a b)
theorem OutAt.sub {h' : Hp} {k5 : Nat} {M : Nat → Prop} {L : List KV} (O : OutAt h k5 M L) (s : Sub h h') : OutAt h' k5 M L := by
  obtain ⟨a, c, h1, h2, h3, h4⟩ := O.ex
  exact ⟨a, c, h1.sub s, h2.sub s, h3, h4⟩
theorem OutAt.in_heap {k5 : Nat} {M : Nat → Prop} {L : List KV} (O : OutAt h k5 M L) {c : Nat} (hc : M c) : h c ≠ none := by
  obtain ⟨a, c', h1, h2, h3, h4⟩ := O.ex
  rcases (h4 c).1 hc with rfl | hc
  · intro e; unfold Blk at h1; rw [h1] at e; cases e
  · exact Own.in_heap h2 hc
def rg (mx : Nat) (out R : List KV) : List KV := out ++ R.take (mx - out.length)
theorem rg_nil (mx : Nat) (out : List KV) : rg mx out [] = out := by unfold rg; simp
theorem rg_full {mx : Nat} {out : List KV} (h : mx ≤ out.length) (R : List KV) : rg mx out R = out := by
  unfold rg; rw [Nat.sub_eq_zero_of_le h, List.take_zero, List.append_nil]
theorem rg_append (mx : Nat) (out A B : List KV) : rg mx out (A ++ B) = rg mx (rg mx out A) B := by
  unfold rg
  rw [List.take_append, List.append_assoc]
  congr 3
  rw [List.length_append, List.length_take]
  omega
theorem rg_one {mx : Nat} {out : List KV} (h : out.length < mx) (p : KV) : rg mx out [p] = out ++ [p] := by
  unfold rg
  obtain ⟨r, hr⟩ : ∃ r, mx - out.length = r + 1 := ⟨mx - out.length - 1, by omega⟩
  rw [hr, List.take_succ_cons, List.take_nil]
theorem rg_len (mx : Nat) (out R : List KV) : (rg mx out R).length ≤ out.length + R.length := by
  unfold rg; rw [List.length_append, List.length_take]; omega
structure RwAt (h : Hp) (tb k1 k2 k3 k4 k5 k6 : Nat) (f t : ByteArray) (mo : Int) : Prop where
  tt : Blk h k1 26 [.pointer (some ⟨tb, 0, none⟩)]
  ff : Blk h k2 9 [.string f]
  tn : Blk h k3 9 [.string t]
  mo : Blk h k4 3 [.int .i64 mo]
  w : Blk h k6 123 [.func (.func 72) #[] #[.pointer (some ⟨k1, 0, none⟩), .pointer (some ⟨k2, 0, none⟩), .pointer (some ⟨k5, 0, none⟩), .pointer (some ⟨k4, 0, none⟩), .pointer (some ⟨k3, 0, none⟩), .pointer (some ⟨k6, 0, none⟩)]]
section
variable {k1 k2 k3 k4 k5 k6 : Nat} {f t : ByteArray} {mo : Int}
theorem RwAt.sub {h' : Hp} (C : RwAt h tb k1 k2 k3 k4 k5 k6 f t mo) (s : Sub h h') : RwAt h' tb k1 k2 k3 k4 k5 k6 f t mo := ⟨C.tt.sub s, C.ff.sub s, C.tn.sub s, C.mo.sub s, C.w.sub s⟩
theorem RwAt.keep {S' : Nat → Prop} {h' : Hp} (C : RwAt h tb k1 k2 k3 k4 k5 k6 f t mo) (s : Keep S' h h') (hn : ∀ c, c = k1 ∨ c = k2 ∨ c = k3 ∨ c = k4 ∨ c = k6 → ¬ S' c) : RwAt h' tb k1 k2 k3 k4 k5 k6 f t mo :=
  ⟨C.tt.keep s (hn _ (.inl rfl)), C.ff.keep s (hn _ (.inr (.inl rfl))), C.tn.keep s (hn _ (.inr (.inr (.inl rfl)))), C.mo.keep s (hn _ (.inr (.inr (.inr (.inl rfl))))), C.w.keep s (hn _ (.inr (.inr (.inr (.inr rfl)))))⟩
theorem RwAt.in_heap (C : RwAt h tb k1 k2 k3 k4 k5 k6 f t mo) {c : Nat} (hc : c = k1 ∨ c = k2 ∨ c = k3 ∨ c = k4 ∨ c = k6) : ∃ o, h c = some o := by
  rcases hc with rfl | rfl | rfl | rfl | rfl
  · exact ⟨_, C.tt⟩
  · exact ⟨_, C.ff⟩
  · exact ⟨_, C.tn⟩
  · exact ⟨_, C.mo⟩
  · exact ⟨_, C.w⟩
end
theorem not_in_lo {f t : ByteArray} {p : KV} (h : blt p.1 f = true) : kvIn f t p = false := by unfold kvIn; rw [h]; rfl
theorem not_in_hi {f t : ByteArray} {p : KV} (h : blt t p.1 = true) : kvIn f t p = false := by
  unfold kvIn
  rw [blt_asymm h, decide_eq_false (fun e => blt_ne h e.symm)]
  simp
theorem filter_none {L : List KV} {q : KV → Bool} (h : ∀ p ∈ L, q p = false) : L.filter q = [] := List.filter_eq_nil_iff.2 fun p hp e => by rw [h p hp] at e; cases e
set_option maxHeartbeats 4000000 in
theorem range_walk {k1 k2 k3 k4 k5 k6 : Nat} {f t : ByteArray} {mo : Int} : ∀ (m : Nat) {h : Hp} {K : Value → Hp → Prop} {id : Nat} {lo hi : ByteArray} {M : Nat → Prop} {out : List KV}, Tr (P.pgs D n) m id lo hi → OutAt h k5 M out → PgAt h pb jb db S n D P → TrAt h tb pb k → RwAt h tb k1 k2 k3 k4 k5 k6 f t mo →
      (∀ c, S c → ¬ M c) → ¬ M tb → (∀ c, c = k1 ∨ c = k2 ∨ c = k3 ∨ c = k4 ∨ c = k6 → ¬ M c) → out.length + (ents (P.pgs D n) m id).length ≤ 1000000 →
      (∀ h' M', OutAt h' k5 M' (rg mo.toNat out ((ents (P.pgs D n) m id).filter (kvIn f t))) → Step M h M' h' → K (.tuple #[]) h') →
      CallsH Tryd.prog 72 #[.int .i64 (id : Nat), .pointer (some ⟨k1, 0, none⟩), .pointer (some ⟨k2, 0, none⟩), .pointer (some ⟨k5, 0, none⟩), .pointer (some ⟨k4, 0, none⟩), .pointer (some ⟨k3, 0, none⟩), .pointer (some ⟨k6, 0, none⟩)] h K := by
  intro m
  induction m with
  | zero =>
    intro h K id lo hi M out Tm O E T W nS nt nW hB hK
    have hpk := pgs_ok E
    apply btree_Tree_Range_1.calls
    unfold btree_Tree_Range_1.W
    obtain ⟨nd, g1, g2, g3⟩ := Tm
    refine ⟨_, W.tt.cell' 0 rfl, fnI (cap := []) (by kernel_rfl) (load_spec E T _ (fun e => ?_) fun nd' e y k' N => ⟨_, _, rfl, split_ne (fun e => absurd rfl e) fun _ => ?_⟩)⟩
    · rw [show P.pgs D n id = none from e] at g1; cases g1
    have e : P.pgs D n id = some nd' := e
    rw [e] at g1; cases g1
    obtain ⟨a, c, Ne, fr⟩ := N.ex
    have ll := (hpk id nd e).len
    refine ⟨k', 0, rfl, _, Ne.c0, split_eq (fun ek => ?_) fun ek => ?_⟩
    · unfold Nd.kind at ek; rw [g2] at ek; cases ek
    have srt : kvSorted nd.kv := (keysOk_iff.1 g3).2
    have Wy := W.sub N.sub
    have eent : ents (P.pgs D n) 0 id = nd.kv := kvs_eq e
    rw [eent] at hB hK
    refine ⟨k', 0, rfl, _, _, _, Ne.c2, _, Wy.ff.cell' 0 rfl, fnI (cap := []) (by kernel_rfl) (place_spec Ne srt (by omega) f fun z sz => ⟨_, rfl, sz, by omega, ?_, ?_⟩)⟩
    · have := kvAt_le f nd.kv
      rw [nd.kv_len] at this
      show ((kvAt f nd.kv : Nat) : Int) ≤ ((nd.l.length : Nat) : Int)
      omega
    have hat := kvAt_le f nd.kv
    rw [nd.kv_len] at hat
    rw [Int.toNat_natCast]
    have Nz := Ne.sub sz
    have sxz := N.sub.trans sz
    have Oz := O.sub sxz
    have Wz := W.sub sxz
    have nk : ¬ M k' := fun hm => O.in_heap hm N.k0
    have na : ∀ b, blkOf a b → ¬ M b := fun b hb hm => O.in_heap hm (fr b hb)
    -- what the entries ahead of the place are
    have e1 : nd.kv.filter (kvIn f t) = (nd.kv.drop (kvAt f nd.kv)).filter (kvIn f t) := by
      conv => lhs; rw [← List.take_append_drop (kvAt f nd.kv) nd.kv, List.filter_append]
      rw [filter_none, List.nil_append]
      intro p hp
      obtain ⟨i, hi⟩ := List.mem_iff_getElem?.1 hp
      rw [List.getElem?_take] at hi
      split at hi
      · exact not_in_lo (kvAt_before f nd.kv i p hi (by assumption))
      · cases hi
    rw [e1] at hK
    have Rz : RowAt enC 3 z (slA c (kvAt f nd.kv) 3 a) (nd.l.drop (kvAt f nd.kv)) := by
      have := RowAt.part enC_len Nz.row (c := c) (i := kvAt f nd.kv) (n := nd.l.length - kvAt f nd.kv) Nz.le (by omega)
      rw [List.take_of_length_le (by rw [List.length_drop]; omega)] at this
      exact this
    have hsl : ∀ b, blkOf (slA c (kvAt f nd.kv) 3 a) b → blkOf a b := by
      intro b hb
      obtain ⟨o, s, hb⟩ := hb
      unfold slA at hb
      split at hb
      · exact ⟨o, s, hb⟩
      · cases a with
        | none => cases hb
        | some a0 =>
          have hb : some (a0.add _) = some _ := hb
          have h2 : ∀ q, (a0.add q).block = a0.block := fun q => by unfold Addr.add; split <;> rfl
          have h1 : (a0.add _).block = b := congrArg Addr.block (Option.some.inj hb)
          rw [h2] at h1
          subst h1
          exact ⟨a0.off, a0.spot, rfl⟩
    refine ⟨fun i x m0 => ∃ (q : Nat) (Mx : Nat → Prop), i = (q : Int) ∧ q ≤ nd.l.length - kvAt f nd.kv ∧ m0 = nd.l.length - kvAt f nd.kv - q ∧ OutAt x k5 Mx (rg mo.toNat out (((nd.kv.drop (kvAt f nd.kv)).take q).filter (kvIn f t))) ∧ Step M z Mx x, ⟨_, 0, M, rfl, Nat.zero_le _, rfl, by rw [List.take_zero, List.filter_nil, rg_nil]; exact Oz, Step.refl _ _⟩, ?_⟩
    rintro i x m0 ⟨q, Mx, rfl, hq, rfl, Ox, st⟩
    have Rx := Rz.keep st.1 fun b hb => na b (hsl b hb)
    have Wx := Wz.keep st.1 nW
    have done : ∀ {R : List KV}, (nd.kv.drop (kvAt f nd.kv)).filter (kvIn f t) = ((nd.kv.drop (kvAt f nd.kv)).take q).filter (kvIn f t) ++ R → rg mo.toNat (rg mo.toNat out (((nd.kv.drop (kvAt f nd.kv)).take q).filter (kvIn f t))) R = rg mo.toNat out (((nd.kv.drop (kvAt f nd.kv)).take q).filter (kvIn f t)) → K (.tuple #[]) x := fun {R} h1 h2 => by
      refine hK x Mx ?_ ((Step.sub sxz).trans st)
      rw [h1, rg_append, h2]; exact Ox
    have spl : (nd.kv.drop (kvAt f nd.kv)).filter (kvIn f t) = ((nd.kv.drop (kvAt f nd.kv)).take q).filter (kvIn f t) ++ ((nd.kv.drop (kvAt f nd.kv)).drop q).filter (kvIn f t) := by
      rw [← List.filter_append, List.take_append_drop]
    refine split_dec (fun g => ?_) fun g => ?_
    · have g : (q : Int) < ((nd.l.length - kvAt f nd.kv : Nat) : Int) := g
      have hlt : kvAt f nd.kv + q < nd.l.length := by omega
      have he : nd.l[kvAt f nd.kv + q]? = some nd.l[kvAt f nd.kv + q] := List.getElem?_eq_getElem hlt
      have hed : (nd.l.drop (kvAt f nd.kv))[q]? = some nd.l[kvAt f nd.kv + q] := by rw [List.getElem?_drop]; exact he
      generalize nd.l[kvAt f nd.kv + q] = en at he hed
      have hkv := Nd.kv_get he
      have hkd : (nd.kv.drop (kvAt f nd.kv))[q]? = some en.kv := by rw [List.getElem?_drop]; exact hkv
      obtain ⟨b, o, ea, hc⟩ := RowAt.get enC_len (by decide) Rx hed
      have e11 : IntKind.i64.wrap ((q : Int) + 1) = ((q + 1 : Nat) : Int) := by rw [wid (by omega) (by omega)]; omega
      rw [e11]
      have gef : blt en.key f = false := Go.Proofs.YthbogjbcecmopaaDoor.kvAt_after srt hkv (by omega)
      refine ⟨by omega, g, b, o, ea, _, by rw [Int.toNat_natCast]; exact hc 0 _ rfl, _, by rw [Int.toNat_natCast]; exact hc 1 (.string en.val) rfl, _, by rw [Int.toNat_natCast]; exact hc 2 (.int .i64 (en.kid : Nat)) rfl, _, Wx.tn.cell' 0 rfl, ?_⟩
      rw [bltS_val]
      refine split_not (fun e3 => done spl ?_) fun e3 => ?_
      · have hno : ((nd.kv.drop (kvAt f nd.kv)).drop q).filter (kvIn f t) = [] := filter_none ?_
        · rw [hno, rg_nil]
        intro p hp
        have gt : blt t en.key = true := by rw [← ble_not, e3]; rfl
        obtain ⟨j, hj⟩ := List.mem_iff_getElem?.1 hp
        rw [List.getElem?_drop, List.getElem?_drop] at hj
        refine not_in_hi ?_
        rcases Nat.eq_zero_or_pos j with rfl | hj0
        · rw [Nat.add_zero, hkv] at hj; cases hj; exact gt
        · exact blt_trans gt (sorted_lt srt hkv hj (by omega))
      · obtain ⟨oa, oc, o1, o2, o3, o4⟩ := Ox.ex
        refine ⟨_, _, _, o1.cell' 0 rfl, _, Wx.mo.cell' 0 rfl, split_dec (fun gm => done spl ?_) fun gm => ?_⟩
        · have gm : (((rg mo.toNat out (((nd.kv.drop (kvAt f nd.kv)).take q).filter (kvIn f t))).length : Nat) : Int) ≥ mo := gm
          exact rg_full (by omega) _
        · have gm : ¬ (((rg mo.toNat out (((nd.kv.drop (kvAt f nd.kv)).take q).filter (kvIn f t))).length : Nat) : Int) ≥ mo := gm
          have isin : kvIn f t en.kv = true := by
            unfold kvIn
            rw [beqS_val] at e3
            show (!blt en.key f && (blt en.key t || decide (en.key = t))) = true
            rw [gef, e3]; rfl
          have nx : rg mo.toNat out (((nd.kv.drop (kvAt f nd.kv)).take (q + 1)).filter (kvIn f t)) = rg mo.toNat out (((nd.kv.drop (kvAt f nd.kv)).take q).filter (kvIn f t)) ++ [en.kv] := by
            rw [List.take_add_one, hkd, List.filter_append, rg_append]
            have : ([en.kv]).filter (kvIn f t) = [en.kv] := by rw [List.filter_cons_of_pos isin]; rfl
            show rg _ _ (([en.kv]).filter (kvIn f t)) = _
            rw [this, rg_one (by omega)]
          have rl := rg_len mo.toNat out (((nd.kv.drop (kvAt f nd.kv)).take q).filter (kvIn f t))
          have fl := (((nd.kv.drop (kvAt f nd.kv)).take q).filter_sublist (p := kvIn f t)).length_le
          rw [List.length_take, List.length_drop, nd.kv_len] at fl
          rw [nd.kv_len] at hB
          refine ⟨_, _, _, o1.cell' 0 rfl, fun k72 hk72 => ⟨kvC en.kv, (Blk.new x k72 41 (kvC en.kv)).slice rfl, ?_⟩⟩
          have s72 := Sub.upd hk72 (.cells (kvC en.kv).toArray 41 (0, 0))
          refine ⟨fun a' c' x' => ∃ Mx', StoreOk x' k5 0 1 ∧ OutAt (x'.put k5 0 [.slice a' ((rg mo.toNat out (((nd.kv.drop (kvAt f nd.kv)).take q).filter (kvIn f t))).length + 1) c']) k5 Mx' (rg mo.toNat out (((nd.kv.drop (kvAt f nd.kv)).take q).filter (kvIn f t)) ++ [en.kv]) ∧ Step Mx x Mx' (x'.put k5 0 [.slice a' ((rg mo.toNat out (((nd.kv.drop (kvAt f nd.kv)).take q).filter (kvIn f t))).length + 1) c']), ?_, ?_⟩
          · rintro a' c' x' ⟨Mx', so, O', st'⟩
            exact ⟨so, nd.l.length - kvAt f nd.kv - (q + 1), by omega, q + 1, Mx', rfl, by omega, rfl, by rw [nx]; exact O', st.trans st'⟩
          · generalize rg mo.toNat out (((nd.kv.drop (kvAt f nd.kv)).take q).filter (kvIn f t)) = ou at o1 o2 rl ⊢
            refine append_ownR appTKV kvC_len kvC_plain (M := [en.kv]) (o2.sub s72) rfl rfl (rowC_one _).symm ?_ fun a' c' x' O' kp nb => ?_
            · show (2 * (ou.length + 1) + 768) * 32 ≤ _
              omega
            · have Bx : Blk x' k5 38 _ := (o1.sub s72).keep kp fun hb => o3 _ hb rfl
              have nb' : ∀ b, blkOf a' b → blkOf oa b ∨ x b = none := fun b hb => (nb b hb).imp (fun h => h) s72.none
              have ne' : ∀ b, blkOf a' b → b ≠ k5 := fun b hb e => by
                subst e
                rcases nb' b hb with h1 | h1
                · exact o3 b h1 rfl
                · unfold Blk at o1; rw [o1] at h1; cases h1
              refine ⟨fun c => c = k5 ∨ blkOf a' c, Bx.store (by show 1 ≤ 1; decide), ⟨a', c', ?_, O'.keep (Keep.put (fun c => c = k5) _ _ _ rfl) ne', ne', fun b => Iff.rfl⟩, ?_, ?_⟩
              · rw [List.length_append]; exact Bx.put 0 _
              · exact ((s72.keep _).trans (kp.mono fun c hc => (o4 c).2 (.inr hc))).trans (Keep.put _ _ _ _ ((o4 k5).2 (.inl rfl)))
              · rintro c (rfl | hc)
                · exact .inl ((o4 _).2 (.inl rfl))
                · exact (nb' c hc).imp (fun hb => (o4 c).2 (.inr hb)) fun h => h
    · have g : ¬ (q : Int) < ((nd.l.length - kvAt f nd.kv : Nat) : Int) := g
      refine done spl ?_
      have hno : (nd.kv.drop (kvAt f nd.kv)).drop q = [] := List.drop_eq_nil_of_le (by rw [List.length_drop, nd.kv_len]; omega)
      rw [hno, List.filter_nil, rg_nil]
  | succ m ih =>
    intro h K id lo hi M out Tm O E T W nS nt nW hB hK
    have hpk := pgs_ok E
    apply btree_Tree_Range_1.calls
    unfold btree_Tree_Range_1.W
    obtain ⟨nd, g1, g2, g3, g4⟩ := Tm
    refine ⟨_, W.tt.cell' 0 rfl, fnI (cap := []) (by kernel_rfl) (load_spec E T _ (fun e => ?_) fun nd' e y k' N => ⟨_, _, rfl, split_ne (fun e => absurd rfl e) fun _ => ?_⟩)⟩
    · rw [show P.pgs D n id = none from e] at g1; cases g1
    have e : P.pgs D n id = some nd' := e
    rw [e] at g1; cases g1
    obtain ⟨a, c, Ne, fr⟩ := N.ex
    have ll := (hpk id nd e).len
    have kl := nd.kids_len
    refine ⟨k', 0, rfl, _, Ne.c0, split_eq (fun ek => ?_) fun ek => ?_⟩
    rotate_left
    · unfold Nd.kind at ek; rw [g2] at ek; exact absurd rfl ek
    have srt : kvSorted nd.kv := (keysOk_iff.1 g3).2
    have Wy := W.sub N.sub
    have hbe := kvBe_le f nd.kv
    rw [nd.kv_len] at hbe
    have eent : ents (P.pgs D n) (m + 1) id = nd.kids.flatMap (ents (P.pgs D n) m) := by
      rw [← kidsOf_eq e]; cases m <;> rfl
    rw [eent] at hB hK
    have sub := fun j c hj => (g4 j c hj).ents_ok hpk
    refine ⟨_, Wy.ff.cell' 0 rfl, fnI (cap := []) (by kernel_rfl) (below_spec Ne srt (by omega) f fun z sz => ⟨_, rfl, ?_⟩)⟩
    have Nz := Ne.sub sz
    have sxz := N.sub.trans sz
    have Oz := O.sub sxz
    have Wz := W.sub sxz
    have Ez := E.sub sxz
    have Tz : TrAt z tb pb k := Blk.sub T sxz
    have nk : ¬ M k' := fun hm => O.in_heap hm N.k0
    have na : ∀ b, blkOf a b → ¬ M b := fun b hb hm => O.in_heap hm (fr b hb)
    have mem_take : ∀ {j : Nat} {p : KV}, p ∈ (nd.kids.take j).flatMap (ents (P.pgs D n) m) → ∃ i c, i < j ∧ nd.kids[i]? = some c ∧ p ∈ ents (P.pgs D n) m c := fun {j p} hp => by
      obtain ⟨c, hc, hp⟩ := List.mem_flatMap.1 hp
      obtain ⟨i, hi⟩ := List.mem_iff_getElem?.1 hc
      rw [List.getElem?_take] at hi
      split at hi
      · exact ⟨i, c, by assumption, hi, hp⟩
      · cases hi
    have mem_drop : ∀ {j : Nat} {p : KV}, p ∈ (nd.kids.drop j).flatMap (ents (P.pgs D n) m) → ∃ i c, j ≤ i ∧ nd.kids[i]? = some c ∧ p ∈ ents (P.pgs D n) m c := fun {j p} hp => by
      obtain ⟨c, hc, hp⟩ := List.mem_flatMap.1 hp
      obtain ⟨i, hi⟩ := List.mem_iff_getElem?.1 hc
      rw [List.getElem?_drop] at hi
      exact ⟨j + i, c, by omega, hi, hp⟩
    have e1 : ((nd.kids.take (kvBe f nd.kv)).flatMap (ents (P.pgs D n) m)).filter (kvIn f t) = [] := by
      refine filter_none fun p hp => ?_
      obtain ⟨i, c, hi, hc, hp⟩ := mem_take hp
      have he : nd.l[i]? = some nd.l[i] := List.getElem?_eq_getElem (by omega)
      have h1 := kvBe_before f nd.kv i _ (Nd.kv_get he) hi
      have h2 := ((sub i c hc).1 p hp).2.1
      rw [Nd.hi_some he] at h2
      exact not_in_lo (blt_le_trans (h2 ((hpk id nd e).key_ne (List.mem_of_getElem? he))) h1)
    refine ⟨fun i x m0 => ∃ (j : Nat) (Mx : Nat → Prop), i = (j : Int) - 1 ∧ kvBe f nd.kv ≤ j ∧ j ≤ nd.kids.length ∧ m0 = nd.kids.length - j ∧ OutAt x k5 Mx (rg mo.toNat out (((nd.kids.take j).flatMap (ents (P.pgs D n) m)).filter (kvIn f t))) ∧ Step M z Mx x, ⟨_, kvBe f nd.kv, M, rfl, Nat.le_refl _, by omega, rfl, by rw [e1, rg_nil]; exact Oz, Step.refl _ _⟩, ?_⟩
    rintro i x m0 ⟨j, Mx, rfl, hjb, hj, rfl, Ox, st⟩
    have keepB : ∀ {c o}, z c = some o → ¬ M c → ¬ Mx c := fun {c o} hc hn => (st.out hc hn).2
    have Ex := Ez.out st.1 nS
    have Tx : TrAt x tb pb k := Blk.keep Tz st.1 nt
    have Wx := Wz.keep st.1 nW
    have Nx := Nz.out st.1 nk na
    have spl : (nd.kids.flatMap (ents (P.pgs D n) m)).filter (kvIn f t) = ((nd.kids.take j).flatMap (ents (P.pgs D n) m)).filter (kvIn f t) ++ ((nd.kids.drop j).flatMap (ents (P.pgs D n) m)).filter (kvIn f t) := by
      rw [← List.filter_append, ← List.flatMap_append, List.take_append_drop]
    have done : rg mo.toNat (rg mo.toNat out (((nd.kids.take j).flatMap (ents (P.pgs D n) m)).filter (kvIn f t))) (((nd.kids.drop j).flatMap (ents (P.pgs D n) m)).filter (kvIn f t)) = rg mo.toNat out (((nd.kids.take j).flatMap (ents (P.pgs D n) m)).filter (kvIn f t)) → K (.tuple #[]) x := fun h2 => by
      refine hK x Mx ?_ ((Step.sub sxz).trans st)
      rw [spl, rg_append, h2]; exact Ox
    have e12 : IntKind.i64.wrap ((j : Int) - 1 + 1) = ((j + 1 : Nat) : Int) - 1 := by rw [wid (by omega) (by omega)]; omega
    rw [e12]
    obtain ⟨oa, oc, o1, o2, o3, o4⟩ := Ox.ex
    refine ⟨fun x' => x = x' ∧ j < nd.kids.length, ?_, k', 0, rfl, _, _, _, Nx.c2, split_dec (fun g => ⟨_, _, _, o1.cell' 0 rfl, _, Wx.mo.cell' 0 rfl, split_dec (fun gm => split_dec (fun g0 => ⟨rfl, ?_⟩) fun g0 => ?_) fun gm => done ?_⟩) fun g => done ?_⟩
    · rintro x' ⟨rfl, hjl⟩
      obtain ⟨c', hc'⟩ : ∃ c', nd.kids[j]? = some c' := ⟨_, List.getElem?_eq_getElem hjl⟩
      refine ⟨_, Wx.w.cell' 0 rfl, fnI (cap := []) (by kernel_rfl) (kid_spec Nx hc' ⟨_, rfl, Sub.refl _, fnI (cap := [_, _, _, _, _, _]) (by kernel_rfl) ?_⟩)⟩
      refine ih (g4 j c' hc') Ox Ex Tx Wx (fun c hc => ?_) (keepB Tz nt) (fun c hc => ?_) ?_ fun h' M' O' st' => ⟨rfl, nd.kids.length - (j + 1), by omega, j + 1, M', rfl, by omega, by omega, rfl, ?_, st.trans st'⟩
      · obtain ⟨o, ho⟩ := Option.ne_none_iff_exists'.1 (Ez.in_heap hc)
        exact keepB ho (nS c hc)
      · obtain ⟨o, ho⟩ := Wz.in_heap hc
        exact keepB ho (nW c hc)
      · have h1 := rg_len mo.toNat out (((nd.kids.take j).flatMap (ents (P.pgs D n) m)).filter (kvIn f t))
        have h2 := (((nd.kids.take j).flatMap (ents (P.pgs D n) m)).filter_sublist (p := kvIn f t)).length_le
        have h3 := (flat_sub (g := ents (P.pgs D n) m) nd.kids (j + 1)).length_le
        rw [flat_take hc', List.length_append] at h3
        omega
      · rw [flat_take hc', List.filter_append, rg_append]; exact O'
    · omega
    · obtain ⟨q, rfl⟩ : ∃ q, j = q + 1 := ⟨j - 1, by omega⟩
      have e13 : ((q + 1 : Nat) : Int) - 1 = ((q : Nat) : Int) := by omega
      rw [e13] at g ⊢
      have g : (q : Int) < (nd.l.length : Int) := g
      have he : nd.l[q]? = some nd.l[q] := List.getElem?_eq_getElem (by omega)
      obtain ⟨b, o, ea, c0, c1, c2⟩ := Nx.get he
      refine ⟨k', 0, rfl, _, _, _, Nx.c2, by omega, g, b, o, ea, _, by rw [Int.toNat_natCast]; exact c0, _, Wx.tn.cell' 0 rfl, ?_⟩
      rw [bltS_val]
      refine split_cond (fun _ => ⟨rfl, by omega⟩) fun e3 => done ?_
      have gt : blt t nd.l[q].key = true := by rw [← ble_not, e3]; rfl
      have hno : ((nd.kids.drop (q + 1)).flatMap (ents (P.pgs D n) m)).filter (kvIn f t) = [] := filter_none fun p hp => by
        obtain ⟨i, c, hi, hc, hp⟩ := mem_drop hp
        have h2 := ((sub i c hc).1 p hp).1
        have hil : i ≤ nd.l.length := by
          have := (List.getElem?_eq_some_iff.1 hc).1
          omega
        obtain ⟨i', rfl⟩ : ∃ i', i = i' + 1 := ⟨i - 1, by omega⟩
        have he' : nd.l[i']? = some nd.l[i'] := List.getElem?_eq_getElem (by omega)
        rw [Nd.lo_succ he'] at h2
        refine not_in_hi ?_
        rcases Nat.lt_or_ge q i' with h' | h'
        · exact blt_le_trans (blt_trans gt (sorted_lt srt (Nd.kv_get he) (Nd.kv_get he') h')) h2
        · have : i' = q := by omega
          subst this
          exact blt_le_trans gt h2
      rw [hno, rg_nil]
    · have gm : ¬ (((rg mo.toNat out (((nd.kids.take j).flatMap (ents (P.pgs D n) m)).filter (kvIn f t))).length : Nat) : Int) < mo := gm
      exact rg_full (by omega) _
    · have g : ¬ (j : Int) - 1 < (nd.l.length : Int) := g
      have hno : nd.kids.drop j = [] := List.drop_eq_nil_of_le (by omega)
      rw [hno, List.flatMap_nil, List.filter_nil, rg_nil]
set_option maxHeartbeats 1000000 in
theorem range_spec (E : PgAt h pb jb db S n D P) (T : TrAt h tb pb k) (hk : k < 4) {hg : Nat} {L : List KV} {I : List Nat} (TT : Tree (P.pgs D n) (P.now.r k) hg L I) (f t : ByteArray) (mo : Int) (hK : ∀ h' a c, NewR kvC 2 41 h h' a c (kvRange f t mo.toNat L) → K (.slice a (kvRange f t mo.toNat L).length c) h') :
    CallsH Tryd.prog btree_Tree_Range.id #[.pointer (some ⟨tb, 0, none⟩), .string f, .string t, .int .i64 mo] h K := by
  have hn := E.n2
  have hpk := pgs_ok E
  have few := TT.few hpk fun i hi => (pgs_lt hi).2
  have few2 : n * 256 ≤ 128 * 256 := Nat.mul_le_mul_right _ hn
  apply btree_Tree_Range.calls
  unfold btree_Tree_Range.W
  intro k1 hk1
  have B1 := Blk.new h k1 26 [.pointer (some ⟨tb, 0, none⟩)]
  have s1 := Sub.upd hk1 (.cells [Value.pointer (some ⟨tb, 0, none⟩)].toArray 26 (0, 0))
  generalize h.upd k1 (.cells [Value.pointer (some ⟨tb, 0, none⟩)].toArray 26 (0, 0)) = y1 at B1 s1 ⊢
  intro k2 hk2
  have B2 := Blk.new y1 k2 9 [.string f]
  have s2 := Sub.upd hk2 (.cells [Value.string f].toArray 9 (0, 0))
  generalize y1.upd k2 (.cells [Value.string f].toArray 9 (0, 0)) = y2 at B2 s2 ⊢
  intro k3 hk3
  have B3 := Blk.new y2 k3 9 [.string t]
  have s3 := Sub.upd hk3 (.cells [Value.string t].toArray 9 (0, 0))
  generalize y2.upd k3 (.cells [Value.string t].toArray 9 (0, 0)) = y3 at B3 s3 ⊢
  intro k4 hk4
  have B4 := Blk.new y3 k4 3 [.int .i64 mo]
  have s4 := Sub.upd hk4 (.cells [Value.int .i64 mo].toArray 3 (0, 0))
  generalize y3.upd k4 (.cells [Value.int .i64 mo].toArray 3 (0, 0)) = y4 at B4 s4 ⊢
  intro k5 hk5
  have B5 := Blk.new y4 k5 38 [.slice none 0 0]
  have s5 := Sub.upd hk5 (.cells [Value.slice none 0 0].toArray 38 (0, 0))
  generalize y4.upd k5 (.cells [Value.slice none 0 0].toArray 38 (0, 0)) = y5 at B5 s5 ⊢
  have s15 : Sub h y5 := s1.trans (s2.trans (s3.trans (s4.trans s5)))
  refine ⟨_, (B1.sub (s2.trans (s3.trans (s4.trans s5)))).cell' 0 rfl, split_cond (fun e => by cases e) fun _ => ?_⟩
  intro k6 hk6
  obtain ⟨s6, B6⟩ := fresh_put (t := 123) (vs := [.nilFunc]) (us := [.func (.func 72) #[] #[.pointer (some ⟨k1, 0, none⟩), .pointer (some ⟨k2, 0, none⟩), .pointer (some ⟨k5, 0, none⟩), .pointer (some ⟨k4, 0, none⟩), .pointer (some ⟨k3, 0, none⟩), .pointer (some ⟨k6, 0, none⟩)]]) hk6
  refine ⟨(Blk.new y5 k6 123 [.nilFunc]).store (by show 1 ≤ 1; decide), ?_⟩
  generalize (y5.upd k6 (.cells [Value.nilFunc].toArray 123 (0, 0))).put k6 0 [.func (.func 72) #[] #[.pointer (some ⟨k1, 0, none⟩), .pointer (some ⟨k2, 0, none⟩), .pointer (some ⟨k5, 0, none⟩), .pointer (some ⟨k4, 0, none⟩), .pointer (some ⟨k3, 0, none⟩), .pointer (some ⟨k6, 0, none⟩)]] = y8 at s6 B6 ⊢
  have W : RwAt y8 tb k1 k2 k3 k4 k5 k6 f t mo := ⟨B1.sub (s2.trans (s3.trans (s4.trans (s5.trans s6)))), B2.sub (s3.trans (s4.trans (s5.trans s6))), B3.sub (s4.trans (s5.trans s6)), B4.sub (s5.trans s6), B6⟩
  have s8 := s15.trans s6
  have E8 := E.sub s8
  have T8 : TrAt y8 tb pb k := Blk.sub T s8
  have O8 : OutAt y8 k5 (fun c => c = k5) [] := ⟨none, 0, B5.sub s6, OwnR.nil _ _, (fun b ⟨o, s, e⟩ => by cases e), fun b => ⟨.inl, fun h => h.elim (fun h => h) fun ⟨o, s, e⟩ => by cases e⟩⟩
  have h5 : h k5 = none := (s1.trans (s2.trans (s3.trans s4))).none hk5
  refine ⟨_, W.tt.cell' 0 rfl, tb, 0, rfl, _, T8.cell' 0 rfl, _, W.tt.cell' 0 rfl, tb, 0, rfl, _, T8.cell' 1 rfl, fnI (cap := []) (by kernel_rfl) (root_spec E8 hk ⟨_, rfl, split_ne (fun e => ?_) fun e => ?_⟩)⟩
  · cases hg with
    | zero => exact absurd (by rw [TT.1]; rfl) e
    | succ m =>
      refine ⟨_, W.w.cell' 0 rfl, fnI (cap := [_, _, _, _, _, _]) (by kernel_rfl) ?_⟩
      rw [TT.2.2.1] at few
      refine range_walk m TT.2.1 O8 E8 T8 W (fun c hc e => S_out E h5 (e ▸ hc)) (fun e => by subst e; unfold TrAt Blk at T; rw [T] at h5; cases h5) ?_ (by rw [List.length_nil]; omega) fun h' M' O' st => ⟨rfl, ?_⟩
      · have n5 : ∀ {c o}, y4 c = some o → c ≠ k5 := fun {c o} hc e => by rw [e, hk5] at hc; cases hc
        rintro c (rfl | rfl | rfl | rfl | rfl)
        · exact n5 (B1.sub (s2.trans (s3.trans s4)))
        · exact n5 (B2.sub (s3.trans s4))
        · exact n5 (B3.sub s4)
        · exact n5 B4
        · exact fun e => by rw [e] at hk6; unfold Blk at B5; rw [B5] at hk6; cases hk6
      · obtain ⟨a, c, o1, o2, o3, o4⟩ := O'.ex
        have er : rg mo.toNat [] ((ents (P.pgs D n) m (P.now.r k)).filter (kvIn f t)) = kvRange f t mo.toNat L := by
          rw [TT.2.2.1]; rfl
        rw [er] at o1 o2
        refine ⟨_, _, _, o1.cell' 0 rfl, hK h' a c ⟨st.1.sub s8 fun c hc => by rw [hc]; exact h5, fun b hb => ?_, o2⟩⟩
        rcases st.2 b ((o4 b).2 (.inr hb)) with h1 | h1
        · rw [h1]; exact h5
        · exact s8.none h1
  · cases hg with
    | zero =>
      have er : kvRange f t mo.toNat L = [] := by rw [TT.2.1]; unfold kvRange; simp
      have := hK y8 none 0 (by rw [er]; exact ⟨s8, (fun b ⟨o, s, e⟩ => by cases e), OwnR.nil _ _⟩)
      rw [er] at this
      exact ⟨_, _, _, (B5.sub s6).cell' 0 rfl, this⟩
    | succ m => exact absurd (by omega) TT.1
end Go.Proofs.YthbogjbcecmopaaDoor
namespace Go.Proofs.YthbogjbcecmopaaDoor
open Go.Gx Go.Shelf Go.RowKit
set_option maxRecDepth 100000
set_option linter.unusedVariables false
variable {h : Hp} {K : Value → Hp → Prop} {pb jb db n : Nat} {S : Nat → Prop} {D : Dk} {P : Pg} {tb k : Nat}
end Go.Proofs.YthbogjbcecmopaaDoor
namespace Go.Proofs.YthbogjbcecmopaaDoor
open Go.Gx
set_option maxRecDepth 100000
set_option linter.unusedVariables false
variable {h : Hp} {K : Value → Hp → Prop} {pb jb db n : Nat} {S : Nat → Prop} {D : Dk} {P : Pg} {tb k : Nat}
theorem bl_top : ∀ {n : Nat} {x : List UInt8}, x.length ≤ n → Op.bytesLess (List.replicate n 255) x = false
  | 0, [], _ => rfl
  | n + 1, [], _ => rfl
  | n + 1, a :: x, h => by
    rw [List.replicate_succ]
    show (decide ((255 : UInt8) < a) || ((255 : UInt8) == a && Op.bytesLess (List.replicate n 255) x)) = false
    have : ¬ (255 : UInt8) < a := by
      rw [UInt8.lt_iff_toNat_lt]
      have := UInt8.toNat_lt a
      show ¬ 255 < a.toNat
      omega
    rw [bl_top (by simpa using h), Bool.and_false, decide_eq_false this]; rfl
def rep255 (n : Nat) : ByteArray := ⟨(List.replicate n 255).toArray⟩
theorem top_ge {n : Nat} {x : ByteArray} (h : x.size ≤ n) : blt (rep255 n) x = false := by
  unfold blt rep255
  exact bl_top (by rw [size_len]; exact h)
theorem in_all {L : List KV} {n : Nat} (h : ∀ p ∈ L, p.1.size ≤ n) : L.filter (kvIn eB (rep255 n)) = L := by
  rw [List.filter_eq_self]
  intro p hp
  unfold kvIn
  have h1 : blt p.1 eB = false := by unfold blt; show Op.bytesLess _ [] = false; cases p.1.data.toList <;> rfl
  have h2 := top_ge (h p hp)
  rw [h1]
  cases e : blt p.1 (rep255 n) with
  | true => rfl
  | false => rw [decide_eq_true (blt_total e h2)]; rfl
theorem Tree.small {pg : Nat → Option Nd} (O : PgOk pg) {root hg : Nat} {L : List KV} {I : List Nat} (T : Tree pg root hg L I) : (∀ p ∈ L, may p.1 p.2 = true) ∧ kvSorted L := by
  cases hg with
  | zero => rw [T.2.1]; exact ⟨(fun p hp => by cases hp), List.Pairwise.nil⟩
  | succ m =>
    have := T.2.1.ents_ok O
    rw [T.2.2.1]
    exact ⟨fun p hp => (this.1 p hp).2.2, this.2⟩
theorem may_size {k v : ByteArray} (h : may k v = true) : 1 ≤ k.size ∧ k.size ≤ 64 ∧ v.size ≤ 400 := by
  unfold may at h; exact of_decide_eq_true h
end Go.Proofs.YthbogjbcecmopaaDoor
namespace Go.Proofs.YthbogjbcecmopaaDoor
open Go.Gx
set_option maxRecDepth 100000
set_option linter.unusedVariables false
variable {h : Hp} {K : Value → Hp → Prop} {pb jb db n : Nat} {S : Nat → Prop} {D : Dk} {P : Pg} {tb k : Nat}
theorem top_spec (hK : K (.string (rep255 65)) h) : CallsH Tryd.prog law15_top.id #[] h K := by
  apply law15_top.calls
  unfold law15_top.W
  have st : ∀ q : Nat, (rep255 q ++ bytesL [255]) = rep255 (q + 1) := fun q => by
    apply bytes_ext
    rw [ByteArray.data_append, Array.toList_append]
    show List.replicate q 255 ++ [255] = List.replicate (q + 1) 255
    rw [List.replicate_succ']
  have sz : ∀ q : Nat, (rep255 q).size = q := fun q => by rw [← size_len]; show (List.replicate q (255 : UInt8)).length = q; simp
  refine ⟨fun s x m => ∃ q : Nat, s = rep255 q ∧ q ≤ 65 ∧ m = 65 - q ∧ h = x, ⟨_, 1, rfl, by decide, rfl, rfl⟩, ?_⟩
  rintro s x m ⟨q, rfl, hq, rfl, rfl⟩
  have e1 : Int.ofNat (rep255 q).size = (q : Int) := by rw [sz]; rfl
  rw [e1, st, sz]
  refine split_dec (fun g => ⟨?_, 65 - (q + 1), by omega, q + 1, rfl, by omega, rfl, rfl⟩) fun g => ?_
  · show q + 1 ≤ _
    omega
  · have : q = 65 := by omega
    subst this; exact hK
theorem all_spec (E : PgAt h pb jb db S n D P) (T : TrAt h tb pb k) (hk : k < 4) {hg : Nat} {L : List KV} {I : List Nat} (TT : Tree (P.pgs D n) (P.now.r k) hg L I) (hK : ∀ h' a c, NewR kvC 2 41 h h' a c L → K (.slice a L.length c) h') :
    CallsH Tryd.prog law15_all.id #[.pointer (some ⟨tb, 0, none⟩)] h K := by
  have hpk := pgs_ok E
  have sm := TT.small hpk
  have hn := E.n2
  have few := TT.few hpk fun i hi => (pgs_lt hi).2
  have few2 : n * 256 ≤ 128 * 256 := Nat.mul_le_mul_right _ hn
  apply law15_all.calls
  unfold law15_all.W
  have er : kvRange eB (rep255 65) (1000000 : Int).toNat L = L := by
    unfold kvRange
    rw [in_all fun p hp => Nat.le_trans (may_size (sm.1 p hp)).2.1 (by decide)]
    exact List.take_of_length_le (by show L.length ≤ 1000000; omega)
  refine top_spec ⟨_, rfl, range_spec E T hk TT eB (rep255 65) 1000000 fun h' a c N => ⟨_, _, _, rfl, ?_⟩⟩
  rw [er] at N ⊢
  exact hK h' a c N
end Go.Proofs.YthbogjbcecmopaaDoor
namespace Go.Proofs.YthbogjbcecmopaaDoor
open Go.Gx
set_option maxRecDepth 100000
set_option linter.unusedVariables false
variable {h : Hp} {K : Value → Hp → Prop}
def xN (lf : Bool) (e : En) : Nat := if lf then e.val.size else e.kid
def enE (lf : Bool) (e : En) : List UInt8 := [UInt8.ofNat e.key.size, UInt8.ofNat (xN lf e / 256), UInt8.ofNat (xN lf e)] ++ e.key.data.toList ++ e.val.data.toList
def headE (nd : Nd) : List UInt8 := [UInt8.ofNat nd.kind, UInt8.ofNat (nd.l.length / 256), UInt8.ofNat nd.l.length] ++ (if nd.leaf then [] else [UInt8.ofNat (nd.first / 256), UInt8.ofNat nd.first])
def encL (nd : Nd) : List UInt8 := headE nd ++ nd.l.flatMap (enE nd.leaf)
def pageB (nd : Nd) : ByteArray := ⟨(encL nd ++ List.replicate (1024 - nd.size) 0).toArray⟩
theorem u8N (n : Nat) : (UInt8.ofNat n).toNat = n % 256 := UInt8.toNat_ofNat'
theorem enE_len {lf : Bool} {e : En} (h : EnOk lf e) : (enE lf e).length = Nd.esz lf e := by
  unfold enE Nd.esz
  rw [List.length_append, List.length_append, size_len, size_len]
  cases lf with
  | true => rfl
  | false =>
    have : e.val = bytesL [] := h.2.2
    rw [this]; rfl
theorem flatE_len {lf : Bool} : ∀ {l : List En}, (∀ e ∈ l, EnOk lf e) → (l.flatMap (enE lf)).length = eszs lf l
  | [], _ => rfl
  | e :: l, h => by
    rw [List.flatMap_cons, List.length_append, eszs_cons, enE_len (h e List.mem_cons_self), flatE_len fun e' he => h e' (List.mem_cons_of_mem _ he)]
theorem headE_len (nd : Nd) : (headE nd).length = Nd.base nd.leaf := by
  unfold headE Nd.base
  cases nd.leaf <;> rfl
theorem encL_len {nd : Nd} (o : NdOk nd) : (encL nd).length = nd.size := by
  unfold encL Nd.size
  rw [List.length_append, headE_len, flatE_len o.en]
theorem pageB_size {nd : Nd} (o : NdOk nd) : (pageB nd).size = 1024 := by
  rw [← size_len]
  show (encL nd ++ List.replicate (1024 - nd.size) 0).length = 1024
  rw [List.length_append, encL_len o, List.length_replicate]
  have := o.size
  omega
theorem byteN_at {b : ByteArray} {pre rest : List UInt8} {x : UInt8} (h : b.data.toList = pre ++ x :: rest) : byteN b pre.length = x.toNat := by
  unfold byteN
  rw [h, List.getElem?_append_right (Nat.le_refl _), Nat.sub_self]; rfl
theorem ext_at {b s : ByteArray} {pre rest : List UInt8} (h : b.data.toList = pre ++ (s.data.toList ++ rest)) : b.extract pre.length (pre.length + s.size) = s := by
  apply bytes_ext
  rw [ext_list, h, List.drop_left, Nat.add_sub_cancel_left, ← size_len, List.take_left]
theorem parseN_enc {b : ByteArray} {lf : Bool} : ∀ (l : List En) (pre rest : List UInt8), (∀ e ∈ l, EnOk lf e) → b.data.toList = pre ++ (l.flatMap (enE lf) ++ rest) → parseN b lf l.length pre.length = some (l, pre.length + eszs lf l)
  | [], pre, rest, _, _ => rfl
  | e :: l, pre, rest, ok, hb => by
    have oe := ok e List.mem_cons_self
    have ms := may_size oe.1
    have hk : e.kid < 65536 := oe.2.1
    have hx : xN lf e < 65536 := by
      unfold xN
      split
      · omega
      · exact hk
    rw [List.flatMap_cons] at hb
    have hb0 : b.data.toList = pre ++ UInt8.ofNat e.key.size :: (UInt8.ofNat (xN lf e / 256) :: UInt8.ofNat (xN lf e) :: (e.key.data.toList ++ (e.val.data.toList ++ (l.flatMap (enE lf) ++ rest)))) := by
      rw [hb]; unfold enE; simp
    have hb1 : b.data.toList = (pre ++ [UInt8.ofNat e.key.size]) ++ UInt8.ofNat (xN lf e / 256) :: (UInt8.ofNat (xN lf e) :: (e.key.data.toList ++ (e.val.data.toList ++ (l.flatMap (enE lf) ++ rest)))) := by rw [hb0]; simp
    have hb2 : b.data.toList = (pre ++ [UInt8.ofNat e.key.size, UInt8.ofNat (xN lf e / 256)]) ++ UInt8.ofNat (xN lf e) :: (e.key.data.toList ++ (e.val.data.toList ++ (l.flatMap (enE lf) ++ rest))) := by rw [hb0]; simp
    have hb3 : b.data.toList = (pre ++ [UInt8.ofNat e.key.size, UInt8.ofNat (xN lf e / 256), UInt8.ofNat (xN lf e)]) ++ (e.key.data.toList ++ (e.val.data.toList ++ (l.flatMap (enE lf) ++ rest))) := by rw [hb0]; simp
    have hb4 : b.data.toList = (pre ++ [UInt8.ofNat e.key.size, UInt8.ofNat (xN lf e / 256), UInt8.ofNat (xN lf e)] ++ e.key.data.toList) ++ (e.val.data.toList ++ (l.flatMap (enE lf) ++ rest)) := by rw [hb0]; simp
    have hb5 : b.data.toList = (pre ++ [UInt8.ofNat e.key.size, UInt8.ofNat (xN lf e / 256), UInt8.ofNat (xN lf e)] ++ e.key.data.toList ++ e.val.data.toList) ++ (l.flatMap (enE lf) ++ rest) := by rw [hb0]; simp
    have n0 : byteN b pre.length = e.key.size := by rw [byteN_at hb0, u8N]; omega
    have n1 : byteN b (pre.length + 1) = xN lf e / 256 := by
      have := byteN_at hb1
      rw [List.length_append] at this
      rw [show pre.length + 1 = pre.length + [UInt8.ofNat e.key.size].length from rfl, this, u8N]; omega
    have n2 : byteN b (pre.length + 1 + 1) = xN lf e % 256 := by
      have := byteN_at hb2
      rw [List.length_append] at this
      rw [show pre.length + 1 + 1 = pre.length + [UInt8.ofNat e.key.size, UInt8.ofNat (xN lf e / 256)].length from rfl, this, u8N]
    have n3 : twoN b (pre.length + 1) = xN lf e := by
      unfold twoN
      rw [n1, n2]; omega
    have l3 : (pre ++ [UInt8.ofNat e.key.size, UInt8.ofNat (xN lf e / 256), UInt8.ofNat (xN lf e)]).length = pre.length + 3 := by rw [List.length_append]; rfl
    have l4 : (pre ++ [UInt8.ofNat e.key.size, UInt8.ofNat (xN lf e / 256), UInt8.ofNat (xN lf e)] ++ e.key.data.toList).length = pre.length + 3 + e.key.size := by rw [List.length_append, l3, size_len]
    have l5 : (pre ++ [UInt8.ofNat e.key.size, UInt8.ofNat (xN lf e / 256), UInt8.ofNat (xN lf e)] ++ e.key.data.toList ++ e.val.data.toList).length = pre.length + 3 + e.key.size + e.val.size := by rw [List.length_append, l4, size_len]
    have x1 : b.extract (pre.length + 3) (pre.length + 3 + e.key.size) = e.key := by rw [← l3]; exact ext_at hb3
    have x2 : b.extract (pre.length + 3 + e.key.size) (pre.length + 3 + e.key.size + e.val.size) = e.val := by rw [← l4]; exact ext_at hb4
    have ev : vN lf (xN lf e) = e.val.size := by
      cases lf with
      | true => rfl
      | false =>
        have : e.val = bytesL [] := oe.2.2
        rw [this]; rfl
    have ek : kN lf (xN lf e) = e.kid := by
      cases lf with
      | true => exact (show e.kid = 0 from oe.2.2).symm
      | false => rfl
    have sz : pre.length + 3 + e.key.size + e.val.size ≤ b.size := by
      have hs := congrArg List.length hb5
      rw [size_len, List.length_append, l5] at hs
      omega
    have ih := parseN_enc l _ rest (fun e' he => ok e' (List.mem_cons_of_mem _ he)) hb5
    rw [l5] at ih
    rw [List.length_cons, parseN_succ, n0, n3, ev, ek, x1, x2, if_neg (by omega), if_neg (by omega), if_neg (by rw [oe.1]; decide), ih, eszs_cons]
    have hz : pre.length + 3 + e.key.size + e.val.size + eszs lf l = pre.length + (Nd.esz lf e + eszs lf l) := by
      have := enE_len oe
      unfold enE at this
      rw [List.length_append, List.length_append, size_len, size_len] at this
      have l0 : ([UInt8.ofNat e.key.size, UInt8.ofNat (xN lf e / 256), UInt8.ofNat (xN lf e)]).length = 3 := rfl
      omega
    show some (e :: l, pre.length + 3 + e.key.size + e.val.size + eszs lf l) = _
    rw [hz]
theorem parse_page {nd : Nd} (o : NdOk nd) : parseB (pageB nd) = some nd := by
  have sz := o.size
  have ll := o.len
  have hl : (pageB nd).data.toList = headE nd ++ (nd.l.flatMap (enE nd.leaf) ++ List.replicate (1024 - nd.size) 0) := by
    show encL nd ++ _ = _
    unfold encL
    rw [List.append_assoc]
  have hkd : nd.kind = if nd.leaf then 1 else 2 := rfl
  have hf := o.first
  have g : ∀ j, j < (headE nd).length → byteN (pageB nd) j = ((headE nd)[j]?.getD 0).toNat := fun j hj => by
    unfold byteN
    rw [hl, List.getElem?_append_left hj]
  have g0 : byteN (pageB nd) 0 = nd.kind := by
    rw [g 0 (by rw [headE_len]; unfold Nd.base; split <;> decide)]
    show (UInt8.ofNat nd.kind).toNat = _
    rw [u8N, hkd]; split <;> rfl
  have g1 : byteN (pageB nd) 1 = nd.l.length / 256 := by
    rw [g 1 (by rw [headE_len]; unfold Nd.base; split <;> decide)]
    show (UInt8.ofNat (nd.l.length / 256)).toNat = _
    rw [u8N]; omega
  have g2 : byteN (pageB nd) 2 = nd.l.length % 256 := by
    rw [g 2 (by rw [headE_len]; unfold Nd.base; split <;> decide)]
    show (UInt8.ofNat nd.l.length).toNat = _
    rw [u8N]
  have t1 : twoN (pageB nd) 1 = nd.l.length := by
    unfold twoN
    rw [g1, g2]; omega
  have lfe : (byteN (pageB nd) 0 == 1) = nd.leaf := by
    rw [g0, hkd]
    cases nd.leaf <;> rfl
  have t3 : kN nd.leaf (twoN (pageB nd) 3) = nd.first := by
    cases hlf : nd.leaf with
    | true => exact (o.z hlf).symm
    | false =>
      show twoN (pageB nd) 3 = nd.first
      have g3 : byteN (pageB nd) 3 = nd.first / 256 := by
        rw [g 3 (by rw [headE_len, hlf]; decide)]
        unfold headE
        rw [hlf]
        show (UInt8.ofNat (nd.first / 256)).toNat = _
        rw [u8N]; omega
      have g4 : byteN (pageB nd) 4 = nd.first % 256 := by
        rw [g 4 (by rw [headE_len, hlf]; decide)]
        unfold headE
        rw [hlf]
        show (UInt8.ofNat nd.first).toNat = _
        rw [u8N]
      unfold twoN
      rw [g3, g4]; omega
  have hp := parseN_enc nd.l (headE nd) _ o.en hl
  rw [headE_len] at hp
  unfold parseB
  rw [if_pos (by rw [g0, hkd]; cases nd.leaf <;> simp), lfe, t1, hp]
  have hz : zerosB (pageB nd) (Nd.base nd.leaf + eszs nd.leaf nd.l) = true := by
    unfold zerosB
    have : (pageB nd).data.toList.drop (Nd.base nd.leaf + eszs nd.leaf nd.l) = List.replicate (1024 - nd.size) 0 := by
      show (encL nd ++ List.replicate (1024 - nd.size) 0).drop nd.size = _
      rw [← encL_len o, List.drop_left]
    rw [this]
    simp
  simp only [hz, if_true, t3]
end Go.Proofs.YthbogjbcecmopaaDoor
namespace Go.Proofs.YthbogjbcecmopaaDoor
open Go.Gx
set_option maxRecDepth 100000
set_option linter.unusedVariables false
variable {h : Hp} {K : Value → Hp → Prop}
theorem w8N (n : Nat) : IntKind.u8.wrap (n : Int) = (((UInt8.ofNat n).toNat : Nat) : Int) := by rw [u8c, u8N]
theorem w8sh (n : Nat) : IntKind.u8.wrap (ishr IntKind.i64 (n : Int) 8) = (((UInt8.ofNat (n / 256)).toNat : Nat) : Int) := by
  rw [show (8 : Int) = ((8 : Nat) : Int) from rfl, shrN _ _ _ (by decide), w8N]
theorem rowC_zeros (n : Nat) : rowC byteC (List.replicate n 0) = repV n [.int .u8 0] := by
  unfold rowC repV
  rw [List.flatMap_replicate]; rfl
set_option maxHeartbeats 4000000 in
theorem nbytes_spec {k : Nat} {a : Option Addr} {c : Nat} {nd : Nd} (N : NdEx h k a c nd) (o : NdOk nd) (hK : ∀ h', Sub h h' → K (.string (pageB nd)) h') : CallsH Tryd.prog btree_node_bytes.id #[.pointer (some ⟨k, 0, none⟩)] h K := by
  have ll := o.len
  have sz := o.size
  have hf := o.first
  apply btree_node_bytes.calls
  unfold btree_node_bytes.W
  refine ⟨_, N.c0, _, _, _, N.c2, by decide, _, _, _, N.c2, fun k8 hk8 => ?_⟩
  have eln : Int.ofNat nd.l.length = ((nd.l.length : Nat) : Int) := rfl
  rw [eln, w8N, w8sh, w8N]
  have hx : setL (setL (setL [Value.int .u8 0, .int .u8 0, .int .u8 0] 0 [.int .u8 ((UInt8.ofNat nd.kind).toNat : Nat)]) 1 [.int .u8 ((UInt8.ofNat (nd.l.length / 256)).toNat : Nat)]) 2 [.int .u8 ((UInt8.ofNat nd.l.length).toNat : Nat)] = rowC byteC [UInt8.ofNat nd.kind, UInt8.ofNat (nd.l.length / 256), UInt8.ofNat nd.l.length] := rfl
  rw [hx]
  have hx2 : #[Value.int .u8 ((UInt8.ofNat nd.kind).toNat : Nat), .int .u8 ((UInt8.ofNat (nd.l.length / 256)).toNat : Nat), .int .u8 ((UInt8.ofNat nd.l.length).toNat : Nat)] = (rowC byteC [UInt8.ofNat nd.kind, UInt8.ofNat (nd.l.length / 256), UInt8.ofNat nd.l.length]).toArray := rfl
  rw [hx2]
  have B8 := Blk.new h k8 5 (rowC byteC [UInt8.ofNat nd.kind, UInt8.ofNat (nd.l.length / 256), UInt8.ofNat nd.l.length])
  have s8 := Sub.upd hk8 (.cells (rowC byteC [UInt8.ofNat nd.kind, UInt8.ofNat (nd.l.length / 256), UInt8.ofNat nd.l.length]).toArray 5 (0, 0))
  generalize h.upd k8 (.cells (rowC byteC [UInt8.ofNat nd.kind, UInt8.ofNat (nd.l.length / 256), UInt8.ofNat nd.l.length]).toArray 5 (0, 0)) = y at B8 s8 ⊢
  have N8 : NewR byteC 1 5 h y (some ⟨k8, 0, none⟩) 3 [UInt8.ofNat nd.kind, UInt8.ofNat (nd.l.length / 256), UInt8.ofNat nd.l.length] :=
    ⟨s8, (fun b ⟨o, s, e⟩ => by cases e; exact hk8), rfl, Nat.le_refl _, .inr ⟨k8, [], rfl, by rw [List.append_nil]; exact B8, rfl⟩⟩
  have Ny := N.sub s8
  have kd : ((nd.kind : Nat) : Int) = if nd.leaf = true then 1 else 2 := by unfold Nd.kind; split <;> rfl
  refine ⟨fun a1 l1 c1 x => NewR byteC 1 5 h x a1 c1 (headE nd) ∧ l1 = (headE nd).length, ?_, ?_⟩
  · rintro a1 l1 c1 x ⟨R, rfl⟩
    have Nx := N.sub R.sub
    refine ⟨_, _, _, Nx.c2, fun a2 l2 c2 i x m => ∃ q : Nat, i = (q : Int) ∧ q ≤ nd.l.length ∧ m = nd.l.length - q ∧ NewR byteC 1 5 h x a2 c2 (headE nd ++ (nd.l.take q).flatMap (enE nd.leaf)) ∧ l2 = (headE nd ++ (nd.l.take q).flatMap (enE nd.leaf)).length, ⟨_, 0, rfl, Nat.zero_le _, rfl, by rw [List.take_zero, List.flatMap_nil, List.append_nil]; exact R, by rw [List.take_zero, List.flatMap_nil, List.append_nil]⟩, ?_⟩
    rintro a2 l2 c2 i x m ⟨q, rfl, hq, rfl, Rx, rfl⟩
    have Nx := N.sub Rx.sub
    have okt : ∀ e ∈ nd.l.take q, EnOk nd.leaf e := fun e he => o.en e (List.mem_of_mem_take he)
    have lnE : (headE nd ++ (nd.l.take q).flatMap (enE nd.leaf)).length = Nd.base nd.leaf + eszs nd.leaf (nd.l.take q) := by rw [List.length_append, headE_len, flatE_len okt]
    have le1 := eszs_take_le nd.leaf nd.l q
    unfold Nd.size at sz
    refine split_dec (fun g => ?_) fun g => ?_
    · have g : (q : Int) < (nd.l.length : Int) := g
      have hq' : q < nd.l.length := by omega
      have he : nd.l[q]? = some nd.l[q] := List.getElem?_eq_getElem hq'
      generalize nd.l[q] = en at he
      have oe := o.en en (List.mem_of_getElem? he)
      have ms := may_size oe.1
      obtain ⟨b, o', ea, g0, g1, g2⟩ := Nx.get he
      have e4 : IntKind.i64.wrap ((q : Int) + 1) = ((q + 1 : Nat) : Int) := by rw [wid (by omega) (by omega)]; omega
      have z1 : Int.ofNat en.key.size = ((en.key.size : Nat) : Int) := rfl
      have z2 : Int.ofNat en.val.size = ((en.val.size : Nat) : Int) := rfl
      rw [e4]
      have fl : (nd.l.take (q + 1)).flatMap (enE nd.leaf) = (nd.l.take q).flatMap (enE nd.leaf) ++ enE nd.leaf en := flat_take he
      have bnd : ∀ {L : List UInt8} {M : List UInt8}, L.length ≤ 3000 → M.length ≤ 3000 → (2 * (L.length + M.length) + 768) * 1 ≤ 281474976710656 := fun {L M} h1 h2 => by omega
      have hl0 : (headE nd ++ (nd.l.take q).flatMap (enE nd.leaf)).length ≤ 2000 := by rw [lnE]; omega
      refine ⟨by omega, g, b, o', ea, _, by rw [Int.toNat_natCast]; exact g0, _, by rw [Int.toNat_natCast]; exact g1, _, by rw [Int.toNat_natCast]; exact g2, fun n x' => n = ((xN nd.leaf en : Nat) : Int) ∧ x = x', ?_, ?_⟩
      · rintro n x' ⟨rfl, rfl⟩
        rw [z1, w8N, w8sh, w8N]
        refine ⟨by decide, fun k33 hk33 => ⟨rowC byteC [UInt8.ofNat en.key.size, UInt8.ofNat (xN nd.leaf en / 256), UInt8.ofNat (xN nd.leaf en)], (Blk.new x k33 5 (rowC byteC [UInt8.ofNat en.key.size, UInt8.ofNat (xN nd.leaf en / 256), UInt8.ofNat (xN nd.leaf en)])).slice rfl, ?_⟩⟩
        have R33 := Rx.upd (Sub.upd hk33 (.cells (rowC byteC [UInt8.ofNat en.key.size, UInt8.ofNat (xN nd.leaf en / 256), UInt8.ofNat (xN nd.leaf en)]).toArray 5 (0, 0)))
        refine ⟨fun a3 c3 x3 => NewR byteC 1 5 h x3 a3 c3 ((headE nd ++ (nd.l.take q).flatMap (enE nd.leaf)) ++ [UInt8.ofNat en.key.size, UInt8.ofNat (xN nd.leaf en / 256), UInt8.ofNat (xN nd.leaf en)]), ?_, append_row appTByte byteC_len byteC_plain (M := [UInt8.ofNat en.key.size, UInt8.ofNat (xN nd.leaf en / 256), UInt8.ofNat (xN nd.leaf en)]) R33 rfl rfl rfl (bnd (by omega) (by show 3 ≤ 3000; decide)) fun a3 c3 x3 R3 => R3⟩
        intro a3 c3 x3 R3
        generalize eL3 : (headE nd ++ (nd.l.take q).flatMap (enE nd.leaf)) ++ [UInt8.ofNat en.key.size, UInt8.ofNat (xN nd.leaf en / 256), UInt8.ofNat (xN nd.leaf en)] = L3 at R3
        have hl3 : L3.length = (headE nd ++ (nd.l.take q).flatMap (enE nd.leaf)).length + 3 := by rw [← eL3, List.length_append]; rfl
        refine ⟨fun _ => none, (fun b o e => by cases e), fun a4 c4 x4 => NewR byteC 1 5 h x4 a4 c4 (L3 ++ en.key.data.toList), ?_, ?_⟩
        · intro a4 c4 x4 R4
          refine ⟨(fun b o e => by cases e), fun a5 c5 x5 => NewR byteC 1 5 h x5 a5 c5 ((L3 ++ en.key.data.toList) ++ en.val.data.toList), ?_, ?_⟩
          · intro a5 c5 x5 R5
            have eR : (L3 ++ en.key.data.toList) ++ en.val.data.toList = headE nd ++ (nd.l.take (q + 1)).flatMap (enE nd.leaf) := by
              rw [fl, ← eL3]; unfold enE; simp
            refine ⟨nd.l.length - (q + 1), by omega, q + 1, rfl, by omega, rfl, by rw [← eR]; exact R5, ?_⟩
            have e := hl3
            rw [← eR]
            simp only [List.length_append, size_len] at e ⊢
            omega
          · exact append_row appTByte byteC_len byteC_plain (M := en.val.data.toList) R4 (by have e := hl3; simp only [List.length_append, size_len] at e ⊢; omega) (size_len _).symm (rowC_bytes _).symm (bnd (by rw [List.length_append, hl3, size_len]; omega) (by rw [size_len]; omega)) fun a5 c5 x5 R5 => R5
        · exact append_row appTByte byteC_len byteC_plain (M := en.key.data.toList) R3 hl3.symm (size_len _).symm (rowC_bytes _).symm (bnd (by omega) (by rw [size_len]; omega)) fun a5 c5 x5 R5 => R5
      · refine ⟨_, Nx.c0, ?_⟩
        rw [kd]
        unfold xN
        cases nd.leaf with
        | true => exact split_eq (fun _ => ⟨rfl, rfl⟩) fun e => absurd rfl e
        | false => exact split_eq (fun e => by cases e) fun _ => ⟨rfl, rfl⟩
    · have g : ¬ (q : Int) < (nd.l.length : Int) := g
      have : q = nd.l.length := by omega
      subst this
      rw [List.take_length] at lnE Rx ⊢
      have eL : headE nd ++ nd.l.flatMap (enE nd.leaf) = encL nd := rfl
      rw [eL] at lnE Rx ⊢
      have e5 : IntKind.i64.wrap (IntKind.i64.wrap (1024 - Int.ofNat (encL nd).length)) = ((1024 - nd.size : Nat) : Int) := by
        rw [lnE, show Int.ofNat (Nd.base nd.leaf + eszs nd.leaf nd.l) = ((Nd.base nd.leaf + eszs nd.leaf nd.l : Nat) : Int) from rfl]
        unfold Nd.size
        rw [wid (x := 1024 - _) (by omega) (by omega), wid (by omega) (by omega)]; omega
      rw [e5, Int.toNat_natCast]
      refine ⟨by omega, by omega, fun a3 c3 x3 => NewR byteC 1 5 h x3 a3 c3 (encL nd ++ List.replicate (1024 - nd.size) 0), ?_, append_row appTByte byteC_len byteC_plain (M := List.replicate (1024 - nd.size) 0) Rx rfl (by rw [List.length_replicate]) (rowC_zeros _).symm (by rw [List.length_replicate, lnE]; omega) fun a5 c5 x5 R5 => R5⟩
      intro a3 c3 x3 R3
      refine ⟨pageB nd, ?_, hK x3 R3.sub⟩
      have := R3.own.row
      unfold RowAt at this
      rw [List.length_append, List.length_replicate, Nat.mul_one] at this
      rw [← rowC_bytes]
      exact this
  · refine ⟨_, Ny.c0, ?_⟩
    rw [kd]
    cases hlf : nd.leaf with
    | true =>
      refine split_eq (fun e => by cases e) fun _ => ?_
      unfold headE
      rw [hlf]
      exact ⟨N8, rfl⟩
    | false =>
      refine split_eq (fun _ => ⟨_, Ny.c1, by decide, _, Ny.c1, fun k52 hk52 => ?_⟩) fun e => absurd rfl e
      rw [w8sh, w8N]
      refine ⟨rowC byteC [UInt8.ofNat (nd.first / 256), UInt8.ofNat nd.first], (Blk.new y k52 5 (rowC byteC [UInt8.ofNat (nd.first / 256), UInt8.ofNat nd.first])).slice rfl, fun a3 c3 x3 => NewR byteC 1 5 h x3 a3 c3 (headE nd), fun a3 c3 x3 R3 => ⟨R3, by rw [headE_len, hlf]; rfl⟩, ?_⟩
      refine append_row appTByte byteC_len byteC_plain (M := [UInt8.ofNat (nd.first / 256), UInt8.ofNat nd.first]) (N8.upd (Sub.upd hk52 (.cells (rowC byteC [UInt8.ofNat (nd.first / 256), UInt8.ofNat nd.first]).toArray 5 (0, 0)))) rfl rfl rfl (by show (2 * (3 + 2) + 768) * 1 ≤ 281474976710656; decide) fun a5 c5 x5 R5 => ?_
      unfold headE
      rw [hlf]
      exact R5
end Go.Proofs.YthbogjbcecmopaaDoor
namespace Go.Proofs.YthbogjbcecmopaaDoor
open Go.Gx
set_option maxRecDepth 100000
set_option linter.unusedVariables false
section
variable {k : ByteArray}
theorem kvAt_right : ∀ {A : List KV} (L : List KV), (∀ p ∈ A, blt p.1 k = true) → kvAt k (A ++ L) = A.length + kvAt k L
  | [], L, _ => by simp
  | p :: A, L, h => by
    rw [List.cons_append, List.length_cons]
    show (if blt p.1 k = true then kvAt k (A ++ L) + 1 else 0) = _
    rw [if_pos (h p List.mem_cons_self), kvAt_right L fun q hq => h q (List.mem_cons_of_mem _ hq)]; omega
theorem kvAt_left : ∀ (L : List KV) {B : List KV}, (∀ p ∈ B, blt k p.1 = true) → kvAt k (L ++ B) = kvAt k L
  | [], [], _ => rfl
  | [], p :: B, h => by
    show (if blt p.1 k = true then kvAt k B + 1 else 0) = 0
    rw [if_neg (by rw [blt_asymm (h p List.mem_cons_self)]; decide)]
  | p :: L, B, h => by
    rw [List.cons_append]
    show (if blt p.1 k = true then kvAt k (L ++ B) + 1 else 0) = if blt p.1 k = true then kvAt k L + 1 else 0
    rw [kvAt_left L h]
theorem kvIs_right {A : List KV} (L : List KV) (h : ∀ p ∈ A, blt p.1 k = true) : kvIs k (A ++ L) = kvIs k L := by
  unfold kvIs
  rw [kvAt_right L h, List.getElem?_append_right (by omega), Nat.add_sub_cancel_left]
theorem kvIs_left (L : List KV) {B : List KV} (h : ∀ p ∈ B, blt k p.1 = true) : kvIs k (L ++ B) = kvIs k L := by
  unfold kvIs
  rw [kvAt_left L h]
  have hl := kvAt_le k L
  by_cases e : kvAt k L < L.length
  · rw [List.getElem?_append_left e]
  · have e2 : kvAt k L = L.length := by omega
    rw [e2, List.getElem?_append_right (Nat.le_refl _), Nat.sub_self, List.getElem?_eq_none (Nat.le_refl L.length)]
    cases B with
    | nil => rfl
    | cons p B => exact decide_eq_false (blt_ne (h p List.mem_cons_self)).symm
theorem kvPut_right {A : List KV} (L : List KV) (v : ByteArray) (h : ∀ p ∈ A, blt p.1 k = true) : kvPut k v (A ++ L) = A ++ kvPut k v L := by
  unfold kvPut
  rw [kvAt_right L h, kvIs_right L h, List.take_length_add_append, List.append_assoc]
  congr 2
  cases kvIs k L with
  | true => rw [if_pos rfl, if_pos rfl, Nat.add_assoc, List.drop_length_add_append]
  | false => rw [if_neg (by decide), if_neg (by decide), List.drop_length_add_append]
theorem kvPut_left (L : List KV) (v : ByteArray) {B : List KV} (h : ∀ p ∈ B, blt k p.1 = true) : kvPut k v (L ++ B) = kvPut k v L ++ B := by
  unfold kvPut
  have hl := kvAt_le k L
  rw [kvAt_left L h, kvIs_left L h, List.take_append_of_le_length hl, List.append_assoc, List.cons_append]
  congr 2
  cases e : kvIs k L with
  | true => rw [if_pos rfl, List.drop_append_of_le_length (kvAt_lt e)]
  | false => rw [if_neg (by decide), List.drop_append_of_le_length hl]
theorem kvDrop_right {A : List KV} (L : List KV) (h : ∀ p ∈ A, blt p.1 k = true) : kvDrop k (A ++ L) = A ++ kvDrop k L := by
  unfold kvDrop
  rw [kvAt_right L h, kvIs_right L h, List.take_length_add_append, Nat.add_assoc, List.drop_length_add_append, List.append_assoc]
  split <;> rfl
theorem kvDrop_left (L : List KV) {B : List KV} (h : ∀ p ∈ B, blt k p.1 = true) : kvDrop k (L ++ B) = kvDrop k L ++ B := by
  unfold kvDrop
  have hl := kvAt_le k L
  rw [kvAt_left L h, kvIs_left L h]
  cases e : kvIs k L with
  | true => rw [if_pos rfl, if_pos rfl, List.take_append_of_le_length hl, List.drop_append_of_le_length (kvAt_lt e), List.append_assoc]
  | false => rw [if_neg (by decide), if_neg (by decide)]
theorem kvPut_ne (L : List KV) (v : ByteArray) : kvPut k v L ≠ [] := by
  unfold kvPut
  intro e
  have := congrArg List.length e
  simp at this
end
def NA : List (List KV) → Prop
  | x :: y :: l => ¬ (x = [] ∧ y = []) ∧ NA (y :: l)
  | _ => True
theorem NA_tail {x : List KV} {l : List (List KV)} (h : NA (x :: l)) : NA l := by
  cases l with
  | nil => trivial
  | cons y l => exact h.2
theorem NA_right : ∀ {A : List (List KV)} {B : List (List KV)}, NA (A ++ B) → NA B
  | [], _, h => h
  | _ :: A, _, h => NA_right (A := A) (NA_tail h)
theorem NA_left : ∀ {A : List (List KV)} {B : List (List KV)}, NA (A ++ B) → NA A
  | [], _, _ => trivial
  | [_], _, _ => trivial
  | _ :: y :: A, _, h => ⟨h.1, NA_left (A := y :: A) h.2⟩
theorem NA_cat : ∀ {A B : List (List KV)} {w z : List KV}, NA (A ++ [w]) → NA (z :: B) → ¬ (w = [] ∧ z = []) → NA (A ++ w :: z :: B)
  | [], _, _, _, _, h2, h3 => ⟨h3, h2⟩
  | [x], B, w, z, h1, h2, h3 => ⟨h1.1, NA_cat (A := []) trivial h2 h3⟩
  | x :: y :: A, B, w, z, h1, h2, h3 => ⟨h1.1, NA_cat (A := y :: A) h1.2 h2 h3⟩
theorem NA_cons {x : List KV} {B : List (List KV)} (h : NA B) (hx : x ≠ []) : NA (x :: B) := by
  cases B with
  | nil => trivial
  | cons y B => exact ⟨fun e => hx e.1, h⟩
theorem NA_mid : ∀ {A B : List (List KV)} {x : List KV}, NA A → NA B → x ≠ [] → NA (A ++ x :: B)
  | [], _, _, _, h2, h3 => NA_cons h2 h3
  | [a], _, _, _, h2, h3 => ⟨fun e => h3 e.2, NA_cons h2 h3⟩
  | a :: b :: A, _, _, h1, h2, h3 => ⟨h1.1, NA_mid (A := b :: A) h1.2 h2 h3⟩
theorem NA_join1 {B : List (List KV)} {w z : List KV} (h : NA (z :: B)) : NA ((w ++ z) :: B) := by
  cases B with
  | nil => trivial
  | cons y B => exact ⟨fun e => h.1 ⟨(List.append_eq_nil_iff.1 e.1).2, e.2⟩, h.2⟩
theorem NA_join : ∀ {A B : List (List KV)} {w z : List KV}, NA (A ++ [w]) → NA (z :: B) → NA (A ++ (w ++ z) :: B)
  | [], _, _, _, _, h2 => NA_join1 h2
  | [x], B, w, z, h1, h2 => ⟨fun e => h1.1 ⟨e.1, (List.append_eq_nil_iff.1 e.2).1⟩, NA_join1 h2⟩
  | x :: y :: A, B, w, z, h1, h2 => ⟨h1.1, NA_join (A := y :: A) h1.2 h2⟩
theorem NA_ne {A : List (List KV)} (h : NA A) (hl : 2 ≤ A.length) : A.flatten ≠ [] := by
  intro e
  match A, hl with
  | x :: y :: l, _ =>
    rw [List.flatten_cons, List.flatten_cons, List.append_eq_nil_iff, List.append_eq_nil_iff] at e
    exact h.1 ⟨e.1, e.2.1⟩
abbrev Cl := ByteArray × Nat
def hdK (t : ByteArray) : List Cl → ByteArray
  | [] => t
  | c :: _ => c.1
def ChP (Q : Nat → ByteArray → ByteArray → Prop) (t : ByteArray) : List Cl → Prop
  | [] => True
  | c :: K => Q c.2 c.1 (hdK t K) ∧ ChP Q t K
theorem hdK_append (t : ByteArray) (K1 K2 : List Cl) : hdK t (K1 ++ K2) = hdK (hdK t K2) K1 := by cases K1 <;> rfl
theorem ChP_append {Q : Nat → ByteArray → ByteArray → Prop} {t : ByteArray} : ∀ {K1 K2 : List Cl}, ChP Q t (K1 ++ K2) ↔ ChP Q (hdK t K2) K1 ∧ ChP Q t K2
  | [], K2 => ⟨fun h => ⟨trivial, h⟩, fun h => h.2⟩
  | c :: K1, K2 => by
    show Q c.2 c.1 (hdK t (K1 ++ K2)) ∧ ChP Q t (K1 ++ K2) ↔ (Q c.2 c.1 (hdK (hdK t K2) K1) ∧ ChP Q (hdK t K2) K1) ∧ ChP Q t K2
    rw [ChP_append (K1 := K1), hdK_append, and_assoc]
theorem ChP_mono {Q Q' : Nat → ByteArray → ByteArray → Prop} {t : ByteArray} : ∀ {K : List Cl}, ChP Q t K → (∀ c ∈ K, ∀ f t, Q c.2 f t → Q' c.2 f t) → ChP Q' t K
  | [], _, _ => trivial
  | c :: K, h, H => ⟨H c List.mem_cons_self _ _ h.1, ChP_mono h.2 fun c' hc => H c' (List.mem_cons_of_mem _ hc)⟩
theorem ChP_at {Q : Nat → ByteArray → ByteArray → Prop} {t : ByteArray} {K : List Cl} (h : ChP Q t K) {c : Cl} (hc : c ∈ K) : ∃ f t, Q c.2 f t := by
  obtain ⟨A, B, rfl⟩ := List.append_of_mem hc
  exact ⟨_, _, (ChP_append.1 h).2.1⟩
def clE (e : En) : Cl := (e.key, e.kid)
def Nd.cl (nd : Nd) (f : ByteArray) : List Cl := (f, nd.first) :: nd.l.map clE
theorem Nd.kids_cl (nd : Nd) (f : ByteArray) : nd.kids = (nd.cl f).map (·.2) := by
  unfold Nd.kids Nd.cl clE; simp
theorem cl_iff {Q : Nat → ByteArray → ByteArray → Prop} {t : ByteArray} {lf : Bool} : ∀ {l : List En} {f : ByteArray} {fi : Nat}, ChP Q t (Nd.cl ⟨lf, fi, l⟩ f) ↔ ∀ j c, (Nd.kids ⟨lf, fi, l⟩)[j]? = some c → Q c (Nd.lo ⟨lf, fi, l⟩ f j) (Nd.hi ⟨lf, fi, l⟩ t j)
  | [], f, fi => by
    constructor
    · rintro ⟨h, _⟩ j c hc
      cases j with
      | zero => cases hc; exact h
      | succ j => cases hc
    · intro H
      exact ⟨H 0 fi rfl, trivial⟩
  | e :: l, f, fi => by
    have ih := cl_iff (Q := Q) (t := t) (lf := lf) (l := l) (f := e.key) (fi := e.kid)
    constructor
    · rintro ⟨h, h2⟩ j c hc
      cases j with
      | zero => cases hc; exact h
      | succ j =>
        have := ih.1 h2 j c hc
        have e1 : Nd.lo ⟨lf, fi, e :: l⟩ f (j + 1) = Nd.lo ⟨lf, e.kid, l⟩ e.key j := by
          cases j with
          | zero => rfl
          | succ i =>
            unfold Nd.lo
            simp only [List.getElem?_cons_succ]
            cases hl : l[i]? with
            | some x => rfl
            | none =>
              have h1 := (List.getElem?_eq_some_iff.1 hc).1
              rw [Nd.kids_len] at h1
              have h1 : i + 1 + 1 < l.length + 1 + 1 := h1
              rw [List.getElem?_eq_none_iff] at hl
              omega
        rw [e1]; exact this
    · intro H
      refine ⟨H 0 fi rfl, ih.2 fun j c hc => ?_⟩
      have := H (j + 1) c hc
      have e1 : Nd.lo ⟨lf, fi, e :: l⟩ f (j + 1) = Nd.lo ⟨lf, e.kid, l⟩ e.key j := by
        cases j with
        | zero => rfl
        | succ i =>
          unfold Nd.lo
          simp only [List.getElem?_cons_succ]
          cases hl : l[i]? with
          | some x => rfl
          | none =>
            have h1 := (List.getElem?_eq_some_iff.1 hc).1
            rw [Nd.kids_len] at h1
            have h1 : i + 1 < l.length + 1 := h1
            rw [List.getElem?_eq_none_iff] at hl
            omega
      rw [e1] at this; exact this
def keysS (f t : ByteArray) (l : List En) : Prop := keysOk f t l ∧ ∀ e ∈ l, blt f e.key = true
section
variable (pg : Nat → Option Nd)
def entsK (m : Nat) (K : List Cl) : List (List KV) := K.map fun c => ents pg m c.2
def idsK (m : Nat) (K : List Cl) : List Nat := K.flatMap fun c => ids pg m c.2
def TrS : Nat → Nat → ByteArray → ByteArray → Prop
  | 0, id, f, t => ∃ nd, pg id = some nd ∧ nd.leaf = true ∧ keysOk f t nd.l
  | m + 1, id, f, t => ∃ nd, pg id = some nd ∧ nd.leaf = false ∧ keysS f t nd.l ∧ ChP (TrS m) t (nd.cl f) ∧ NA (entsK pg m (nd.cl f))
def Fw : Nat → Nd → ByteArray → ByteArray → Prop
  | 0, nd, f, t => nd.leaf = true ∧ keysOk f t nd.l
  | m + 1, nd, f, t => nd.leaf = false ∧ keysS f t nd.l ∧ ChP (TrS pg m) t (nd.cl f)
def Fn : Nat → Nd → Prop
  | 0, _ => True
  | m + 1, nd => NA (entsK pg m (nd.cl eB))
def entsN : Nat → Nd → List KV
  | 0, nd => nd.kv
  | m + 1, nd => (entsK pg m (nd.cl eB)).flatten
def idsN : Nat → Nd → List Nat
  | 0, _ => []
  | m + 1, nd => idsK pg m (nd.cl eB)
end
variable {pg pg' : Nat → Option Nd}
theorem TrS_iff {m id : Nat} {f t : ByteArray} : TrS pg m id f t ↔ ∃ nd, pg id = some nd ∧ Fw pg m nd f t ∧ Fn pg m nd := by
  cases m with
  | zero => exact ⟨fun ⟨nd, h1, h2⟩ => ⟨nd, h1, h2, trivial⟩, fun ⟨nd, h1, h2, _⟩ => ⟨nd, h1, h2⟩⟩
  | succ m => exact ⟨fun ⟨nd, h1, h2, h3, h4, h5⟩ => ⟨nd, h1, ⟨h2, h3, h4⟩, h5⟩, fun ⟨nd, h1, ⟨h2, h3, h4⟩, h5⟩ => ⟨nd, h1, h2, h3, h4, h5⟩⟩
theorem TrS.tr : ∀ {m id : Nat} {f t : ByteArray}, TrS pg m id f t → Tr pg m id f t
  | 0, _, _, _, h => h
  | m + 1, id, f, t, ⟨nd, h1, h2, h3, h4, h5⟩ => ⟨nd, h1, h2, h3.1, cl_iff.1 (ChP_mono h4 fun c _ f t h => TrS.tr h)⟩
theorem ents_N {m id : Nat} {nd : Nd} (h : pg id = some nd) : ents pg m id = entsN pg m nd := by
  cases m with
  | zero => exact kvs_eq h
  | succ m =>
    show (kidsOf pg id).flatMap (ents pg m) = _
    rw [kidsOf_eq h, nd.kids_cl eB]
    unfold entsN entsK
    rw [List.flatMap_def, List.map_map]; rfl
theorem ids_N {m id : Nat} {nd : Nd} (h : pg id = some nd) : ids pg m id = id :: idsN pg m nd := by
  cases m with
  | zero => rfl
  | succ m =>
    show id :: (kidsOf pg id).flatMap (ids pg m) = _
    rw [kidsOf_eq h, nd.kids_cl eB]
    unfold idsN idsK
    rw [List.flatMap_map]
theorem TrS.frame : ∀ {m id : Nat} {f t : ByteArray}, TrS pg m id f t → (∀ i ∈ ids pg m id, pg' i = pg i) → TrS pg' m id f t
  | 0, id, f, t, ⟨nd, h1, h2⟩, H => ⟨nd, (H id ids_self).trans h1, h2⟩
  | m + 1, id, f, t, ⟨nd, h1, h2, h3, h4, h5⟩, H => by
    rw [ids_N h1] at H
    have sub : ∀ c ∈ nd.cl f, ∀ i ∈ ids pg m c.2, pg' i = pg i := fun c hc i hi => H i (List.mem_cons_of_mem _ (List.mem_flatMap.2 (by
      rcases List.mem_cons.1 hc with rfl | hc
      · exact ⟨(eB, nd.first), List.mem_cons_self, hi⟩
      · exact ⟨c, List.mem_cons_of_mem _ hc, hi⟩)))
    refine ⟨nd, (H id List.mem_cons_self).trans h1, h2, h3, ChP_mono h4 fun c hc f t T => T.frame (sub c hc), ?_⟩
    have : entsK pg' m (nd.cl f) = entsK pg m (nd.cl f) := by
      unfold entsK
      refine List.map_congr_left fun c hc => ?_
      obtain ⟨f', t', T⟩ := ChP_at h4 hc
      exact (T.tr.frame (sub c hc)).2.1
    rw [this]; exact h5
theorem ChS.frame {m : Nat} {t : ByteArray} {K : List Cl} (h : ChP (TrS pg m) t K) (H : ∀ i ∈ idsK pg m K, pg' i = pg i) : ChP (TrS pg' m) t K ∧ entsK pg' m K = entsK pg m K ∧ idsK pg' m K = idsK pg m K := by
  have sub : ∀ c ∈ K, ∀ i ∈ ids pg m c.2, pg' i = pg i := fun c hc i hi => H i (List.mem_flatMap.2 ⟨c, hc, hi⟩)
  refine ⟨ChP_mono h fun c hc f t T => T.frame (sub c hc), List.map_congr_left fun c hc => ?_, ?_⟩
  · obtain ⟨f', t', T⟩ := ChP_at h hc
    exact (T.tr.frame (sub c hc)).2.1
  · unfold idsK
    rw [List.flatMap_def, List.flatMap_def]
    congr 1
    refine List.map_congr_left fun c hc => ?_
    obtain ⟨f', t', T⟩ := ChP_at h hc
    exact (T.tr.frame (sub c hc)).2.2
theorem Fw.frame {m : Nat} {nd : Nd} {f t : ByteArray} (h : Fw pg m nd f t) (H : ∀ i ∈ idsN pg m nd, pg' i = pg i) : Fw pg' m nd f t ∧ (Fn pg m nd → Fn pg' m nd) ∧ entsN pg' m nd = entsN pg m nd ∧ idsN pg' m nd = idsN pg m nd := by
  cases m with
  | zero => exact ⟨h, fun h => h, rfl, rfl⟩
  | succ m =>
    obtain ⟨h1, h2, h3⟩ := h
    obtain ⟨g1, g2, g3⟩ := ChS.frame h3 H
    refine ⟨⟨h1, h2, g1⟩, fun h5 => ?_, ?_, g3⟩
    · show NA (entsK pg' m (nd.cl f))
      rw [g2]; exact h5
    · show (entsK pg' m (nd.cl f)).flatten = _
      rw [g2]; rfl
theorem TrS.put {m id : Nat} {nd : Nd} {f t : ByteArray} (h : Fw pg m nd f t) (hn : Fn pg m nd) (e : pg' id = some nd) (H : ∀ i ∈ idsN pg m nd, pg' i = pg i) : TrS pg' m id f t ∧ ents pg' m id = entsN pg m nd ∧ ids pg' m id = id :: idsN pg m nd := by
  obtain ⟨g1, g2, g3, g4⟩ := h.frame H
  exact ⟨TrS_iff.2 ⟨nd, e, g1, g2 hn⟩, (ents_N e).trans g3, by rw [ids_N e, g4]⟩
end Go.Proofs.YthbogjbcecmopaaDoor
namespace Go.Proofs.YthbogjbcecmopaaDoor
open Go.Gx
set_option maxRecDepth 100000
set_option linter.unusedVariables false
variable {pg pg' : Nat → Option Nd}
theorem blt_eB (x : ByteArray) : blt x eB = false := by
  unfold blt
  show Op.bytesLess x.data.toList [] = false
  cases x.data.toList <;> rfl
theorem blt_neB {x y : ByteArray} (h : blt x y = true) : y ≠ eB := fun e => by rw [e, blt_eB] at h; cases h
theorem keysOk_part {f t : ByteArray} {l1 l2 : List En} {e : En} (h : keysOk f t (l1 ++ e :: l2)) : keysOk f e.key l1 ∧ keysOk e.key t (e :: l2) ∧ keysS e.key t l2 := by
  obtain ⟨h1, h2⟩ := keysOk_iff.1 h
  rw [List.map_append, List.map_cons] at h2
  obtain ⟨s1, s2, s3⟩ := List.pairwise_append.1 h2
  have s4 := List.pairwise_cons.1 s2
  have he : ∀ e' ∈ l2, blt e.key e'.key = true := fun e' he => s4.1 _ (List.mem_map_of_mem he)
  refine ⟨keysOk_iff.2 ⟨fun e' he' => ⟨(h1 e' (List.mem_append_left _ he')).1, fun _ => s3 _ (List.mem_map_of_mem he') _ List.mem_cons_self⟩, s1⟩, keysOk_iff.2 ⟨fun e' he' => ⟨?_, (h1 e' (List.mem_append_right _ he')).2⟩, s2⟩, keysOk_iff.2 ⟨fun e' he' => ⟨blt_asymm (he e' he'), (h1 e' (List.mem_append_right _ (List.mem_cons_of_mem _ he'))).2⟩, s4.2⟩, he⟩
  rcases List.mem_cons.1 he' with rfl | he'
  · exact blt_irrefl _
  · exact blt_asymm (he e' he')
theorem keysOk_cat {f s t : ByteArray} {l1 l2 : List En} (h1 : keysOk f s l1) (h2 : keysOk s t l2) (hs : blt f s = true) (ht : below t s) : keysOk f t (l1 ++ l2) := by
  obtain ⟨a1, a2⟩ := keysOk_iff.1 h1
  obtain ⟨b1, b2⟩ := keysOk_iff.1 h2
  have s0 := blt_neB hs
  refine keysOk_iff.2 ⟨fun e he => ?_, ?_⟩
  · rcases List.mem_append.1 he with he | he
    · exact ⟨(a1 e he).1, fun h => blt_trans ((a1 e he).2 s0) (ht h)⟩
    · exact ⟨blt_asymm (blt_le_trans hs (b1 e he).1), (b1 e he).2⟩
  · rw [List.map_append]
    refine List.pairwise_append.2 ⟨a2, b2, fun p hp q hq => ?_⟩
    obtain ⟨e, he, rfl⟩ := List.mem_map.1 hp
    obtain ⟨e', he', rfl⟩ := List.mem_map.1 hq
    exact blt_le_trans ((a1 e he).2 s0) (b1 e' he').1
theorem keysOk_mid {f s t : ByteArray} {l1 l2 : List En} {e : En} (h1 : keysOk f e.key l1) (h2 : keysS e.key t l2) (hs : blt e.key f = false) (ht : below t e.key) (h0 : e.key ≠ eB) : keysOk f t (l1 ++ e :: l2) := by
  obtain ⟨a1, a2⟩ := keysOk_iff.1 h1
  obtain ⟨b1, b2⟩ := keysOk_iff.1 h2.1
  refine keysOk_iff.2 ⟨fun e' he => ?_, ?_⟩
  · rcases List.mem_append.1 he with he | he
    · exact ⟨(a1 e' he).1, fun h => blt_trans ((a1 e' he).2 h0) (ht h)⟩
    · rcases List.mem_cons.1 he with rfl | he
      · exact ⟨hs, ht⟩
      · exact ⟨le_trans_blt hs (b1 e' he).1, (b1 e' he).2⟩
  · rw [List.map_append, List.map_cons]
    refine List.pairwise_append.2 ⟨a2, List.pairwise_cons.2 ⟨fun q hq => ?_, b2⟩, fun p hp q hq => ?_⟩
    · obtain ⟨e', he', rfl⟩ := List.mem_map.1 hq
      exact h2.2 e' he'
    · obtain ⟨e1, he1, rfl⟩ := List.mem_map.1 hp
      rcases List.mem_cons.1 hq with rfl | hq
      · exact (a1 e1 he1).2 h0
      · obtain ⟨e', he', rfl⟩ := List.mem_map.1 hq
        exact blt_trans ((a1 e1 he1).2 h0) (h2.2 e' he')
def rightN (lf : Bool) (e : En) (l : List En) : Nd := if lf then ⟨true, 0, e :: l⟩ else ⟨false, e.kid, l⟩
theorem cl_app (lf : Bool) (fi : Nat) (l1 : List En) (e : En) (l2 : List En) (f : ByteArray) : Nd.cl ⟨lf, fi, l1 ++ e :: l2⟩ f = Nd.cl ⟨lf, fi, l1⟩ f ++ Nd.cl ⟨lf, e.kid, l2⟩ e.key := by
  unfold Nd.cl
  rw [List.map_append, List.map_cons]; rfl
theorem entsK_append (pg : Nat → Option Nd) (m : Nat) (A B : List Cl) : entsK pg m (A ++ B) = entsK pg m A ++ entsK pg m B := List.map_append
theorem idsK_append (pg : Nat → Option Nd) (m : Nat) (A B : List Cl) : idsK pg m (A ++ B) = idsK pg m A ++ idsK pg m B := List.flatMap_append
theorem Fw.part {m : Nat} {lf : Bool} {fi : Nat} {l1 l2 : List En} {e : En} {f t : ByteArray} (h : Fw pg m ⟨lf, fi, l1 ++ e :: l2⟩ f t) :
    Fw pg m ⟨lf, fi, l1⟩ f e.key ∧ Fw pg m (rightN lf e l2) e.key t ∧ entsN pg m ⟨lf, fi, l1 ++ e :: l2⟩ = entsN pg m ⟨lf, fi, l1⟩ ++ entsN pg m (rightN lf e l2) ∧ idsN pg m ⟨lf, fi, l1 ++ e :: l2⟩ = idsN pg m ⟨lf, fi, l1⟩ ++ idsN pg m (rightN lf e l2) ∧
    (Fn pg m ⟨lf, fi, l1 ++ e :: l2⟩ → Fn pg m ⟨lf, fi, l1⟩ ∧ Fn pg m (rightN lf e l2)) := by
  cases m with
  | zero =>
    obtain ⟨h1, h2⟩ := h
    have h1 : lf = true := h1
    subst h1
    obtain ⟨g1, g2, g3⟩ := keysOk_part h2
    refine ⟨⟨rfl, g1⟩, ⟨rfl, g2⟩, ?_, rfl, fun _ => ⟨trivial, trivial⟩⟩
    show List.map En.kv (l1 ++ e :: l2) = List.map En.kv l1 ++ List.map En.kv (e :: l2)
    rw [List.map_append]
  | succ m =>
    obtain ⟨h1, h2, h3⟩ := h
    have h1 : lf = false := h1
    subst h1
    obtain ⟨g1, g2, g3⟩ := keysOk_part h2.1
    rw [cl_app] at h3
    obtain ⟨c1, c2⟩ := ChP_append.1 h3
    have e1 : entsK pg m (Nd.cl ⟨false, fi, l1 ++ e :: l2⟩ eB) = entsK pg m (Nd.cl ⟨false, fi, l1⟩ eB) ++ entsK pg m (Nd.cl ⟨false, e.kid, l2⟩ eB) := by rw [cl_app, entsK_append]; rfl
    refine ⟨⟨rfl, ⟨g1, fun e' he => h2.2 e' (List.mem_append_left _ he)⟩, c1⟩, ⟨rfl, g3, c2⟩, ?_, ?_, fun hn => ?_⟩
    · show (entsK pg m _).flatten = (entsK pg m _).flatten ++ (entsK pg m _).flatten
      rw [e1, List.flatten_append]; rfl
    · show idsK pg m _ = idsK pg m _ ++ idsK pg m _
      rw [cl_app, idsK_append]; rfl
    · have hn : NA (entsK pg m (Nd.cl ⟨false, fi, l1 ++ e :: l2⟩ eB)) := hn
      rw [e1] at hn
      exact ⟨NA_left hn, NA_right hn⟩
def mergeN (a : Nd) (s : ByteArray) (b : Nd) : Nd := ⟨a.leaf, a.first, if a.leaf then a.l ++ b.l else a.l ++ ⟨s, eB, b.first⟩ :: b.l⟩
theorem Fw.merge {m : Nat} {a b : Nd} {f s t : ByteArray} (ha : Fw pg m a f s) (hb : Fw pg m b s t) (hs : blt f s = true) (ht : below t s) :
    Fw pg m (mergeN a s b) f t ∧ entsN pg m (mergeN a s b) = entsN pg m a ++ entsN pg m b ∧ idsN pg m (mergeN a s b) = idsN pg m a ++ idsN pg m b := by
  obtain ⟨al, af, ax⟩ := a
  obtain ⟨bl, bf, bs⟩ := b
  cases m with
  | zero =>
    have e1 : al = true := ha.1
    subst e1
    refine ⟨⟨rfl, keysOk_cat ha.2 hb.2 hs ht⟩, ?_, rfl⟩
    show List.map En.kv (ax ++ bs) = _
    rw [List.map_append]; rfl
  | succ m =>
    obtain ⟨h1, h2, h3⟩ := ha
    obtain ⟨g1, g2, g3⟩ := hb
    have e1 : al = false := h1
    subst e1
    have ec : Nd.cl (mergeN ⟨false, af, ax⟩ s ⟨bl, bf, bs⟩) = fun f => Nd.cl ⟨false, af, ax⟩ f ++ Nd.cl ⟨bl, bf, bs⟩ s := by
      funext f
      show Nd.cl ⟨false, af, ax ++ ⟨s, eB, bf⟩ :: bs⟩ f = _
      rw [cl_app]; rfl
    refine ⟨⟨rfl, ⟨keysOk_mid (s := f) (e := ⟨s, eB, bf⟩) h2.1 g2 (blt_asymm hs) ht (blt_neB hs), fun e he => ?_⟩, ?_⟩, ?_, ?_⟩
    · rcases List.mem_append.1 he with he | he
      · exact h2.2 e he
      · rcases List.mem_cons.1 he with rfl | he
        · exact hs
        · exact blt_trans hs (g2.2 e he)
    · rw [ec]
      exact ChP_append.2 ⟨h3, g3⟩
    · show (entsK pg m _).flatten = (entsK pg m _).flatten ++ (entsK pg m _).flatten
      rw [ec, entsK_append, List.flatten_append]; rfl
    · show idsK pg m _ = idsK pg m _ ++ idsK pg m _
      rw [ec, idsK_append]; rfl
theorem cl_split (lf : Bool) (fi : Nat) (l1 : List En) (f : ByteArray) : ∃ K1 c, (∀ l2, Nd.cl ⟨lf, fi, l1 ++ l2⟩ f = K1 ++ c :: l2.map clE) ∧ K1.length = l1.length ∧ (∀ l2, (Nd.kids ⟨lf, fi, l1 ++ l2⟩)[l1.length]? = some c.2) ∧ ((l1 = [] ∧ c = (f, fi)) ∨ ∃ l0 e, l1 = l0 ++ [e] ∧ c = clE e) := by
  rcases List.eq_nil_or_concat l1 with rfl | ⟨l0, e, rfl⟩
  · exact ⟨[], (f, fi), fun l2 => rfl, rfl, fun l2 => rfl, .inl ⟨rfl, rfl⟩⟩
  · rw [List.concat_eq_append]
    refine ⟨Nd.cl ⟨lf, fi, l0⟩ f, clE e, fun l2 => ?_, ?_, fun l2 => ?_, .inr ⟨l0, e, rfl, rfl⟩⟩
    · rw [List.append_assoc, List.singleton_append, cl_app]; rfl
    · unfold Nd.cl; simp
    · unfold Nd.kids
      rw [List.length_append]
      show (fi :: List.map En.kid (l0 ++ [e] ++ l2))[l0.length + 1]? = _
      rw [List.getElem?_cons_succ, List.map_append, List.map_append, List.append_assoc, List.getElem?_append_right (by rw [List.length_map]; exact Nat.le_refl _), List.length_map, Nat.sub_self]; rfl
theorem cl_sorted {lf : Bool} {fi : Nat} {l : List En} {f t : ByteArray} (h : keysS f t l) : (Nd.cl ⟨lf, fi, l⟩ f).Pairwise fun a b => blt a.1 b.1 = true := by
  unfold Nd.cl
  refine List.pairwise_cons.2 ⟨fun c hc => ?_, ?_⟩
  · obtain ⟨e, he, rfl⟩ := List.mem_map.1 hc
    exact h.2 e he
  · have := (keysOk_iff.1 h.1).2
    unfold kvSorted at this
    rw [List.pairwise_map] at this ⊢
    exact this
theorem K_below (O : PgOk pg) {m : Nat} {s : ByteArray} : ∀ {K : List Cl}, ChP (TrS pg m) s K → (∀ c ∈ K, blt c.1 s = true) → K.Pairwise (fun a b => blt a.1 b.1 = true) → ∀ p ∈ (entsK pg m K).flatten, blt p.1 s = true
  | [], _, _, _, p, hp => by cases hp
  | c :: K, h, h1, h2, p, hp => by
    have hp : p ∈ ents pg m c.2 ++ (entsK pg m K).flatten := hp
    rcases List.mem_append.1 hp with hp | hp
    · have := ((h.1.tr.ents_ok O).1 p hp).2.1
      cases K with
      | nil => exact this (blt_neB (h1 c List.mem_cons_self))
      | cons d K =>
        have hd : blt c.1 d.1 = true := (List.pairwise_cons.1 h2).1 d List.mem_cons_self
        exact blt_trans (this (blt_neB hd)) (h1 d (List.mem_cons_of_mem _ List.mem_cons_self))
    · exact K_below O h.2 (fun d hd => h1 d (List.mem_cons_of_mem _ hd)) (List.pairwise_cons.1 h2).2 p hp
theorem K_above (O : PgOk pg) {m : Nat} {s t : ByteArray} : ∀ {K : List Cl}, ChP (TrS pg m) t K → (∀ c ∈ K, blt s c.1 = true) → ∀ p ∈ (entsK pg m K).flatten, blt s p.1 = true
  | [], _, _, p, hp => by cases hp
  | c :: K, h, h1, p, hp => by
    have hp : p ∈ ents pg m c.2 ++ (entsK pg m K).flatten := hp
    rcases List.mem_append.1 hp with hp | hp
    · exact blt_le_trans (h1 c List.mem_cons_self) ((h.1.tr.ents_ok O).1 p hp).1
    · exact K_above O h.2 (fun d hd => h1 d (List.mem_cons_of_mem _ hd)) p hp
theorem kid_at (O : PgOk pg) {m : Nat} {nd : Nd} {f t k : ByteArray} (h : Fw pg (m + 1) nd f t) (hf : blt k f = false) (ht : below t k) : ∃ l1 l2 K1 c, nd.l = l1 ++ l2 ∧ l1.length = kvBe k nd.kv ∧ nd.cl f = K1 ++ c :: l2.map clE ∧ (∀ l, Nd.cl ⟨nd.leaf, nd.first, l1 ++ l⟩ f = K1 ++ c :: l.map clE) ∧ K1.length = l1.length ∧ nd.kids[l1.length]? = some c.2 ∧
    TrS pg m c.2 c.1 (hdK t (l2.map clE)) ∧ blt k c.1 = false ∧ below (hdK t (l2.map clE)) k ∧ (∀ p ∈ (entsK pg m K1).flatten, blt p.1 k = true) ∧ (∀ p ∈ (entsK pg m (l2.map clE)).flatten, blt k p.1 = true) ∧ blt c.1 f = false ∧ (∀ x, below (hdK t (l2.map clE)) x → below t x) := by
  obtain ⟨lf, fi, l⟩ := nd
  obtain ⟨h1, h2, h3⟩ := h
  have h1 : lf = false := h1
  subst h1
  have hbe := kvBe_le k (Nd.kv ⟨false, fi, l⟩)
  rw [Nd.kv_len] at hbe
  have hbe : kvBe k (Nd.kv ⟨false, fi, l⟩) ≤ l.length := hbe
  generalize hq : kvBe k (Nd.kv ⟨false, fi, l⟩) = q at hbe
  have hl : l = l.take q ++ l.drop q := (List.take_append_drop q l).symm
  have hln : (l.take q).length = q := by rw [List.length_take]; omega
  have hlow : ∀ e ∈ l.take q, blt k e.key = false := fun e he => by
    obtain ⟨i, hi⟩ := List.mem_iff_getElem?.1 he
    have hi2 := (List.getElem?_eq_some_iff.1 hi).1
    rw [hln] at hi2
    rw [List.getElem?_take, if_pos hi2] at hi
    exact kvBe_before k (Nd.kv ⟨false, fi, l⟩) i e.kv (Nd.kv_get (nd := ⟨false, fi, l⟩) hi) (by rw [hq]; exact hi2)
  have hhigh : ∀ e ∈ l.drop q, blt k e.key = true := fun e he => by
    obtain ⟨i, hi⟩ := List.mem_iff_getElem?.1 he
    rw [List.getElem?_drop] at hi
    exact kvBe_after (L := Nd.kv ⟨false, fi, l⟩) (keysOk_iff.1 h2.1).2 (p := e.kv) (Nd.kv_get (nd := ⟨false, fi, l⟩) hi) (by rw [hq]; omega)
  have hlt : ∀ e ∈ l, below t e.key := fun e he => ((keysOk_iff.1 h2.1).1 e he).2
  have hsl := cl_sorted (lf := false) (fi := fi) h2
  obtain ⟨K1, c, k1, k2, k3, k4⟩ := cl_split false fi (l.take q) f
  have hcl := k1 (l.drop q)
  have hk3 := k3 (l.drop q)
  rw [← hl] at hcl hk3
  rw [hcl] at h3 hsl
  obtain ⟨c1, c2, c3⟩ := ChP_append.1 h3
  have s1 := List.pairwise_append.1 hsl
  have hc : blt k c.1 = false := by
    rcases k4 with ⟨_, rfl⟩ | ⟨l0, e, e1, rfl⟩
    · exact hf
    · exact hlow e (by rw [e1]; exact List.mem_append_right _ List.mem_cons_self)
  have hcf : blt c.1 f = false := by
    rcases k4 with ⟨_, rfl⟩ | ⟨l0, e, e1, rfl⟩
    · exact blt_irrefl _
    · exact blt_asymm (h2.2 e (by rw [hl]; exact List.mem_append_left _ (by rw [e1]; exact List.mem_append_right _ List.mem_cons_self)))
  refine ⟨l.take q, l.drop q, K1, c, hl, hln, hcl, k1, k2, hk3, c2, hc, ?_, fun p hp => ?_, fun p hp => ?_, hcf, ?_⟩
  · cases hd : l.drop q with
    | nil => exact ht
    | cons e r => exact fun _ => hhigh e (by rw [hd]; exact List.mem_cons_self)
  · exact blt_le_trans (K_below O c1 (fun d hd => s1.2.2 d hd c List.mem_cons_self) s1.1 p hp) hc
  · exact K_above O c3 (fun d hd => by
      obtain ⟨e, he, rfl⟩ := List.mem_map.1 hd
      exact hhigh e he) p hp
  · cases hd : l.drop q with
    | nil => exact fun x hx => hx
    | cons e r => exact fun x hx ht0 => blt_trans (hx (blt_neB (hhigh e (by rw [hd]; exact List.mem_cons_self)))) (hlt e (by rw [hl, hd]; exact List.mem_append_right _ List.mem_cons_self) ht0)
end Go.Proofs.YthbogjbcecmopaaDoor
namespace Go.Proofs.YthbogjbcecmopaaDoor
open Go.Gx
set_option maxRecDepth 100000
set_option linter.unusedVariables false
variable {n : Nat} {D : Dk} {P P' : Pg}
theorem pgs_congr {i : Nat} (hu : P'.now.u i = P.now.u i) (hd : dget P'.d i = dget P.d i) : P'.pgs D n i = P.pgs D n i := by
  unfold Pg.pgs Pg.node Pg.why Pg.page
  rw [Int.toNat_natCast, hu, hd]
theorem pgs_write_ne {i j : Nat} {s : ByteArray} (h : j ≠ i) : (P.write i s).pgs D n j = P.pgs D n j :=
  pgs_congr rfl (by show dget (dset P.d i s) j = _; rw [dget_set, if_neg h])
theorem pgs_write_same {i : Nat} {nd : Nd} (hw : P.why n (i : Nat) = 0) (o : NdOk nd) : (P.write i (pageB nd)).pgs D n i = some nd := by
  have hw' : (P.write i (pageB nd)).why n (i : Nat) = 0 := hw
  unfold Pg.pgs Pg.node
  rw [if_pos hw', Int.toNat_natCast]
  unfold Pg.page
  show parseB ((dget (dset P.d i (pageB nd)) i).getD _) = _
  rw [dget_set, if_pos rfl]
  exact parse_page o
theorem pgs_alloc_ne {i j : Nat} (h : j ≠ i) : (P.alloc i).pgs D n j = P.pgs D n j :=
  pgs_congr (upU_ne _ _ h) (by show dget (dset P.d i _) j = _; rw [dget_set, if_neg h])
theorem pgs_give_ne {i j : Nat} (h : j ≠ i) : (P.give i).pgs D n j = P.pgs D n j :=
  pgs_congr (upU_ne _ _ h) (by show dget (ddel P.d i) j = _; rw [dget_del, if_neg h])
theorem freeN_alloc {i : Nat} (hu : P.now.u i = false) (j : Nat) : (P.alloc i).freeN j + (if i < j then 1 else 0) = P.freeN j := by
  induction j with
  | zero => rfl
  | succ j ih =>
    rw [freeN_step, freeN_step]
    show _ + (if upU P.now.u i true j = true then 0 else 1) + _ = _
    by_cases e : j = i
    · subst e
      rw [upU_same, hu, if_pos rfl, if_pos (by omega), if_neg (by decide)]
      rw [if_neg (by omega)] at ih
      omega
    · rw [upU_ne _ _ e]
      by_cases g : i < j
      · rw [if_pos (show i < j + 1 by omega)]
        rw [if_pos g] at ih
        omega
      · rw [if_neg (show ¬ i < j + 1 by omega)]
        rw [if_neg g] at ih
        omega
theorem freeN_give {i : Nat} (hu : P.now.u i = true) (j : Nat) : (P.give i).freeN j = P.freeN j + (if i < j then 1 else 0) := by
  induction j with
  | zero => rfl
  | succ j ih =>
    rw [freeN_step, freeN_step]
    show _ + (if upU P.now.u i false j = true then 0 else 1) = _
    by_cases e : j = i
    · subst e
      rw [upU_same, hu, if_pos (show j < j + 1 by omega), if_pos rfl, if_neg (by decide)]
      rw [if_neg (by omega)] at ih
      omega
    · rw [upU_ne _ _ e]
      by_cases g : i < j
      · rw [if_pos (show i < j + 1 by omega)]
        rw [if_pos g] at ih
        omega
      · rw [if_neg (show ¬ i < j + 1 by omega)]
        rw [if_neg g] at ih
        omega
structure Mv (n : Nat) (D : Dk) (P P' : Pg) (I I' : List Nat) : Prop where
  good : P'.good = P.good
  pts : P'.pts = P.pts
  ser : P'.now.s = P.now.s
  roots : P'.now.r = P.now.r
  out : ∀ i, P.now.u i = true → i ∉ I → P'.now.u i = true ∧ P'.pgs D n i = P.pgs D n i
  new : ∀ i ∈ I', i ∈ I ∨ P.now.u i = false
  free : P'.freeN n + I'.length = P.freeN n + I.length
theorem Mv.refl (n : Nat) (D : Dk) (P : Pg) (I : List Nat) : Mv n D P P I I := ⟨rfl, rfl, rfl, rfl, fun i h _ => ⟨h, rfl⟩, fun i h => .inl h, rfl⟩
theorem Mv.trans {P2 : Pg} {I I1 I2 : List Nat} (a : Mv n D P P' I I1) (b : Mv n D P' P2 I1 I2) : Mv n D P P2 I I2 := by
  have no : ∀ i, P.now.u i = true → i ∉ I → i ∉ I1 := fun i h1 h2 h3 => (a.new i h3).elim h2 fun h => by rw [h1] at h; cases h
  refine ⟨b.good.trans a.good, b.pts.trans a.pts, b.ser.trans a.ser, b.roots.trans a.roots, fun i h1 h2 => ?_, fun i hi => ?_, ?_⟩
  · obtain ⟨g1, g2⟩ := a.out i h1 h2
    obtain ⟨g3, g4⟩ := b.out i g1 (no i h1 h2)
    exact ⟨g3, g4.trans g2⟩
  · rcases b.new i hi with h | h
    · exact a.new i h
    · by_cases h1 : P.now.u i = true
      · by_cases h2 : i ∈ I
        · exact .inl h2
        · rw [(a.out i h1 h2).1] at h; cases h
      · exact .inr (by simpa using h1)
  · have := a.free
    have := b.free
    omega
theorem Mv.lift {A A' I I' : List Nat} (M : Mv n D P P' A A') (h1 : ∀ i ∈ A, i ∈ I) (h2 : ∀ i ∈ I', i ∈ A' ∨ i ∈ I) (hl : I'.length + A.length = I.length + A'.length) : Mv n D P P' I I' := by
  refine ⟨M.good, M.pts, M.ser, M.roots, fun i g1 g2 => M.out i g1 fun h => g2 (h1 i h), fun i hi => ?_, ?_⟩
  · rcases h2 i hi with h | h
    · exact (M.new i h).imp (h1 i) id
    · exact .inl h
  · have := M.free
    omega
theorem Mv.write {I : List Nat} {i : Nat} (hi : i ∈ I) (s : ByteArray) : Mv n D P (P.write i s) I I :=
  ⟨rfl, rfl, rfl, rfl, fun j h1 h2 => ⟨h1, pgs_write_ne fun e => h2 (e ▸ hi)⟩, fun j h => .inl h, rfl⟩
theorem Mv.alloc {i : Nat} (hi : i < n) (hu : P.now.u i = false) (I : List Nat) : Mv n D P (P.alloc i) I (i :: I) := by
  refine ⟨rfl, rfl, rfl, rfl, fun j h1 h2 => ?_, fun j hj => ?_, ?_⟩
  · have : j ≠ i := fun e => by rw [e, hu] at h1; cases h1
    exact ⟨(upU_ne _ _ this).trans h1, pgs_alloc_ne this⟩
  · rcases List.mem_cons.1 hj with rfl | h
    · exact .inr hu
    · exact .inl h
  · have := freeN_alloc hu n
    rw [if_pos hi] at this
    rw [List.length_cons]; omega
theorem Mv.give {i : Nat} (hi : i < n) (hu : P.now.u i = true) (I : List Nat) : Mv n D P (P.give i) (i :: I) I := by
  refine ⟨rfl, rfl, rfl, rfl, fun j h1 h2 => ?_, fun j hj => .inl (List.mem_cons_of_mem _ hj), ?_⟩
  · have : j ≠ i := fun e => h2 (e ▸ List.mem_cons_self)
    exact ⟨(upU_ne _ _ this).trans h1, pgs_give_ne this⟩
  · have := freeN_give hu n
    rw [if_pos hi] at this
    rw [List.length_cons]; omega
theorem pgs_used {i : Nat} (e : (P.pgs D n i).isSome = true) : P.now.u i = true := by
  have := (why_iff.1 (pgs_why e)).1
  unfold Pg.used at this
  rw [Bool.and_eq_true_iff, Bool.and_eq_true_iff, Int.toNat_natCast] at this
  exact this.2.2
theorem Mv.apart {I I' R : List Nat} (M : Mv n D P P' I I') (hR : ∀ i ∈ R, (P.pgs D n i).isSome = true ∧ i ∉ I) : (∀ i ∈ R, P'.pgs D n i = P.pgs D n i) ∧ ∀ i ∈ R, i ∉ I' := by
  refine ⟨fun i hi => (M.out i (pgs_used (hR i hi).1) (hR i hi).2).2, fun i hi h => ?_⟩
  rcases M.new i h with h | h
  · exact (hR i hi).2 h
  · rw [pgs_used (hR i hi).1] at h; cases h
theorem TrS.in_pg {m id : Nat} {f t : ByteArray} (T : TrS (P.pgs D n) m id f t) {i : Nat} (hi : i ∈ ids (P.pgs D n) m id) : (P.pgs D n i).isSome = true := T.tr.in_pg i hi
theorem ChS.in_pg {m : Nat} {t : ByteArray} {K : List Cl} (h : ChP (TrS (P.pgs D n) m) t K) {i : Nat} (hi : i ∈ idsK (P.pgs D n) m K) : (P.pgs D n i).isSome = true := by
  obtain ⟨c, hc, hi⟩ := List.mem_flatMap.1 hi
  obtain ⟨f, t', T⟩ := ChP_at h hc
  exact T.in_pg hi
variable {h : Hp} {K : Value → Hp → Prop} {pb jb db : Nat} {S : Nat → Prop} {tb k : Nat}
theorem store_spec (E : PgAt h pb jb db S n D P) (T : TrAt h tb pb k) {kk : Nat} {a : Option Addr} {c : Nat} {nd : Nd} (N : NdEx h kk a c nd) (o : NdOk nd) {id : Nat} (hw : P.why n (id : Nat) = 0)
    (hK : ∀ h', PgAt h' pb jb db S n D (P.write id (pageB nd)) → Keep S h h' → K (.tuple #[]) h') : CallsH Tryd.prog btree_Tree_store.id #[.pointer (some ⟨tb, 0, none⟩), .int .i64 (id : Nat), .pointer (some ⟨kk, 0, none⟩)] h K := by
  apply btree_Tree_store.calls
  unfold btree_Tree_store.W
  refine ⟨_, T.cell' 0 rfl, nbytes_spec N o fun h1 s1 => ⟨_, rfl, s1, ?_⟩⟩
  refine pwrite_spec (E.sub s1) _ _ (fun e => absurd hw e) (fun _ e => absurd (pageB_size o) e) fun j ej _ _ h2 E2 st => ⟨_, rfl, ?_⟩
  have : id = j := by omega
  subst this
  exact hK h2 E2 ((s1.keep S).trans st.1)
end Go.Proofs.YthbogjbcecmopaaDoor
namespace Go.Proofs.YthbogjbcecmopaaDoor
open Go.Gx
set_option maxRecDepth 100000
set_option linter.unusedVariables false
theorem put_nil (h : Hp) (b o : Nat) : h.put b o [] = h := by
  unfold Hp.put
  split
  · rename_i cs t f hb
    funext c
    show (h.upd b (.cells cs t f)) c = h c
    by_cases e : c = b
    · rw [e, Hp.upd_same, hb]
    · rw [Hp.upd_ne _ _ e]
  · rfl
section
variable {α : Type} {f : α → List Value} {sz : Nat}
structure VwR (f : α → List Value) (sz : Nat) (h : Hp) (e : TypeId) (a : Option Addr) (c : Nat) (L : List α) : Prop where
  row : RowAt f sz h a L
  le : L.length ≤ c
  vw : (a = none ∧ c = 0) ∨ ∃ b ws, a = some ⟨b, 0, none⟩ ∧ Blk h b e ws ∧ c * sz ≤ ws.length
theorem own_vw {h : Hp} {e : TypeId} {a : Option Addr} {c : Nat} {L : List α} (O : OwnR f sz h e a c L) : VwR f sz h e a c L := by
  refine ⟨O.row, O.le, ?_⟩
  obtain ⟨h1, h2, h3⟩ := O
  rcases h3 with h3 | ⟨b, rest, e1, h3, h4⟩
  · exact .inl h3
  · refine .inr ⟨b, _, e1, h3, ?_⟩
    rw [List.length_append, h1, h4, ← Nat.add_mul]
    exact Nat.mul_le_mul_right _ (by omega)
theorem VwR.keep {S : Nat → Prop} {h h' : Hp} {e : TypeId} {a : Option Addr} {c : Nat} {L : List α} (H : VwR f sz h e a c L) (s : Keep S h h') (hn : ∀ c, blkOf a c → ¬ S c) : VwR f sz h' e a c L := by
  refine ⟨H.row.keep s hn, H.le, ?_⟩
  rcases H.vw with h1 | ⟨b, ws, e1, h1, h2⟩
  · exact .inl h1
  · exact .inr ⟨b, ws, e1, h1.keep s (hn b ⟨0, none, e1⟩), h2⟩
theorem VwR.sub {h h' : Hp} {e : TypeId} {a : Option Addr} {c : Nat} {L : List α} (H : VwR f sz h e a c L) (s : Sub h h') : VwR f sz h' e a c L := H.keep (S := fun _ => False) (s.keep _) fun _ _ h => h
theorem VwR.take (hf : ∀ x, (f x).length = sz) {h : Hp} {e : TypeId} {a : Option Addr} {c : Nat} {L : List α} (H : VwR f sz h e a c L) {i : Nat} (hi : i ≤ L.length) : VwR f sz h e a i (L.take i) ∨ (a = none ∧ i = 0) := by
  rcases H.vw with ⟨e1, e2⟩ | ⟨b, ws, e1, h1, h2⟩
  · right
    have := H.le
    exact ⟨e1, by omega⟩
  · left
    refine ⟨?_, by rw [List.length_take]; omega, .inr ⟨b, ws, e1, h1, Nat.le_trans (Nat.mul_le_mul_right _ (by have := H.le; omega)) h2⟩⟩
    have := H.row.part hf (i := 0) (n := i) H.le (by omega)
    rw [slA_zero, List.drop_zero] at this
    exact this
theorem VwR.in_heap {h : Hp} {e : TypeId} {a : Option Addr} {c : Nat} {L : List α} (H : VwR f sz h e a c L) {b : Nat} (hb : blkOf a b) : h b ≠ none := by
  obtain ⟨o, s, hb⟩ := hb
  rcases H.vw with ⟨e1, _⟩ | ⟨b', ws, e1, h3, _⟩
  · rw [e1] at hb; cases hb
  · rw [e1] at hb; cases hb
    rw [h3.get]; simp
theorem append_cap {P : Program} {e : TypeId} {by_ : Nat} (T : AppT P e sz by_) (hf : ∀ x, (f x).length = sz) (hp : ∀ x, plainP (f x)) {h : Hp} {a : Option Addr} {c : Nat} {L M : List α} {i n : Nat} {ys : List Value} {J : Option Addr → Nat → Hp → Prop} (V : VwR f sz h e a c L)
    (hi : i ≤ L.length) (hn : n = M.length) (hy : ys = rowC f M) (hb : (2 * (i + M.length) + 768) * by_ ≤ 281474976710656)
    (hJ : ∀ a' c' h', Sub h h' → VwR f sz h' e a' c' (L.take i ++ M) → (∀ b, blkOf a' b → blkOf a b ∨ h b = none) → (M ≠ [] → NewR f sz e h h' a' c' (L.take i ++ M)) → J a' c' h') : appendC P e a i i h ys n J := by
  subst hn; subst hy
  unfold appendC appendI
  have hok : (okT P e && Nat.blt 0 (byT P e)) = true := by
    rw [T.ok, T.by_]
    have := T.bpos
    simp [Nat.blt, Nat.ble_eq]; omega
  rw [hok]
  simp only [Bool.not_true, cond_false, T.sz, T.by_, leN, ltN, nadd, nmul, nsub]
  have tl : (L.take i).length = i := by rw [List.length_take]; omega
  refine ⟨fun hc => ?_, fun hc => ⟨hb, rowC f (L.take i), ?_, fun nc hnc => ?_⟩⟩
  · have hM : M = [] := List.length_eq_zero_iff.1 (by omega)
    subst hM
    rcases V.take hf hi with V' | ⟨rfl, rfl⟩
    · have hJ := hJ a i h (Sub.refl h) (by rw [List.append_nil]; exact V') (fun b hb => .inl hb) fun h => absurd rfl h
      rcases V'.vw with ⟨rfl, rfl⟩ | ⟨b, ws, e1, h1, h2⟩
      · exact .inl ⟨rfl, rfl, _, _, rfl, hJ⟩
      · subst e1
        refine .inr ⟨b, 0, rfl, ?_⟩
        unfold plainW storeH rowC
        refine ⟨h1.store (by rw [Nat.zero_add]; exact h2), ?_⟩
        rw [List.flatMap_nil, put_nil]
        exact ⟨_, _, rfl, hJ⟩
    · exact .inl ⟨rfl, rfl, _, _, rfl, hJ none 0 h (Sub.refl h) ⟨RowAt.nil h none, Nat.le_refl _, .inl ⟨rfl, rfl⟩⟩ (fun b ⟨o, s, e⟩ => by cases e) fun h => absurd rfl h⟩
  · have := V.row.part hf (i := 0) (n := i) V.le (by omega)
    rw [slA_zero, List.drop_zero] at this
    unfold RowAt at this
    rw [tl] at this
    exact this
  · unfold zeroCs
    obtain ⟨z, hz, hzl⟩ := T.zero
    rw [hz]
    simp only []
    have : Nat.beq (cellsOfV z).length (szT P e) = true := by rw [hzl, T.sz]; exact Nat.beq_refl _
    rw [this]
    simp only [cond_true]
    intro k hk
    refine ⟨_, _, rfl, ?_⟩
    have hblk := Blk.new h k e (rowC f (L.take i) ++ rowC f M ++ (List.replicate (nc - (i + M.length)) (cellsOfV z)).flatten)
    have own : OwnR f sz (h.upd k (.cells (rowC f (L.take i) ++ rowC f M ++ (List.replicate (nc - (i + M.length)) (cellsOfV z)).flatten).toArray e (0, 0))) e (some ⟨k, 0, none⟩) nc (L.take i ++ M) := by
      unfold OwnR
      rw [List.length_append, tl, rowC_append]
      refine ⟨?_, hnc, .inr ⟨k, _, rfl, hblk, by simp [hzl]⟩⟩
      rw [List.length_append, rowC_length hf, rowC_length hf, tl, Nat.add_mul]
    have s := Sub.upd hk (.cells (rowC f (L.take i) ++ rowC f M ++ (List.replicate (nc - (i + M.length)) (cellsOfV z)).flatten).toArray e (0, 0))
    exact hJ _ _ _ s (own_vw own) (fun b ⟨o, s, e2⟩ => by cases e2; exact .inr hk) fun _ => ⟨s, fun b ⟨o, s, e2⟩ => by cases e2; exact hk, own⟩
end
structure NdVw (h : Hp) (k : Nat) (a : Option Addr) (c : Nat) (nd : Nd) : Prop where
  blk : Blk h k 69 (ndC nd a c)
  vw : VwR enC 3 h 77 a c nd.l
  ne : ∀ b, blkOf a b → b ≠ k
theorem NdVw.ex {h : Hp} {k : Nat} {a : Option Addr} {c : Nat} {nd : Nd} (N : NdVw h k a c nd) : NdEx h k a c nd := ⟨N.blk, N.vw.row, N.vw.le, N.ne⟩
theorem NdOw.vw {h : Hp} {k : Nat} {a : Option Addr} {c : Nat} {nd : Nd} (N : NdOw h k a c nd) : NdVw h k a c nd := ⟨N.ex.blk, own_vw N.own, N.ex.ne⟩
theorem NdVw.keep {S : Nat → Prop} {h h' : Hp} {k : Nat} {a : Option Addr} {c : Nat} {nd : Nd} (N : NdVw h k a c nd) (s : Keep S h h') (h1 : ¬ S k) (h2 : ∀ b, blkOf a b → ¬ S b) : NdVw h' k a c nd := ⟨N.blk.keep s h1, N.vw.keep s h2, N.ne⟩
theorem NdVw.sub {h h' : Hp} {k : Nat} {a : Option Addr} {c : Nat} {nd : Nd} (N : NdVw h k a c nd) (s : Sub h h') : NdVw h' k a c nd := N.keep (S := fun _ => False) (s.keep _) (fun h => h) fun _ _ h => h
theorem NdVw.set {h h' : Hp} {k : Nat} {a a' : Option Addr} {c c' n : Nat} {nd : Nd} {L : List En} (N : NdVw h k a c nd) (s : Sub h h') (V : VwR enC 3 h' 77 a' c' L) (hn : n = L.length) (nb : ∀ b, blkOf a' b → blkOf a b ∨ h b = none) :
    StoreOk h' k 2 1 ∧ NdVw (h'.put k 2 [.slice a' n c']) k a' c' ⟨nd.leaf, nd.first, L⟩ ∧ Keep (fun c => c = k) h (h'.put k 2 [.slice a' n c']) := by
  subst hn
  have B := N.blk.sub s
  have ne' : ∀ b, blkOf a' b → b ≠ k := fun b hb e => by
    subst e
    rcases nb b hb with h1 | h1
    · exact N.ne b h1 rfl
    · have := N.blk; unfold Blk at this; rw [this] at h1; cases h1
  have kp : Keep (fun c => c = k) h' (h'.put k 2 [.slice a' L.length c']) := Keep.put _ _ _ _ rfl
  exact ⟨B.store (by show 2 + 1 ≤ 3; decide), ⟨B.put 2 [.slice a' L.length c'], V.keep kp ne', ne'⟩, (s.keep _).trans kp⟩
end Go.Proofs.YthbogjbcecmopaaDoor
namespace Go.Proofs.YthbogjbcecmopaaDoor
open Go.Gx
set_option maxRecDepth 100000
set_option linter.unusedVariables false
variable {n : Nat} {D : Dk} {P P' : Pg} {h : Hp} {K : Value → Hp → Prop} {pb jb db : Nat} {S : Nat → Prop} {tb k : Nat}
theorem idsK_one (pg : Nat → Option Nd) (m : Nat) (c : Cl) : idsK pg m [c] = ids pg m c.2 := by unfold idsK; simp
theorem nodup3 {A B C : List Nat} : (A ++ B ++ C).Nodup ↔ B.Nodup ∧ (A ++ C).Nodup ∧ ∀ i ∈ A ++ C, i ∉ B := by
  have : (A ++ B ++ C).Perm (B ++ (A ++ C)) := by
    rw [List.append_assoc]
    exact (List.perm_append_comm_assoc A B C)
  rw [this.nodup_iff, List.nodup_append]
  constructor
  · rintro ⟨h1, h2, h3⟩
    exact ⟨h1, h2, fun i hi hb => h3 i hb i hi rfl⟩
  · rintro ⟨h1, h2, h3⟩
    exact ⟨h1, h2, fun i hi j hj e => h3 j hj (e ▸ hi)⟩
theorem ChS.repl {m : Nat} {t : ByteArray} {K1 X X' K2 : List Cl} (h : ChP (TrS (P.pgs D n) m) t (K1 ++ X ++ K2)) (nd : (idsK (P.pgs D n) m (K1 ++ X ++ K2)).Nodup) (M : Mv n D P P' (idsK (P.pgs D n) m X) (idsK (P'.pgs D n) m X')) (hX : ChP (TrS (P'.pgs D n) m) (hdK t K2) X') (hh : hdK (hdK t K2) X' = hdK (hdK t K2) X) (nX : (idsK (P'.pgs D n) m X').Nodup) :
    ChP (TrS (P'.pgs D n) m) t (K1 ++ X' ++ K2) ∧ entsK (P'.pgs D n) m (K1 ++ X' ++ K2) = entsK (P.pgs D n) m K1 ++ entsK (P'.pgs D n) m X' ++ entsK (P.pgs D n) m K2 ∧ (idsK (P'.pgs D n) m (K1 ++ X' ++ K2)).Nodup ∧
      Mv n D P P' (idsK (P.pgs D n) m (K1 ++ X ++ K2)) (idsK (P'.pgs D n) m (K1 ++ X' ++ K2)) ∧ ((idsK (P'.pgs D n) m (K1 ++ X' ++ K2)).length + (idsK (P.pgs D n) m X).length = (idsK (P.pgs D n) m (K1 ++ X ++ K2)).length + (idsK (P'.pgs D n) m X').length) := by
  obtain ⟨h12, h3⟩ := ChP_append.1 h
  obtain ⟨h1, h2⟩ := ChP_append.1 h12
  have eI : idsK (P.pgs D n) m (K1 ++ X ++ K2) = idsK (P.pgs D n) m K1 ++ idsK (P.pgs D n) m X ++ idsK (P.pgs D n) m K2 := by rw [idsK_append, idsK_append]
  rw [eI] at nd ⊢
  obtain ⟨n1, n2, n3⟩ := nodup3.1 nd
  have ap := M.apart (R := idsK (P.pgs D n) m K1 ++ idsK (P.pgs D n) m K2) fun i hi => ⟨(List.mem_append.1 hi).elim (fun h => ChS.in_pg h1 h) (fun h => ChS.in_pg h3 h), n3 i hi⟩
  obtain ⟨a1, a2, a3⟩ := ChS.frame h1 fun i hi => ap.1 i (List.mem_append_left _ hi)
  obtain ⟨b1, b2, b3⟩ := ChS.frame h3 fun i hi => ap.1 i (List.mem_append_right _ hi)
  have ei : idsK (P'.pgs D n) m (K1 ++ X' ++ K2) = idsK (P.pgs D n) m K1 ++ idsK (P'.pgs D n) m X' ++ idsK (P.pgs D n) m K2 := by rw [idsK_append, idsK_append, a3, b3]
  have hl : (idsK (P.pgs D n) m K1 ++ idsK (P'.pgs D n) m X' ++ idsK (P.pgs D n) m K2).length + (idsK (P.pgs D n) m X).length = (idsK (P.pgs D n) m K1 ++ idsK (P.pgs D n) m X ++ idsK (P.pgs D n) m K2).length + (idsK (P'.pgs D n) m X').length := by
    simp only [List.length_append]; omega
  rw [ei]
  refine ⟨ChP_append.2 ⟨ChP_append.2 ⟨?_, hX⟩, b1⟩, by rw [entsK_append, entsK_append, a2, b2], nodup3.2 ⟨nX, n2, ap.2⟩, M.lift (fun i hi => List.mem_append_left _ (List.mem_append_right _ hi)) (fun i hi => ?_) hl, hl⟩
  · rw [hh]; exact a1
  · rcases List.mem_append.1 hi with hi | hi
    · rcases List.mem_append.1 hi with hi | hi
      · exact .inr (List.mem_append_left _ (List.mem_append_left _ hi))
      · exact .inl hi
    · exact .inr (List.mem_append_right _ hi)
theorem Mv.nonroot (E : POk n P) {I I' : List Nat} (M : Mv n D P P' I I') (hr : ∀ t, t < 4 → P.now.r t ∉ I) : ∀ t, t < 4 → P'.now.r t ∉ I' := fun t ht hi => by
  rw [M.roots] at hi
  rcases M.new _ hi with h | h
  · exact hr t ht h
  · by_cases e : P.now.r t = 0
    · rw [e, E.now.zero] at h; cases h
    · rw [(E.now.roots t ht).2 e] at h; cases h
structure EnsOk (nd : Nd) : Prop where
  en : ∀ e ∈ nd.l, EnOk nd.leaf e
  first : nd.first < 65536
  z : nd.leaf = true → nd.first = 0
theorem NdOk.ens {nd : Nd} (o : NdOk nd) : EnsOk nd := ⟨o.en, o.first, o.z⟩
theorem EnsOk.ok {nd : Nd} (o : EnsOk nd) (h : nd.size ≤ 1024) : NdOk nd := ⟨o.en, o.first, h, o.z⟩
theorem esz_le {lf : Bool} {e : En} (h : EnOk lf e) : 4 ≤ Nd.esz lf e ∧ Nd.esz lf e ≤ if lf then 467 else 67 := by
  have h2 := h.1
  unfold may at h2
  have h2 := of_decide_eq_true h2
  unfold Nd.esz
  cases lf with
  | true => rw [if_pos rfl, if_pos rfl]; omega
  | false => rw [if_neg (by decide), if_neg (by decide)]; omega
theorem eszs_len {lf : Bool} : ∀ {l : List En}, (∀ e ∈ l, EnOk lf e) → 4 * l.length ≤ eszs lf l
  | [], _ => Nat.zero_le _
  | e :: l, h => by
    have := eszs_len fun e' he => h e' (List.mem_cons_of_mem _ he)
    have := (esz_le (h e List.mem_cons_self)).1
    rw [eszs_cons, List.length_cons]; omega
def putL (x : En) (l : List En) : List En := l.take (kvAt x.key (l.map En.kv)) ++ x :: l.drop (if kvIs x.key (l.map En.kv) then kvAt x.key (l.map En.kv) + 1 else kvAt x.key (l.map En.kv))
theorem putL_kv (x : En) (l : List En) : (putL x l).map En.kv = kvPut x.key x.val (l.map En.kv) := by
  unfold putL kvPut
  rw [List.map_append, List.map_cons, List.map_take, List.map_drop]; rfl
theorem putL_mem {x e : En} {l : List En} (h : e ∈ putL x l) : e = x ∨ e ∈ l := by
  unfold putL at h
  rcases List.mem_append.1 h with h | h
  · exact .inr (List.mem_of_mem_take h)
  · rcases List.mem_cons.1 h with h | h
    · exact .inl h
    · exact .inr (List.mem_of_mem_drop h)
theorem eszs_drop_le (lf : Bool) (l : List En) (i : Nat) : eszs lf (l.drop i) ≤ eszs lf l := by
  conv => rhs; rw [← List.take_append_drop i l, eszs_append]
  omega
theorem putL_size (lf : Bool) (x : En) (l : List En) : eszs lf (putL x l) ≤ eszs lf l + Nd.esz lf x := by
  unfold putL
  have h : eszs lf l = eszs lf (l.take (kvAt x.key (l.map En.kv))) + eszs lf (l.drop (kvAt x.key (l.map En.kv))) := by rw [← eszs_append, List.take_append_drop]
  rw [eszs_append, eszs_cons, h]
  split
  · have := eszs_drop_le lf (l.drop (kvAt x.key (l.map En.kv))) 1
    rw [List.drop_drop] at this
    omega
  · omega
theorem putL_ok {f t : ByteArray} {x : En} {l : List En} (h : keysOk f t l) (hf : blt x.key f = false) (ht : below t x.key) : keysOk f t (putL x l) := by
  obtain ⟨h1, h2⟩ := keysOk_iff.1 h
  refine keysOk_iff.2 ⟨fun e he => ?_, ?_⟩
  · rcases putL_mem he with rfl | he
    · exact ⟨hf, ht⟩
    · exact h1 e he
  · rw [putL_kv]
    exact kvPut_sorted h2 _ _
def dropL (k : ByteArray) (l : List En) : List En := l.take (kvAt k (l.map En.kv)) ++ l.drop (kvAt k (l.map En.kv) + 1)
theorem dropL_kv {k : ByteArray} {l : List En} (h : kvIs k (l.map En.kv) = true) : (dropL k l).map En.kv = kvDrop k (l.map En.kv) := by
  unfold dropL kvDrop
  rw [if_pos h, List.map_append, List.map_take, List.map_drop]
theorem dropL_mem {k : ByteArray} {e : En} {l : List En} (h : e ∈ dropL k l) : e ∈ l := by
  unfold dropL at h
  rcases List.mem_append.1 h with h | h
  · exact List.mem_of_mem_take h
  · exact List.mem_of_mem_drop h
theorem dropL_size (lf : Bool) (k : ByteArray) (l : List En) : eszs lf (dropL k l) ≤ eszs lf l := by
  unfold dropL
  have h : eszs lf l = eszs lf (l.take (kvAt k (l.map En.kv))) + eszs lf (l.drop (kvAt k (l.map En.kv))) := by rw [← eszs_append, List.take_append_drop]
  have := eszs_drop_le lf (l.drop (kvAt k (l.map En.kv))) 1
  rw [List.drop_drop] at this
  rw [eszs_append, h]
  omega
theorem dropL_ok {f t k : ByteArray} {l : List En} (h : keysOk f t l) (hi : kvIs k (l.map En.kv) = true) : keysOk f t (dropL k l) := by
  obtain ⟨h1, h2⟩ := keysOk_iff.1 h
  refine keysOk_iff.2 ⟨fun e he => h1 e (dropL_mem he), ?_⟩
  rw [dropL_kv hi]
  exact kvDrop_sorted h2 _
theorem cut_at (lf : Bool) (l : List En) (half : Nat) (h : half ≤ Nd.base lf + eszs lf l) : ∃ q, q ≤ l.length ∧ half ≤ Nd.base lf + eszs lf (l.take q) ∧ ∀ j, j < q → Nd.base lf + eszs lf (l.take j) < half := by
  have : ∀ d, d ≤ l.length → (∀ j, j < l.length - d → Nd.base lf + eszs lf (l.take j) < half) → ∃ q, q ≤ l.length ∧ half ≤ Nd.base lf + eszs lf (l.take q) ∧ ∀ j, j < q → Nd.base lf + eszs lf (l.take j) < half := by
    intro d
    induction d with
    | zero => exact fun _ hj => ⟨l.length, Nat.le_refl _, by rw [List.take_length]; exact h, hj⟩
    | succ d ih =>
      intro hd hj
      by_cases e : Nd.base lf + eszs lf (l.take (l.length - (d + 1))) < half
      · refine ih (by omega) fun j hj2 => ?_
        by_cases e2 : j = l.length - (d + 1)
        · rw [e2]; exact e
        · exact hj j (by omega)
      · exact ⟨l.length - (d + 1), by omega, by omega, hj⟩
  exact this l.length (Nat.le_refl _) fun j hj => by omega
theorem eszs_take_succ {lf : Bool} {l : List En} {j : Nat} {e : En} (he : l[j]? = some e) : eszs lf (l.take (j + 1)) = eszs lf (l.take j) + Nd.esz lf e := by
  rw [List.take_add_one, he, eszs_append]; unfold eszs; simp
theorem eszs_split (lf : Bool) (l : List En) (j : Nat) : eszs lf l = eszs lf (l.take j) + eszs lf (l.drop j) := by rw [← eszs_append, List.take_append_drop]
theorem cut_parts {l : List En} {c : Nat} (h : c < l.length) : ∃ e l2, l = l.take c ++ e :: l2 ∧ l[c]? = some e ∧ l.drop c = e :: l2 ∧ (l.take c).length = c := by
  refine ⟨l[c], l.drop (c + 1), ?_, List.getElem?_eq_getElem h, List.drop_eq_getElem_cons h, by rw [List.length_take]; omega⟩
  rw [← List.drop_eq_getElem_cons h, List.take_append_drop]
theorem cut_leaf {l : List En} {q : Nat} (ok : ∀ e ∈ l, EnOk true e) (h1 : 1024 < 3 + eszs true l) (h2 : 3 + eszs true l ≤ 1491) (hq : q ≤ l.length) (g1 : (3 + eszs true l) / 2 ≤ 3 + eszs true (l.take q)) (g2 : ∀ j, j < q → 3 + eszs true (l.take j) < (3 + eszs true l) / 2)
    {c : Nat} (hc : c = if 1024 < 3 + eszs true (l.take q) then q - 1 else q) : 1 ≤ q ∧ 1 ≤ c ∧ c < l.length ∧ 3 + eszs true (l.take c) ≤ 1024 ∧ 3 + eszs true (l.drop c) ≤ 1024 := by
  have q1 : 1 ≤ q := by
    rcases Nat.eq_zero_or_pos q with e | e
    · subst e
      rw [List.take_zero] at g1
      have : eszs true [] = 0 := rfl
      omega
    · exact e
  have hlt : q - 1 < l.length := by omega
  have he : l[q - 1]? = some l[q - 1] := List.getElem?_eq_getElem hlt
  have e1 := eszs_take_succ (lf := true) he
  rw [show q - 1 + 1 = q by omega] at e1
  have e2 := (esz_le (ok _ (List.mem_of_getElem? he))).2
  rw [if_pos rfl] at e2
  have e3 := g2 (q - 1) (by omega)
  have sp := eszs_split true l c
  by_cases g : 1024 < 3 + eszs true (l.take q)
  · rw [if_pos g] at hc
    subst hc
    refine ⟨q1, ?_, by omega, by omega, by omega⟩
    rcases Nat.eq_zero_or_pos (q - 1) with e | e
    · have : eszs true (l.take (q - 1)) = 0 := by rw [e, List.take_zero]; rfl
      omega
    · exact e
  · rw [if_neg g] at hc
    subst hc
    refine ⟨q1, q1, ?_, by omega, by omega⟩
    rcases Nat.lt_or_ge c l.length with e | e
    · exact e
    · rw [List.take_of_length_le e] at g
      omega
theorem cut_inner {l : List En} {q : Nat} (ok : ∀ e ∈ l, EnOk false e) (h1 : 1024 < 5 + eszs false l) (h2 : 5 + eszs false l ≤ 1091) (hq : q ≤ l.length) (g1 : (5 + eszs false l) / 2 ≤ 5 + eszs false (l.take q)) (g2 : ∀ j, j < q → 5 + eszs false (l.take j) < (5 + eszs false l) / 2) :
    1 ≤ q ∧ q + 1 < l.length ∧ 5 + eszs false (l.take q) ≤ 1024 ∧ 5 + eszs false (l.drop (q + 1)) ≤ 1024 := by
  have q1 : 1 ≤ q := by
    rcases Nat.eq_zero_or_pos q with e | e
    · subst e
      rw [List.take_zero] at g1
      have : eszs false [] = 0 := rfl
      omega
    · exact e
  have hlt : q - 1 < l.length := by omega
  have he : l[q - 1]? = some l[q - 1] := List.getElem?_eq_getElem hlt
  have e1 := eszs_take_succ (lf := false) he
  rw [show q - 1 + 1 = q by omega] at e1
  have e2 := (esz_le (ok _ (List.mem_of_getElem? he))).2
  rw [if_neg (by decide)] at e2
  have e3 := g2 (q - 1) (by omega)
  have sp := eszs_split false l q
  have sp1 := eszs_split false l (q + 1)
  have lt : q < l.length := by
    rcases Nat.lt_or_ge q l.length with e | e
    · exact e
    · rw [List.take_of_length_le e] at e1
      omega
  have e4 := eszs_take_succ (lf := false) (List.getElem?_eq_getElem lt)
  have e5 := (esz_le (ok _ (List.getElem_mem lt))).2
  rw [if_neg (by decide)] at e5
  refine ⟨q1, ?_, by omega, by omega⟩
  rcases Nat.lt_or_ge (q + 1) l.length with e | e
  · exact e
  · rw [List.take_of_length_le e] at e4
    omega
end Go.Proofs.YthbogjbcecmopaaDoor
namespace Go.Proofs.YthbogjbcecmopaaDoor
open Go.Gx
set_option maxRecDepth 100000
set_option linter.unusedVariables false
variable {n : Nat} {D : Dk} {P P' : Pg}
theorem Fw.in_pg {m : Nat} {nd : Nd} {f t : ByteArray} (h : Fw (P.pgs D n) m nd f t) {i : Nat} (hi : i ∈ idsN (P.pgs D n) m nd) : (P.pgs D n i).isSome = true := by
  cases m with
  | zero => cases hi
  | succ m => exact ChS.in_pg h.2.2 hi
theorem store_law {m id : Nat} {nd : Nd} {f t : ByteArray} (h : Fw (P.pgs D n) m nd f t) (hn : Fn (P.pgs D n) m nd) (o : NdOk nd) (hw : P.why n (id : Nat) = 0) (hid : id ∉ idsN (P.pgs D n) m nd) (nN : (idsN (P.pgs D n) m nd).Nodup) :
    TrS ((P.write id (pageB nd)).pgs D n) m id f t ∧ ents ((P.write id (pageB nd)).pgs D n) m id = entsN (P.pgs D n) m nd ∧ ids ((P.write id (pageB nd)).pgs D n) m id = id :: idsN (P.pgs D n) m nd ∧
      (id :: idsN (P.pgs D n) m nd).Nodup ∧ Mv n D P (P.write id (pageB nd)) (id :: idsN (P.pgs D n) m nd) (id :: idsN (P.pgs D n) m nd) := by
  obtain ⟨g1, g2, g3⟩ := TrS.put (pg' := (P.write id (pageB nd)).pgs D n) (id := id) h hn (pgs_write_same hw o) fun i hi => pgs_write_ne fun e => hid (e ▸ hi)
  exact ⟨g1, g2, g3, List.nodup_cons.2 ⟨hid, nN⟩, Mv.write List.mem_cons_self _⟩
theorem why_alloc {i id : Nat} (hw : P.why n (id : Nat) = 0) : (P.alloc i).why n (id : Nat) = 0 := by
  obtain ⟨j, e, h1, h2, h3⟩ := why_ok hw
  refine why_i (by omega) (by omega) ?_
  show upU P.now.u i true id = true
  by_cases e2 : id = i
  · rw [e2, upU_same]
  · rw [upU_ne _ _ e2, show id = j by omega]; exact h3
theorem why_used {id : Nat} (hw : P.why n (id : Nat) = 0) : P.now.u id = true ∧ 1 ≤ id ∧ id < n := by
  obtain ⟨j, e, h1, h2, h3⟩ := why_ok hw
  rw [show id = j by omega]; exact ⟨h3, h1, h2⟩
theorem part_law {m id i : Nat} {lf : Bool} {fi : Nat} {l1 l2 : List En} {e : En} {f t : ByteArray} (h : Fw (P.pgs D n) m ⟨lf, fi, l1 ++ e :: l2⟩ f t) (hn : Fn (P.pgs D n) m ⟨lf, fi, l1 ++ e :: l2⟩) (o1 : NdOk ⟨lf, fi, l1⟩) (o2 : NdOk (rightN lf e l2)) (hw : P.why n (id : Nat) = 0)
    (hid : id ∉ idsN (P.pgs D n) m ⟨lf, fi, l1 ++ e :: l2⟩) (nN : (idsN (P.pgs D n) m ⟨lf, fi, l1 ++ e :: l2⟩).Nodup) (i1 : 1 ≤ i) (hi : i < n) (hu : P.now.u i = false) {P4 : Pg} (hP : P4 = ((P.alloc i).write id (pageB ⟨lf, fi, l1⟩)).write i (pageB (rightN lf e l2))) :
    TrS (P4.pgs D n) m id f e.key ∧ TrS (P4.pgs D n) m i e.key t ∧ ents (P4.pgs D n) m id = entsN (P.pgs D n) m ⟨lf, fi, l1⟩ ∧ ents (P4.pgs D n) m i = entsN (P.pgs D n) m (rightN lf e l2) ∧
      (ids (P4.pgs D n) m id ++ ids (P4.pgs D n) m i).Nodup ∧ Mv n D P P4 (id :: idsN (P.pgs D n) m ⟨lf, fi, l1 ++ e :: l2⟩) (ids (P4.pgs D n) m id ++ ids (P4.pgs D n) m i) ∧
      (ids (P4.pgs D n) m id ++ ids (P4.pgs D n) m i).length = (idsN (P.pgs D n) m ⟨lf, fi, l1 ++ e :: l2⟩).length + 2 := by
  have ins : ∀ j ∈ idsN (P.pgs D n) m ⟨lf, fi, l1 ++ e :: l2⟩, P.now.u j = true := fun j hj => pgs_used (h.in_pg hj)
  obtain ⟨g1, g2, g3, g4, g5⟩ := h.part
  obtain ⟨n1, n2⟩ := g5 hn
  obtain ⟨u1, u2, u3⟩ := why_used hw
  have ne : id ≠ i := fun e => by rw [e, hu] at u1; cases u1
  have inN : i ∉ idsN (P.pgs D n) m ⟨lf, fi, l1 ++ e :: l2⟩ := fun hj => by have := ins i hj; rw [hu] at this; cases this
  have pgj : ∀ j, j ≠ id → j ≠ i → P4.pgs D n j = P.pgs D n j := fun j h1 h2 => by rw [hP]; exact (pgs_write_ne h2).trans ((pgs_write_ne h1).trans (pgs_alloc_ne h2))
  have hw2 : ((P.alloc i).write id (pageB ⟨lf, fi, l1⟩)).why n (i : Nat) = 0 := why_i i1 hi (upU_same _ _ _)
  have pid : P4.pgs D n id = some ⟨lf, fi, l1⟩ := by rw [hP]; exact (pgs_write_ne ne).trans (pgs_write_same (why_alloc hw) o1)
  have pi : P4.pgs D n i = some (rightN lf e l2) := by rw [hP]; exact pgs_write_same hw2 o2
  rw [g4] at hid nN inN ins
  obtain ⟨a1, a2, a3⟩ := TrS.put (pg' := P4.pgs D n) g1 n1 pid fun j hj => pgj j (fun e => hid (e ▸ List.mem_append_left _ hj)) fun e => inN (e ▸ List.mem_append_left _ hj)
  obtain ⟨b1, b2, b3⟩ := TrS.put (pg' := P4.pgs D n) g2 n2 pi fun j hj => pgj j (fun e => hid (e ▸ List.mem_append_right _ hj)) fun e => inN (e ▸ List.mem_append_right _ hj)
  rw [a3, b3, g4]
  have hl : ∀ j, j ∈ (id :: idsN (P.pgs D n) m ⟨lf, fi, l1⟩) ++ i :: idsN (P.pgs D n) m (rightN lf e l2) ↔ j = i ∨ j = id ∨ j ∈ idsN (P.pgs D n) m ⟨lf, fi, l1⟩ ++ idsN (P.pgs D n) m (rightN lf e l2) := fun j => by
    simp only [List.mem_append, List.mem_cons]
    constructor
    · rintro ((h | h) | (h | h))
      · exact .inr (.inl h)
      · exact .inr (.inr (.inl h))
      · exact .inl h
      · exact .inr (.inr (.inr h))
    · rintro (h | h | h | h)
      · exact .inr (.inl h)
      · exact .inl (.inl h)
      · exact .inl (.inr h)
      · exact .inr (.inr h)
  have pm : ((id :: idsN (P.pgs D n) m ⟨lf, fi, l1⟩) ++ i :: idsN (P.pgs D n) m (rightN lf e l2)).Perm (i :: id :: (idsN (P.pgs D n) m ⟨lf, fi, l1⟩ ++ idsN (P.pgs D n) m (rightN lf e l2))) := List.perm_middle
  refine ⟨a1, b1, a2, b2, pm.nodup_iff.2 (List.nodup_cons.2 ⟨fun h => (List.mem_cons.1 h).elim (fun e => ne e.symm) inN, List.nodup_cons.2 ⟨hid, nN⟩⟩), ?_, ?_⟩
  · have M1 := Mv.alloc (D := D) hi hu (id :: (idsN (P.pgs D n) m ⟨lf, fi, l1⟩ ++ idsN (P.pgs D n) m (rightN lf e l2)))
    have M2 := Mv.write (n := n) (D := D) (P := P.alloc i) (I := i :: id :: (idsN (P.pgs D n) m ⟨lf, fi, l1⟩ ++ idsN (P.pgs D n) m (rightN lf e l2))) (i := id) (List.mem_cons_of_mem _ List.mem_cons_self) (pageB ⟨lf, fi, l1⟩)
    have M3 := Mv.write (n := n) (D := D) (P := (P.alloc i).write id (pageB ⟨lf, fi, l1⟩)) (I := i :: id :: (idsN (P.pgs D n) m ⟨lf, fi, l1⟩ ++ idsN (P.pgs D n) m (rightN lf e l2))) (i := i) List.mem_cons_self (pageB (rightN lf e l2))
    rw [← hP] at M3
    have M := (M1.trans M2).trans M3
    refine ⟨M.good, M.pts, M.ser, M.roots, M.out, fun j hj => M.new j (pm.mem_iff.1 hj), ?_⟩
    have := M.free
    rw [pm.length_eq]; exact this
  · rw [pm.length_eq]; simp
structure InsN (n : Nat) (D : Dk) (P P' : Pg) (m id : Nat) (f t : ByteArray) (L : List KV) (I : List Nat) (room : Nat) : Prop where
  tr : TrS (P'.pgs D n) m id f t
  es : ents (P'.pgs D n) m id = L
  nd : (ids (P'.pgs D n) m id).Nodup
  mv : Mv n D P P' I (ids (P'.pgs D n) m id)
  len : (ids (P'.pgs D n) m id).length ≤ I.length + room
structure InsS (n : Nat) (D : Dk) (P P' : Pg) (m id : Nat) (f t : ByteArray) (L : List KV) (I : List Nat) (room : Nat) (e : En) : Prop where
  tr : TrS (P'.pgs D n) m id f e.key
  tr2 : TrS (P'.pgs D n) m e.kid e.key t
  es : ents (P'.pgs D n) m id ++ ents (P'.pgs D n) m e.kid = L
  ne : ents (P'.pgs D n) m id ≠ []
  ne2 : ents (P'.pgs D n) m e.kid ≠ []
  nd : (ids (P'.pgs D n) m id ++ ids (P'.pgs D n) m e.kid).Nodup
  mv : Mv n D P P' I (ids (P'.pgs D n) m id ++ ids (P'.pgs D n) m e.kid)
  len : (ids (P'.pgs D n) m id ++ ids (P'.pgs D n) m e.kid).length ≤ I.length + room
  lo : blt f e.key = true
  hi : below t e.key
  ok : EnOk false e
end Go.Proofs.YthbogjbcecmopaaDoor
namespace Go.Proofs.YthbogjbcecmopaaDoor
open Go.Gx
set_option maxRecDepth 100000
set_option linter.unusedVariables false
variable {n : Nat} {D : Dk} {P P1 P' : Pg}
theorem Fw_empty {pg : Nat → Option Nd} {m : Nat} {nd : Nd} {f t : ByteArray} (h : Fw pg m nd f t) (hn : Fn pg m nd) (e : entsN pg m nd = []) : nd.l = [] := by
  cases m with
  | zero => exact List.map_eq_nil_iff.1 e
  | succ m =>
    have e : (entsK pg m (nd.cl eB)).flatten = [] := e
    cases hl : nd.l with
    | nil => rfl
    | cons x l =>
      refine absurd e (NA_ne hn ?_)
      unfold entsK Nd.cl
      rw [hl]; simp
theorem mergeN_size {a b : Nd} {s : ByteArray} (hl : a.leaf = b.leaf) : (mergeN a s b).size = (if a.leaf then 0 else 3 + s.size) + a.size + eszs a.leaf b.l := by
  unfold mergeN Nd.size
  cases e : a.leaf with
  | true =>
    show Nd.base true + eszs true (a.l ++ b.l) = 0 + (Nd.base true + eszs true a.l) + eszs true b.l
    rw [eszs_append]; omega
  | false =>
    show Nd.base false + eszs false (a.l ++ ⟨s, eB, b.first⟩ :: b.l) = (3 + s.size) + (Nd.base false + eszs false a.l) + eszs false b.l
    rw [eszs_append, eszs_cons]
    have : Nd.esz false ⟨s, eB, b.first⟩ = 3 + s.size := rfl
    rw [this]; omega
theorem mergeN_ens {a b : Nd} {s : ByteArray} (oa : EnsOk a) (ob : EnsOk b) (hl : a.leaf = b.leaf) (hs : may s eB = true) : EnsOk (mergeN a s b) := by
  refine ⟨fun e he => ?_, oa.first, oa.z⟩
  show EnOk a.leaf e
  have he : e ∈ if a.leaf then a.l ++ b.l else a.l ++ ⟨s, eB, b.first⟩ :: b.l := he
  have hb := ob.en
  rw [← hl] at hb
  cases e1 : a.leaf with
  | true =>
    rw [e1, if_pos rfl] at he
    rw [← e1]
    exact (List.mem_append.1 he).elim (oa.en e) (hb e)
  | false =>
    rw [e1, if_neg (by decide)] at he
    rw [← e1]
    rcases List.mem_append.1 he with he | he
    · exact oa.en e he
    · rcases List.mem_cons.1 he with rfl | he
      · rw [e1]; exact ⟨hs, ob.first, rfl⟩
      · exact hb e he
theorem may_key64 {k v : ByteArray} (h : may k v = true) : k.size ≤ 64 ∧ 1 ≤ k.size := by
  unfold may at h
  have := of_decide_eq_true h
  omega
theorem merge_fits {pg : Nat → Option Nd} {m : Nat} {a b : Nd} {f s t : ByteArray} (ha : Fw pg m a f s) (na : Fn pg m a) (hb : Fw pg m b s t) (nb : Fn pg m b) (hl : a.leaf = b.leaf) (hs : s.size ≤ 64) (e1 : entsN pg m a = []) (e2 : entsN pg m b = []) : (mergeN a s b).size ≤ 1024 := by
  rw [mergeN_size hl]
  unfold Nd.size
  rw [Fw_empty ha na e1, Fw_empty hb nb e2]
  have : eszs a.leaf [] = 0 := rfl
  rw [this]
  unfold Nd.base
  cases a.leaf with
  | true => rw [if_pos rfl, if_pos rfl]; omega
  | false => rw [if_neg (by decide), if_neg (by decide)]; omega
theorem join_law {m cid eid : Nat} {a b nd1 : Nd} {f s t : ByteArray} (pa : P.pgs D n cid = some a) (pb : P.pgs D n eid = some b) (nI : (ids (P.pgs D n) m cid ++ ids (P.pgs D n) m eid).Nodup)
    (wa : Fw (P.pgs D n) m a f s) (wb : Fw (P.pgs D n) m b s t) (h : Fw (P1.pgs D n) m nd1 f t) (hn : Fn (P1.pgs D n) m nd1) (o : NdOk nd1) (he : entsN (P1.pgs D n) m nd1 = entsN (P.pgs D n) m a ++ entsN (P.pgs D n) m b)
    (M : Mv n D P P1 (idsN (P.pgs D n) m a ++ idsN (P.pgs D n) m b) (idsN (P1.pgs D n) m nd1)) (nN : (idsN (P1.pgs D n) m nd1).Nodup) (fr : P.freeN n ≤ P1.freeN n) {P3 : Pg} (hP : P3 = (P1.write cid (pageB nd1)).give eid) :
    P1.why n (cid : Nat) = 0 ∧ (P1.write cid (pageB nd1)).why n (eid : Nat) = 0 ∧ TrS (P3.pgs D n) m cid f t ∧ ents (P3.pgs D n) m cid = ents (P.pgs D n) m cid ++ ents (P.pgs D n) m eid ∧ (ids (P3.pgs D n) m cid).Nodup ∧
      Mv n D P P3 (ids (P.pgs D n) m cid ++ ids (P.pgs D n) m eid) (ids (P3.pgs D n) m cid) ∧ P.freeN n ≤ P3.freeN n := by
  rw [ids_N pa, ids_N pb] at nI ⊢
  rw [ents_N pa, ents_N pb]
  have pm : ((cid :: idsN (P.pgs D n) m a) ++ eid :: idsN (P.pgs D n) m b).Perm (eid :: cid :: (idsN (P.pgs D n) m a ++ idsN (P.pgs D n) m b)) := List.perm_middle
  have n1 := List.nodup_cons.1 (pm.nodup_iff.1 nI)
  have n2 := List.nodup_cons.1 n1.2
  have ne : cid ≠ eid := fun e => n1.1 (e ▸ List.mem_cons_self)
  have ap := M.apart (R := [cid, eid]) fun i hi => by
    rcases List.mem_cons.1 hi with rfl | hi
    · exact ⟨by rw [pa]; rfl, n2.1⟩
    · rw [List.mem_singleton.1 hi]
      exact ⟨by rw [pb]; rfl, fun h => n1.1 (List.mem_cons_of_mem _ h)⟩
  have c1 : P1.pgs D n cid = some a := (ap.1 cid List.mem_cons_self).trans pa
  have e1 : P1.pgs D n eid = some b := (ap.1 eid (List.mem_cons_of_mem _ List.mem_cons_self)).trans pb
  have cN := ap.2 cid List.mem_cons_self
  have eN := ap.2 eid (List.mem_cons_of_mem _ List.mem_cons_self)
  have wc : P1.why n (cid : Nat) = 0 := pgs_why (by rw [c1]; rfl)
  have we : (P1.write cid (pageB nd1)).why n (eid : Nat) = 0 := pgs_why (P := P1) (D := D) (by rw [e1]; rfl)
  obtain ⟨u1, u2, u3⟩ := why_used we
  have pj : ∀ j, j ≠ cid → j ≠ eid → P3.pgs D n j = P1.pgs D n j := fun j h1 h2 => by rw [hP]; exact (pgs_give_ne h2).trans (pgs_write_ne h1)
  have pc : P3.pgs D n cid = some nd1 := by rw [hP]; exact (pgs_give_ne ne).trans (pgs_write_same wc o)
  obtain ⟨g1, g2, g3⟩ := TrS.put (pg' := P3.pgs D n) h hn pc fun j hj => pj j (fun e => cN (e ▸ hj)) fun e => eN (e ▸ hj)
  rw [g3]
  have M1 := M.lift (I := (cid :: idsN (P.pgs D n) m a) ++ eid :: idsN (P.pgs D n) m b) (I' := eid :: cid :: idsN (P1.pgs D n) m nd1) (fun i hi => pm.mem_iff.2 (List.mem_cons_of_mem _ (List.mem_cons_of_mem _ hi))) (fun i hi => by
      rcases List.mem_cons.1 hi with rfl | hi
      · exact .inr (pm.mem_iff.2 List.mem_cons_self)
      · rcases List.mem_cons.1 hi with rfl | hi
        · exact .inr (pm.mem_iff.2 (List.mem_cons_of_mem _ List.mem_cons_self))
        · exact .inl hi) (by rw [pm.length_eq]; simp only [List.length_cons]; omega)
  have M2 := Mv.write (n := n) (D := D) (P := P1) (I := eid :: cid :: idsN (P1.pgs D n) m nd1) (i := cid) (List.mem_cons_of_mem _ List.mem_cons_self) (pageB nd1)
  have M3 := Mv.give (D := D) u3 u1 (cid :: idsN (P1.pgs D n) m nd1)
  rw [← hP] at M3
  refine ⟨wc, we, g1, g2.trans he, List.nodup_cons.2 ⟨cN, nN⟩, (M1.trans M2).trans M3, ?_⟩
  have := freeN_give (P := P1.write cid (pageB nd1)) u1 n
  rw [← hP] at this
  have h2 : (P1.write cid (pageB nd1)).freeN n = P1.freeN n := rfl
  omega
end Go.Proofs.YthbogjbcecmopaaDoor
namespace Go.Proofs.YthbogjbcecmopaaDoor
open Go.Gx
set_option maxRecDepth 100000
set_option linter.unusedVariables false
variable {n : Nat} {D : Dk} {P : Pg} {h : Hp} {K : Value → Hp → Prop} {pb jb db : Nat} {S : Nat → Prop} {tb k : Nat}
theorem nput_spec {kk : Nat} {a : Option Addr} {c : Nat} {nd : Nd} (N : NdVw h kk a c nd) (x : En) {i : Nat} (hi : i ≤ nd.l.length) (hl : nd.l.length < 65536)
    (hK : ∀ h' a' c', NdVw h' kk a' c' ⟨nd.leaf, nd.first, nd.l.take i ++ x :: nd.l.drop i⟩ → Keep (fun c => c = kk) h h' → (∀ b, blkOf a' b → h b = none) → K (.tuple #[]) h') :
    CallsH Tryd.prog btree_node_put.id #[.pointer (some ⟨kk, 0, none⟩), .int .i64 (i : Nat), .agg #[.string x.key, .string x.val, .int .i64 (x.kid : Nat)]] h K := by
  have le := N.vw.le
  apply btree_node_put.calls
  unfold btree_node_put.W
  refine ⟨_, _, _, N.ex.c2, by omega, by show (i : Int) ≤ (c : Int); omega, by omega, by show ((i : Nat) : Int) ≤ ((((i : Nat) : Int).toNat : Nat) : Int); omega, _, _, _, N.ex.c2, by omega, by show (i : Int) ≤ (nd.l.length : Int); omega, fun k7 hk7 => ?_⟩
  rw [Int.toNat_natCast, slA_zero]
  have s7 := Sub.upd hk7 (.cells (enC x).toArray 77 (0, 0))
  have B7 := Blk.new h k7 77 (enC x)
  refine ⟨s7, _, B7.slice rfl, fun a' c' h' => NewR enC 3 77 h h' a' c' (nd.l.take i ++ [x]), ?_, append_cap appTEn enC_len enC_plain (N.vw.sub s7) hi (M := [x]) rfl (rowC_one _).symm (by show (2 * (i + 1) + 768) * 40 ≤ _; omega) fun a' c' h' s V nb NR => (NR (by simp)).back s7⟩
  intro a' c' h' R
  have Nh := N.sub R.sub
  have V2 := Nh.vw.row.part enC_len (i := i) (n := nd.l.length - i) Nh.vw.le (by omega)
  have hd : (nd.l.drop i).length = nd.l.length - i := List.length_drop
  rw [List.take_of_length_le (Nat.le_of_eq hd)] at V2
  unfold RowAt at V2
  rw [hd] at V2
  have hln : (nd.l.take i ++ [x]).length = i + 1 := by rw [List.length_append, List.length_take, Nat.min_eq_left hi]; rfl
  refine ⟨R.sub, _, V2, fun a'' c'' h'' => NewR enC 3 77 h h'' a'' c'' (nd.l.take i ++ x :: nd.l.drop i), ?_, append_row appTEn enC_len enC_plain R (M := nd.l.drop i) hln.symm hd.symm rfl (by rw [hln, hd]; omega) fun a'' c'' h'' R2 => by rw [List.append_assoc] at R2; exact R2⟩
  intro a'' c'' h'' R2
  obtain ⟨g1, g2, g3⟩ := N.set (n := i + 1 + (nd.l.length - i)) R2.sub (own_vw R2.own) (by rw [List.length_append, List.length_cons, List.length_take, List.length_drop]; omega) fun b hb => .inr (R2.new b hb)
  exact ⟨g1, hK _ _ _ g2 g3 R2.new⟩
theorem NdVw.view {kk : Nat} {a : Option Addr} {c : Nat} {nd : Nd} (N : NdVw h kk a c nd) {j : Nat} (hj : j ≤ nd.l.length) {x : Hp} {k2 : Nat} (s : Sub h x) (h0 : h k2 = none) (B : Blk x k2 69 (ndC ⟨nd.leaf, nd.first, nd.l.take j⟩ a j)) : NdEx x k2 a j ⟨nd.leaf, nd.first, nd.l.take j⟩ := by
  refine ⟨B, ?_, by show (nd.l.take j).length ≤ j; rw [List.length_take]; omega, fun b hb e => N.vw.in_heap hb (e ▸ h0)⟩
  have := (N.vw.row.sub s).part enC_len (i := 0) (n := j) N.vw.le (by omega)
  rw [slA_zero, List.drop_zero] at this
  exact this
theorem blk_slA {m l s : Nat} {a : Option Addr} {b : Nat} (hb : blkOf (slA m l s a) b) : blkOf a b := by
  unfold slA at hb
  split at hb
  · exact hb
  · obtain ⟨o, s', e⟩ := hb
    cases a with
    | none => cases e
    | some ad =>
      obtain ⟨b', o', sp⟩ := ad
      simp [Addr.add] at e
      split at e <;> (cases e; exact ⟨_, _, rfl⟩)
theorem NdVw.rest {kk : Nat} {a : Option Addr} {c : Nat} {nd : Nd} (N : NdVw h kk a c nd) {q : Nat} (hq : q ≤ nd.l.length) {x : Hp} (s : Sub h x) : RowAt enC 3 x (slA c q 3 a) (nd.l.drop q) := by
  have := (N.vw.row.sub s).part enC_len (i := q) (n := nd.l.length - q) N.vw.le (by omega)
  rw [List.take_of_length_le (by rw [List.length_drop]; exact Nat.le_refl _)] at this
  exact this
theorem free_some (E : PgAt h pb jb db S n D P) (hf : 1 ≤ P.freeN n) : ¬ ∀ j, 1 ≤ j → j < n → P.now.u j = true := by
  intro H
  have : ∀ j, j ≤ n → P.freeN j = 0 := by
    intro j
    induction j with
    | zero => exact fun _ => rfl
    | succ j ih =>
      intro hj
      rw [freeN_step, ih (by omega)]
      by_cases e : j = 0
      · subst e; rw [E.ok.now.zero]; rfl
      · rw [H j (by omega) (by omega)]; rfl
  have := this n (Nat.le_refl _)
  omega
theorem tdiv2 (a : Nat) (h : a < 2147483648) : IntKind.i64.wrap ((a : Int).tdiv 2) = ((a / 2 : Nat) : Int) := by
  rw [Int.tdiv_eq_ediv_of_nonneg (by omega), wid (by omega) (by omega)]; omega
def cutN (nd : Nd) (q : Nat) : Nat := if nd.leaf then (if 1024 < Nd.base true + eszs true (nd.l.take q) then q - 1 else q) else q
set_option maxHeartbeats 4000000 in
theorem part_spec (E : PgAt h pb jb db S n D P) (T : TrAt h tb pb k) (nt : ¬ S tb) {kk : Nat} {a : Option Addr} {c : Nat} {nd : Nd} (N : NdVw h kk a c nd) (nk : ¬ S kk) (na : ∀ b, blkOf a b → ¬ S b) (o : EnsOk nd) (h1 : 1024 < nd.size) (h2 : nd.size ≤ if nd.leaf then 1491 else 1091) (hf : 1 ≤ P.freeN n) {id : Nat} (hw : P.why n (id : Nat) = 0)
    (hK : ∀ l1 e l2 i u h', nd.l = l1 ++ e :: l2 → NdOk ⟨nd.leaf, nd.first, l1⟩ → NdOk (rightN nd.leaf e l2) → l1 ≠ [] → (nd.leaf = false → l2 ≠ []) → 1 ≤ i → i < n → P.now.u i = false →
      PgAt h' pb jb db S n D (((P.alloc i).write id (pageB ⟨nd.leaf, nd.first, l1⟩)).write i (pageB (rightN nd.leaf e l2))) → Keep S h h' → Blk h' u 77 (enC ⟨e.key, eB, i⟩) → h u = none → K (.tuple #[.pointer (some ⟨u, 0, none⟩), .int .i64 0]) h') :
    CallsH Tryd.prog btree_Tree_part.id #[.pointer (some ⟨tb, 0, none⟩), .int .i64 (id : Nat), .pointer (some ⟨kk, 0, none⟩)] h K := by
  have le := N.vw.le
  have ll := eszs_len o.en
  have hsz : nd.size = Nd.base nd.leaf + eszs nd.leaf nd.l := rfl
  have h3' : nd.size ≤ 1491 := by split at h2 <;> omega
  apply btree_Tree_part.calls
  unfold btree_Tree_part.W
  refine ⟨_, T.cell' 0 rfl, alloc_spec E (fun H => absurd H (free_some E hf)) fun i i1 i2 i3 _ h3 E3 st3 => ⟨_, _, rfl, split_ne (fun e => absurd rfl e) fun _ => ?_⟩⟩
  have N3 := N.keep st3.1 nk na
  have T3 : TrAt h3 tb pb k := Blk.keep T st3.1 nt
  refine nsize_spec N3.ex (by omega) (by omega) ⟨_, rfl, by decide, _, N3.ex.c0, _, N3.ex.c1, fun k11 hk11 => ?_⟩
  obtain ⟨q, hq1, hq2, hq3⟩ := cut_at nd.leaf nd.l (nd.size / 2) (by omega)
  have B11 := Blk.new h3 k11 69 (ndC ⟨nd.leaf, nd.first, nd.l.take 0⟩ none 0)
  have s11 := Sub.upd hk11 (.cells (ndC ⟨nd.leaf, nd.first, nd.l.take 0⟩ none 0).toArray 69 (0, 0))
  refine ⟨fun i x m => ∃ j : Nat, i = (j : Int) ∧ j ≤ q ∧ m = q - j ∧ Sub h3 x ∧ ∃ la lc, (∀ b, blkOf la b → blkOf a b) ∧ NdEx x k11 la lc ⟨nd.leaf, nd.first, nd.l.take j⟩, ⟨_, 0, rfl, Nat.zero_le _, rfl, s11, none, 0, (fun b ⟨o, s, e⟩ => by cases e), B11, RowAt.nil _ _, Nat.le_refl _, fun b ⟨o, s, e⟩ => by cases e⟩, ?_⟩
  rintro z x m ⟨j, rfl, hj, rfl, sx, la, lc, bl, L⟩
  have Nx := N3.sub sx
  have tl := eszs_take_le nd.leaf nd.l j
  have tn : (nd.l.take j).length ≤ nd.l.length := by rw [List.length_take]; omega
  refine nsize_spec L (by show Nd.base nd.leaf + eszs nd.leaf (nd.l.take j) < _; omega) (by show (nd.l.take j).length < _; omega) ⟨_, rfl, ?_⟩
  rw [tdiv2 _ (by omega)]
  have es : (Nd.size ⟨nd.leaf, nd.first, nd.l.take j⟩ : Nat) = Nd.base nd.leaf + eszs nd.leaf (nd.l.take j) := rfl
  refine split_dec (fun g => ?_) fun g => ?_
  · have g : ((Nd.size ⟨nd.leaf, nd.first, nd.l.take j⟩ : Nat) : Int) < ((nd.size / 2 : Nat) : Int) := g
    have hjq : j < q := by
      rcases Nat.lt_or_ge j q with h' | h'
      · exact h'
      · have : j = q := by omega
        subst this; omega
    have e1 : IntKind.i64.wrap ((j : Int) + 1) = ((j + 1 : Nat) : Int) := by rw [wid (by omega) (by omega)]; omega
    rw [e1, Int.toNat_natCast]
    simp only [slA_zero]
    have Bx := L.blk.put 2 [.slice a (j + 1) (j + 1)]
    have sput : Sub h3 (x.put k11 2 [.slice a (j + 1) (j + 1)]) := (Keep.put (fun c => c = k11) x _ _ rfl).sub sx fun c e => by rw [e]; exact hk11
    have ej : (nd.l.take (j + 1)).length = j + 1 := by rw [List.length_take]; omega
    have Bx' : Blk (x.put k11 2 [.slice a (j + 1) (j + 1)]) k11 69 (ndC ⟨nd.leaf, nd.first, nd.l.take (j + 1)⟩ a (j + 1)) := by
      unfold ndC
      show Blk _ k11 69 [_, _, .slice a (nd.l.take (j + 1)).length (j + 1)]
      rw [ej]; exact Bx
    exact ⟨_, _, _, Nx.ex.c2, by omega, by show ((j + 1 : Nat) : Int) ≤ (c : Int); omega, by omega, by show ((j + 1 : Nat) : Int) ≤ ((j + 1 : Nat) : Int); omega, L.blk.store (by show 2 + 1 ≤ 3; decide), q - (j + 1), by omega, j + 1, rfl, hjq, rfl, sput, a, j + 1, fun b hb => hb, N3.view (by omega) sput hk11 Bx'⟩
  · have g : ¬ ((Nd.size ⟨nd.leaf, nd.first, nd.l.take j⟩ : Nat) : Int) < ((nd.size / 2 : Nat) : Int) := g
    have hjq : j = q := by
      rcases Nat.lt_or_ge j q with h' | h'
      · have := hq3 j h'; omega
      · omega
    subst hjq
    obtain ⟨c1, c2, c3, c4, c5⟩ : 1 ≤ j ∧ 1 ≤ cutN nd j ∧ cutN nd j < nd.l.length ∧ Nd.base nd.leaf + eszs nd.leaf (nd.l.take (cutN nd j)) ≤ 1024 ∧ (nd.leaf = true → Nd.base true + eszs true (nd.l.drop (cutN nd j)) ≤ 1024) ∧ (nd.leaf = false → cutN nd j + 1 < nd.l.length ∧ Nd.base false + eszs false (nd.l.drop (cutN nd j + 1)) ≤ 1024) := by
      unfold cutN
      have oen := o.en
      cases hlf : nd.leaf with
      | true =>
        rw [hlf] at hsz hq2 hq3 h2 oen
        rw [if_pos rfl] at h2
        have := cut_leaf oen (by have : Nd.base true = 3 := rfl; omega) (by have : Nd.base true = 3 := rfl; omega) hq1 (by rw [hsz] at hq2; exact hq2) (fun j hj => by have := hq3 j hj; rw [hsz] at this; exact this) rfl
        exact ⟨this.1, this.2.1, this.2.2.1, this.2.2.2.1, fun _ => this.2.2.2.2, fun e => by cases e⟩
      | false =>
        rw [hlf] at hsz hq2 hq3 h2 oen
        rw [if_neg (by decide)] at h2
        have := cut_inner oen (by have : Nd.base false = 5 := rfl; omega) (by have : Nd.base false = 5 := rfl; omega) hq1 (by rw [hsz] at hq2; exact hq2) (fun j hj => by have := hq3 j hj; rw [hsz] at this; exact this)
        exact ⟨this.1, this.1, by have := this.2.1; show j < _; omega, this.2.2.1, (fun e => by cases e), fun _ => ⟨this.2.1, this.2.2.2⟩⟩
    obtain ⟨c5, c6⟩ := c5
    obtain ⟨e, l2, hl, hle, hdr, hlen⟩ := cut_parts c3
    generalize hcut : cutN nd j = q at c2 c3 c4 c5 c6 hl hle hdr hlen
    have kd : ((nd.kind : Nat) : Int) = if nd.leaf = true then 1 else 2 := by unfold Nd.kind; split <;> rfl
    have oe : ∀ e' ∈ e :: l2, EnOk nd.leaf e' := fun e' he' => o.en e' (by rw [hl]; exact List.mem_append_right _ he')
    have o1 : NdOk ⟨nd.leaf, nd.first, nd.l.take q⟩ := ⟨fun e' he' => o.en e' (List.mem_of_mem_take he'), o.first, c4, o.z⟩
    have o2 : NdOk (rightN nd.leaf e l2) := by
      have hd1 : nd.l.drop (q + 1) = l2 := by rw [← List.drop_drop, hdr]; rfl
      cases hlf : nd.leaf with
      | true =>
        rw [hlf] at oe
        have := c5 hlf
        rw [hdr] at this
        exact ⟨oe, by show 0 < 65536; decide, this, fun _ => rfl⟩
      | false =>
        rw [hlf] at oe
        have := (c6 hlf).2
        rw [hd1] at this
        exact ⟨fun e' he' => oe e' (List.mem_cons_of_mem _ he'), (oe e List.mem_cons_self).2.1, this, fun e => by cases e⟩
    have l1ne : nd.l.take q ≠ [] := fun e => by rw [e] at hlen; have : 0 = q := hlen; omega
    have l2ne : nd.leaf = false → l2 ≠ [] := fun hlf e0 => by
      have := congrArg List.length hdr
      rw [e0, List.length_drop] at this
      have h2 := (c6 hlf).1
      have this : nd.l.length - q = 1 := this
      omega
    refine ⟨fun i x => i = (q : Int) ∧ Sub h3 x ∧ ∃ la lc, (∀ b, blkOf la b → blkOf a b) ∧ NdEx x k11 la lc ⟨nd.leaf, nd.first, nd.l.take q⟩, ?_, _, Nx.ex.c0, ?_⟩
    · rintro z y ⟨rfl, sy, la', lc', bl', L'⟩
      have Ny := N3.sub sy
      refine ⟨_, Ny.ex.c0, _, _, _, Ny.ex.c2, by omega, by show (q : Int) ≤ (nd.l.length : Int); omega, fun k31 hk31 => ?_⟩
      have hx : setL (setL [Value.int .i64 0, .int .i64 0, .slice none 0 0] 0 [.int .i64 (nd.kind : Nat)]) 2 [.slice (slA c ((q : Nat) : Int).toNat 3 a) (nd.l.length - ((q : Nat) : Int).toNat) (c - ((q : Nat) : Int).toNat)] = [.int .i64 (nd.kind : Nat), .int .i64 0, .slice (slA c q 3 a) (nd.l.length - q) (c - q)] := by rw [Int.toNat_natCast]; rfl
      rw [hx, Int.toNat_natCast]
      have B31 := Blk.new y k31 69 [.int .i64 (nd.kind : Nat), .int .i64 0, .slice (slA c q 3 a) (nd.l.length - q) (c - q)]
      have s31 := Sub.upd hk31 (.cells [Value.int .i64 (nd.kind : Nat), .int .i64 0, .slice (slA c q 3 a) (nd.l.length - q) (c - q)].toArray 69 (0, 0))
      generalize y.upd k31 (.cells [Value.int .i64 (nd.kind : Nat), .int .i64 0, .slice (slA c q 3 a) (nd.l.length - q) (c - q)].toArray 69 (0, 0)) = y1 at B31 s31 ⊢
      have sy1 := sy.trans s31
      have n31 : h3 k31 = none := sy.none hk31
      have ld : (nd.l.drop q).length = nd.l.length - q := List.length_drop
      have ne31 : ∀ {i : Nat} b, blkOf (slA c i 3 a) b → b ≠ k31 := fun b hb e => N3.vw.in_heap (blk_slA hb) (e ▸ n31)
      have R0 : NdEx y1 k31 (slA c q 3 a) (c - q) ⟨nd.leaf, 0, nd.l.drop q⟩ := ⟨by unfold ndC; show Blk _ _ _ [_, _, .slice _ (nd.l.drop q).length _]; rw [ld]; exact B31, N3.rest (by omega) sy1, by show (nd.l.drop q).length ≤ _; rw [ld]; omega, ne31⟩
      obtain ⟨b, of, ea, g0, g1, g2⟩ := R0.get (i := 0) (e := e) (by show (nd.l.drop q)[0]? = _; rw [hdr]; rfl)
      rw [Nat.zero_mul, Nat.add_zero] at g0 g1 g2
      refine ⟨_, _, _, B31.cell' 2 rfl, split_cond (fun _ => ⟨b, of, ea, _, g0, fun k38 hk38 => ?_⟩) fun e2 => ?_⟩
      rotate_left
      · have : Nat.blt 0 (nd.l.length - q) = true := Nat.blt_eq.mpr (by omega)
        rw [this] at e2; cases e2
      have hx2 : setL (setL [Value.string (bytesL []), .string (bytesL []), .int .i64 0] 0 [.string e.key]) 2 [.int .i64 ((i : Nat) : Int)] = enC ⟨e.key, eB, i⟩ := rfl
      have hx3 : #[Value.string e.key, .string (bytesL []), .int .i64 ((i : Nat) : Int)] = (enC ⟨e.key, eB, i⟩).toArray := rfl
      rw [hx2, hx3]
      have B38 := Blk.new y1 k38 77 (enC ⟨e.key, eB, i⟩)
      have s38 := Sub.upd hk38 (.cells (enC ⟨e.key, eB, i⟩).toArray 77 (0, 0))
      generalize y1.upd k38 (.cells (enC ⟨e.key, eB, i⟩).toArray 77 (0, 0)) = y2 at B38 s38 ⊢
      have sy2 := sy1.trans s38
      have n38 : h3 k38 = none := sy1.none hk38
      have R2 := R0.sub s38
      have L2 := (L'.sub s31).sub s38
      have N2 := N3.sub sy2
      have ek := B31.keep (s38.keep (fun _ => False)) fun h => h
      have dj : k38 ≠ k31 := fun e => by have := B31; unfold Blk at this; rw [← e, hk38] at this; cases this
      have dj2 : k11 ≠ k31 := fun e => by have := L'.blk; unfold Blk at this; rw [e, hk31] at this; cases this
      refine ⟨fun x => Sub h3 x ∧ NdEx x k11 la' lc' ⟨nd.leaf, nd.first, nd.l.take q⟩ ∧ Blk x k38 77 (enC ⟨e.key, eB, i⟩) ∧ ∃ ra rc, NdEx x k31 ra rc (rightN nd.leaf e l2) ∧ ∀ b, blkOf ra b → ¬ S b, ?_, _, N2.ex.c0, ?_⟩
      · rintro x ⟨sx, Lx, Bx, ra, rc, Rx, nra⟩
        have Tx : TrAt x tb pb k := Blk.sub T3 sx
        refine store_spec (E3.sub sx) Tx Lx o1 (why_alloc hw) fun h4 E4 k4 => ⟨rfl, ?_⟩
        refine store_spec E4 (Blk.keep Tx k4 nt) (Rx.out k4 (S_out E3 n31) nra) o2 (why_i i1 i2 (upU_same _ _ _)) fun h5 E5 k5 => ⟨rfl, ?_⟩
        refine hK _ e l2 i k38 h5 hl o1 o2 l1ne l2ne i1 i2 i3 E5 (st3.1.trans ((sx.keep S).trans (k4.trans k5))) ((Bx.keep k4 (S_out E3 n38)).keep k5 (S_out E3 n38)) ?_
        exact Classical.byContradiction fun hne => by
          by_cases hS : S k38
          · exact E3.in_heap hS n38
          · obtain ⟨ob, hob⟩ := Option.ne_none_iff_exists'.1 hne
            rw [st3.1 _ _ hob hS] at n38; cases n38
      · rw [kd]
        by_cases hlf : nd.leaf = true
        · rw [if_pos hlf]
          have er : rightN nd.leaf e l2 = ⟨nd.leaf, 0, nd.l.drop q⟩ := by rw [hlf, hdr]; rfl
          refine split_eq (fun e => by cases e) fun _ => ⟨sy2, L2, B38, _, _, by rw [er]; exact R2, fun b hb => na b (blk_slA hb)⟩
        · rw [if_neg hlf]
          have hlf' : nd.leaf = false := by simpa using hlf
          have B31' := B31.sub s38
          have P1 := B31'.put 1 [.int .i64 (e.kid : Nat)]
          have P2 := P1.put 2 [.slice (slA (c - q) 1 3 (slA c q 3 a)) (nd.l.length - q - 1) (c - q - 1)]
          have kp : Keep (fun c => c = k31) y2 ((y2.put k31 1 [.int .i64 (e.kid : Nat)]).put k31 2 [.slice (slA (c - q) 1 3 (slA c q 3 a)) (nd.l.length - q - 1) (c - q - 1)]) := (Keep.put (fun c => c = k31) _ _ _ rfl).trans (Keep.put (fun c => c = k31) _ _ _ rfl)
          obtain ⟨b', of', ea', q0, q1, q2⟩ := R2.get (i := 0) (e := e) (by show (nd.l.drop q)[0]? = _; rw [hdr]; rfl)
          rw [Nat.zero_mul, Nat.add_zero] at q2
          have hl2 : l2.length = nd.l.length - q - 1 := by
            have := congrArg List.length hdr
            rw [ld, List.length_cons] at this; omega
          refine split_eq (fun _ => ⟨_, _, _, B31'.cell' 2 rfl, split_cond (fun _ => ⟨b', of', ea', _, q2, B31'.store (by show 1 + 1 ≤ 3; decide), _, _, _, P1.cell' 2 rfl, by decide, by show (1 : Int) ≤ ((nd.l.length - q : Nat) : Int); omega, P1.store (by show 2 + 1 ≤ 3; decide), ?_⟩) fun e2 => ?_⟩) fun e => absurd rfl e
          · refine ⟨kp.sub sy2 fun c e => by rw [e]; exact n31, L2.out kp dj2 fun b hb e => N3.vw.in_heap (bl' b hb) (e ▸ n31), B38.keep kp dj, slA (c - q) 1 3 (slA c q 3 a), c - q - 1, ⟨?_, ?_, ?_, ?_⟩, fun b hb => na b (blk_slA (blk_slA hb))⟩
            · rw [hlf']
              unfold ndC
              have e1 : ((nd.kind : Nat) : Int) = 2 := by rw [kd, if_neg hlf]
              rw [e1] at P2
              show Blk _ k31 69 [.int .i64 2, .int .i64 (e.kid : Nat), .slice _ l2.length _]
              rw [hl2]; exact P2
            · rw [hlf']
              have := R2.row.part enC_len (c := c - q) (i := 1) (n := l2.length) (by show (nd.l.drop q).length ≤ _; rw [ld]; omega) (by show 1 + l2.length ≤ (nd.l.drop q).length; rw [ld]; omega)
              have e3 : ((nd.l.drop q).drop 1).take l2.length = l2 := by rw [hdr]; show l2.take l2.length = l2; rw [List.take_length]
              rw [show (Nd.l ⟨nd.leaf, 0, nd.l.drop q⟩) = nd.l.drop q from rfl, e3] at this
              exact this.keep kp fun b hb e => ne31 b (blk_slA hb) e
            · rw [hlf']; show l2.length ≤ c - q - 1; omega
            · exact fun b hb e => ne31 b (blk_slA hb) e
          · have : Nat.blt 0 (nd.l.length - q) = true := Nat.blt_eq.mpr (by omega)
            rw [this] at e2; cases e2
    · rw [kd]
      by_cases hlf : nd.leaf = true
      · rw [if_pos hlf]
        have hcut := hcut
        unfold cutN at hcut
        rw [if_pos hlf] at hcut
        have eb : Nd.base nd.leaf + eszs nd.leaf (nd.l.take j) = Nd.base true + eszs true (nd.l.take j) := by rw [hlf]
        refine split_eq (fun _ => nsize_spec L (by show Nd.base nd.leaf + eszs nd.leaf (nd.l.take j) < _; omega) (by show (nd.l.take j).length < _; omega) ⟨_, rfl, split_dec (fun g => ?_) fun g => ?_⟩) fun e => absurd rfl e
        · have g : ((Nd.size ⟨nd.leaf, nd.first, nd.l.take j⟩ : Nat) : Int) > 1024 := g
          rw [if_pos (by omega)] at hcut
          have e1 : IntKind.i64.wrap ((j : Int) - 1) = ((q : Nat) : Int) := by rw [wid (by omega) (by omega)]; omega
          rw [e1, Int.toNat_natCast]
          simp only [slA_zero]
          have Bx := L.blk.put 2 [.slice a q q]
          have sput : Sub h3 (x.put k11 2 [.slice a q q]) := (Keep.put (fun c => c = k11) x _ _ rfl).sub sx fun c e => by rw [e]; exact hk11
          have Bx' : Blk (x.put k11 2 [.slice a q q]) k11 69 (ndC ⟨nd.leaf, nd.first, nd.l.take q⟩ a q) := by
            unfold ndC
            show Blk _ k11 69 [_, _, .slice a (nd.l.take q).length q]
            rw [hlen]; exact Bx
          exact ⟨_, _, _, Nx.ex.c2, by omega, by show ((q : Nat) : Int) ≤ (c : Int); omega, by omega, by show ((q : Nat) : Int) ≤ ((q : Nat) : Int); omega, L.blk.store (by show 2 + 1 ≤ 3; decide), trivial, sput, a, q, fun b hb => hb, N3.view (by omega) sput hk11 Bx'⟩
        · have g : ¬ ((Nd.size ⟨nd.leaf, nd.first, nd.l.take j⟩ : Nat) : Int) > 1024 := g
          rw [if_neg (by omega)] at hcut
          subst hcut
          exact ⟨rfl, sx, la, lc, bl, L⟩
      · rw [if_neg hlf]
        have hcut := hcut
        unfold cutN at hcut
        rw [if_neg hlf] at hcut
        subst hcut
        exact split_eq (fun e => by cases e) fun _ => ⟨rfl, sx, la, lc, bl, L⟩
end Go.Proofs.YthbogjbcecmopaaDoor
namespace Go.Proofs.YthbogjbcecmopaaDoor
open Go.Gx
set_option maxRecDepth 100000
set_option linter.unusedVariables false
variable {n : Nat} {D : Dk} {P P1 P' : Pg}
theorem le_blt_trans {a b c : ByteArray} (h1 : blt b a = false) (h2 : blt b c = true) : blt a c = true := by
  cases e : blt a b with
  | true => exact blt_trans e h2
  | false => rw [blt_total e h1]; exact h2
theorem may_eB {k v : ByteArray} (h : may k v = true) : may k eB = true := by
  have := may_key64 h
  unfold may
  exact decide_eq_true ⟨this.2, this.1, by decide⟩
theorem insN_store {m id : Nat} {nd : Nd} {f t : ByteArray} (h : Fw (P.pgs D n) m nd f t) (hn : Fn (P.pgs D n) m nd) (o : NdOk nd) (hw : P.why n (id : Nat) = 0) (hid : id ∉ idsN (P.pgs D n) m nd) (nN : (idsN (P.pgs D n) m nd).Nodup) :
    InsN n D P (P.write id (pageB nd)) m id f t (entsN (P.pgs D n) m nd) (id :: idsN (P.pgs D n) m nd) 0 := by
  obtain ⟨g1, g2, g3, g4, g5⟩ := store_law h hn o hw hid nN
  exact ⟨g1, g2, by rw [g3]; exact g4, by rw [g3]; exact g5, by rw [g3]; exact Nat.le_refl _⟩
theorem insS_part (hn2 : n ≤ 128) {m id i : Nat} {lf : Bool} {fi : Nat} {l1 l2 : List En} {e : En} {f t : ByteArray} (h : Fw (P.pgs D n) m ⟨lf, fi, l1 ++ e :: l2⟩ f t) (hn : Fn (P.pgs D n) m ⟨lf, fi, l1 ++ e :: l2⟩) (o1 : NdOk ⟨lf, fi, l1⟩) (o2 : NdOk (rightN lf e l2)) (hw : P.why n (id : Nat) = 0)
    (hid : id ∉ idsN (P.pgs D n) m ⟨lf, fi, l1 ++ e :: l2⟩) (nN : (idsN (P.pgs D n) m ⟨lf, fi, l1 ++ e :: l2⟩).Nodup) (i1 : 1 ≤ i) (hi : i < n) (hu : P.now.u i = false) (hl1 : l1 ≠ []) (hl2 : lf = false → l2 ≠ []) (ok : may e.key e.val = true) :
    InsS n D P (((P.alloc i).write id (pageB ⟨lf, fi, l1⟩)).write i (pageB (rightN lf e l2))) m id f t (entsN (P.pgs D n) m ⟨lf, fi, l1 ++ e :: l2⟩) (id :: idsN (P.pgs D n) m ⟨lf, fi, l1 ++ e :: l2⟩) 1 ⟨e.key, eB, i⟩ := by
  obtain ⟨g1, g2, g3, g4, g5, g6, g7⟩ := part_law h hn o1 o2 hw hid nN i1 hi hu rfl
  obtain ⟨w1, w2, w3, w4, w5⟩ := h.part
  obtain ⟨n1, n2⟩ := w5 hn
  obtain ⟨x1, l1', rfl⟩ : ∃ x l, l1 = x :: l := by
    cases l1 with
    | nil => exact absurd rfl hl1
    | cons x l => exact ⟨x, l, rfl⟩
  refine ⟨g1, g2, by rw [g3, g4, w3], fun e0 => ?_, fun e0 => ?_, g5, g6, by rw [g7]; exact Nat.le_refl _, ?_, ?_, ⟨may_eB ok, by show i < 65536; omega, rfl⟩⟩
  · rw [g3] at e0
    have := Fw_empty w1 n1 e0
    cases this
  · have e0 : ents _ m i = [] := e0
    rw [g4] at e0
    have := Fw_empty w2 n2 e0
    unfold rightN at this
    cases lf with
    | true => cases this
    | false => exact hl2 rfl this
  · show blt f e.key = true
    cases m with
    | zero =>
      have k1 := keysOk_iff.1 h.2
      have k2 := List.pairwise_append.1 (by have := k1.2; rw [List.map_append, List.map_cons] at this; exact this)
      exact le_blt_trans (k1.1 x1 (List.mem_append_left _ List.mem_cons_self)).1 (k2.2.2 _ (List.mem_map_of_mem List.mem_cons_self) _ List.mem_cons_self)
    | succ m => exact h.2.1.2 e (List.mem_append_right _ List.mem_cons_self)
  · show below t e.key
    have hk : keysOk f t (x1 :: l1' ++ e :: l2) := by
      cases m with
      | zero => exact h.2
      | succ m => exact h.2.1.1
    exact ((keysOk_iff.1 hk).1 e (List.mem_append_right _ List.mem_cons_self)).2
theorem InsN.comp {m id r r' : Nat} {f t : ByteArray} {L : List KV} {I I1 : List Nat} (M : Mv n D P P1 I I1) (hl : I1.length ≤ I.length + r) (R : InsN n D P1 P' m id f t L I1 r') : InsN n D P P' m id f t L I (r + r') :=
  ⟨R.tr, R.es, R.nd, M.trans R.mv, by have := R.len; omega⟩
theorem InsS.comp {m id r r' : Nat} {f t : ByteArray} {L : List KV} {I I1 : List Nat} {e : En} (M : Mv n D P P1 I I1) (hl : I1.length ≤ I.length + r) (R : InsS n D P1 P' m id f t L I1 r' e) : InsS n D P P' m id f t L I (r + r') e :=
  ⟨R.tr, R.tr2, R.es, R.ne, R.ne2, R.nd, M.trans R.mv, by have := R.len; omega, R.lo, R.hi, R.ok⟩
structure KidAt (pg : Nat → Option Nd) (m : Nat) (nd : Nd) (f t k : ByteArray) (l1 l2 : List En) (K1 : List Cl) (c : Cl) : Prop where
  l : nd.l = l1 ++ l2
  be : l1.length = kvBe k nd.kv
  cl : nd.cl f = K1 ++ c :: l2.map clE
  cls : ∀ l, Nd.cl ⟨nd.leaf, nd.first, l1 ++ l⟩ f = K1 ++ c :: l.map clE
  len : K1.length = l1.length
  kid : nd.kids[l1.length]? = some c.2
  tr : TrS pg m c.2 c.1 (hdK t (l2.map clE))
  lo : blt k c.1 = false
  hi : below (hdK t (l2.map clE)) k
  lt : ∀ p ∈ (entsK pg m K1).flatten, blt p.1 k = true
  gt : ∀ p ∈ (entsK pg m (l2.map clE)).flatten, blt k p.1 = true
  ge : blt c.1 f = false
  le : ∀ x, below (hdK t (l2.map clE)) x → below t x
theorem kid_at' {pg : Nat → Option Nd} (O : PgOk pg) {m : Nat} {nd : Nd} {f t k : ByteArray} (h : Fw pg (m + 1) nd f t) (hf : blt k f = false) (ht : below t k) : ∃ l1 l2 K1 c, KidAt pg m nd f t k l1 l2 K1 c := by
  obtain ⟨l1, l2, K1, c, a1, a2, a3, a4, a5, a6, a7, a8, a9, a10, a11, a12, a13⟩ := kid_at O h hf ht
  exact ⟨l1, l2, K1, c, a1, a2, a3, a4, a5, a6, a7, a8, a9, a10, a11, a12, a13⟩
section
variable {m : Nat} {nd : Nd} {f t k : ByteArray} {l1 l2 : List En} {K1 : List Cl} {c : Cl} (A : KidAt (P.pgs D n) m nd f t k l1 l2 K1 c)
include A
theorem KidAt.es : entsN (P.pgs D n) (m + 1) nd = (entsK (P.pgs D n) m K1).flatten ++ (ents (P.pgs D n) m c.2 ++ (entsK (P.pgs D n) m (l2.map clE)).flatten) := by
  show (entsK (P.pgs D n) m (nd.cl f)).flatten = _
  rw [A.cl, entsK_append, List.flatten_append]; rfl
theorem KidAt.is : idsN (P.pgs D n) (m + 1) nd = idsK (P.pgs D n) m (K1 ++ [c] ++ l2.map clE) := by
  show idsK (P.pgs D n) m (nd.cl f) = _
  rw [A.cl, List.append_assoc]; rfl
theorem KidAt.kid_sub : ∀ i ∈ ids (P.pgs D n) m c.2, i ∈ idsN (P.pgs D n) (m + 1) nd := fun i hi => by
  rw [A.is, idsK_append, idsK_append, idsK_one]
  exact List.mem_append_left _ (List.mem_append_right _ hi)
theorem KidAt.na (hn : Fn (P.pgs D n) (m + 1) nd) : NA (entsK (P.pgs D n) m K1 ++ ents (P.pgs D n) m c.2 :: entsK (P.pgs D n) m (l2.map clE)) := by
  have hn : NA (entsK (P.pgs D n) m (nd.cl f)) := hn
  rw [A.cl, entsK_append] at hn
  exact hn
theorem KidAt.one (h : Fw (P.pgs D n) (m + 1) nd f t) (nN : (idsN (P.pgs D n) (m + 1) nd).Nodup) (T1 : TrS (P1.pgs D n) m c.2 c.1 (hdK t (l2.map clE))) (M : Mv n D P P1 (ids (P.pgs D n) m c.2) (ids (P1.pgs D n) m c.2)) (n1 : (ids (P1.pgs D n) m c.2).Nodup) :
    Fw (P1.pgs D n) (m + 1) nd f t ∧ entsK (P1.pgs D n) m (nd.cl f) = entsK (P.pgs D n) m K1 ++ ents (P1.pgs D n) m c.2 :: entsK (P.pgs D n) m (l2.map clE) ∧ (idsN (P1.pgs D n) (m + 1) nd).Nodup ∧ Mv n D P P1 (idsN (P.pgs D n) (m + 1) nd) (idsN (P1.pgs D n) (m + 1) nd) ∧
      (idsN (P1.pgs D n) (m + 1) nd).length + (ids (P.pgs D n) m c.2).length = (idsN (P.pgs D n) (m + 1) nd).length + (ids (P1.pgs D n) m c.2).length := by
  have hc := h.2.2
  have ec : nd.cl f = K1 ++ [c] ++ l2.map clE := by rw [A.cl, List.append_assoc]; rfl
  have nN' : (idsK (P.pgs D n) m (nd.cl f)).Nodup := nN
  rw [ec] at hc nN'
  rw [← idsK_one (P.pgs D n) m c, ← idsK_one (P1.pgs D n) m c] at M
  obtain ⟨g1, g2, g3, g4, g5⟩ := ChS.repl (X' := [c]) hc nN' M ⟨T1, trivial⟩ rfl (by rw [idsK_one]; exact n1)
  rw [← ec] at g1 g2 g3 g4 g5
  refine ⟨⟨h.1, h.2.1, g1⟩, ?_, g3, g4, ?_⟩
  · rw [g2, List.append_assoc]; rfl
  · rw [idsK_one, idsK_one] at g5; exact g5
theorem KidAt.two (h : Fw (P.pgs D n) (m + 1) nd f t) (nN : (idsN (P.pgs D n) (m + 1) nd).Nodup) {L : List KV} {r : Nat} {e : En} (R : InsS n D P P1 m c.2 c.1 (hdK t (l2.map clE)) L (ids (P.pgs D n) m c.2) r e) :
    Fw (P1.pgs D n) (m + 1) ⟨nd.leaf, nd.first, l1 ++ e :: l2⟩ f t ∧ entsK (P1.pgs D n) m (Nd.cl ⟨nd.leaf, nd.first, l1 ++ e :: l2⟩ f) = entsK (P.pgs D n) m K1 ++ ents (P1.pgs D n) m c.2 :: ents (P1.pgs D n) m e.kid :: entsK (P.pgs D n) m (l2.map clE) ∧ (idsN (P1.pgs D n) (m + 1) ⟨nd.leaf, nd.first, l1 ++ e :: l2⟩).Nodup ∧
      Mv n D P P1 (idsN (P.pgs D n) (m + 1) nd) (idsN (P1.pgs D n) (m + 1) ⟨nd.leaf, nd.first, l1 ++ e :: l2⟩) ∧ (idsN (P1.pgs D n) (m + 1) ⟨nd.leaf, nd.first, l1 ++ e :: l2⟩).length ≤ (idsN (P.pgs D n) (m + 1) nd).length + r := by
  have hc := h.2.2
  have ec : nd.cl f = K1 ++ [c] ++ l2.map clE := by rw [A.cl, List.append_assoc]; rfl
  have ec2 : Nd.cl ⟨nd.leaf, nd.first, l1 ++ e :: l2⟩ f = K1 ++ [c, clE e] ++ l2.map clE := by rw [A.cls, List.append_assoc]; rfl
  have nN' : (idsK (P.pgs D n) m (nd.cl f)).Nodup := nN
  rw [ec] at hc nN'
  have i2 : idsK (P1.pgs D n) m [c, clE e] = ids (P1.pgs D n) m c.2 ++ ids (P1.pgs D n) m e.kid := by unfold idsK; simp [clE]
  have M := R.mv
  rw [← idsK_one (P.pgs D n) m c, ← i2] at M
  have rl := R.len
  obtain ⟨g1, g2, g3, g4, g5⟩ := ChS.repl (X' := [c, clE e]) hc nN' M ⟨R.tr, R.tr2, trivial⟩ rfl (by rw [i2]; exact R.nd)
  have g4' : Mv n D P P1 (idsK (P.pgs D n) m (nd.cl f)) (idsK (P1.pgs D n) m (Nd.cl ⟨nd.leaf, nd.first, l1 ++ e :: l2⟩ f)) := by rw [ec, ec2]; exact g4
  rw [idsK_one, i2, ← ec, ← ec2] at g5
  rw [← ec2] at g1 g2 g3
  have hk := h.2.1
  have hs1 := keysOk_iff.1 hk.1
  have hl := A.l
  have be : ∀ e' ∈ l2, blt e.key e'.key = true := fun e' he' => by
    have hh : below (hdK t (l2.map clE)) e.key := R.hi
    cases l2 with
    | nil => cases he'
    | cons x l2 =>
      have hx : below x.key e.key := hh
      have hxm : x ∈ nd.l := by rw [hl]; exact List.mem_append_right _ List.mem_cons_self
      have hex : blt e.key x.key = true := hx (blt_neB (hk.2 x hxm))
      rcases List.mem_cons.1 he' with rfl | he'
      · exact hex
      · have := hs1.2
        rw [hl, List.map_append, List.map_cons] at this
        have := (List.pairwise_cons.1 (List.pairwise_append.1 this).2.1).1 e'.kv (List.mem_map_of_mem he')
        exact blt_trans hex this
  have fe : blt f e.key = true := by
    cases e0 : blt f c.1 with
    | true => exact blt_trans e0 R.lo
    | false => rw [← blt_total A.ge e0]; exact R.lo
  have bl : ∀ e' ∈ l1, blt e'.key e.key = true := fun e' he' => by
    have hcm : ∀ x ∈ nd.cl f, x = c ∨ x ∈ K1 ∨ x ∈ l2.map clE := fun x hx => by
      rw [A.cl] at hx
      rcases List.mem_append.1 hx with h | h
      · exact .inr (.inl h)
      · exact (List.mem_cons.1 h).imp id .inr
    have hsl := cl_sorted (lf := nd.leaf) (fi := nd.first) hk
    have enl : Nd.cl ⟨nd.leaf, nd.first, nd.l⟩ f = nd.cl f := rfl
    rw [enl, A.cl] at hsl
    have hsl := List.pairwise_append.1 hsl
    have e1 := A.cls []
    rw [List.append_nil, List.map_nil] at e1
    have : clE e' ∈ K1 ++ [c] := by
      rw [← e1]
      exact List.mem_cons_of_mem _ (List.mem_map_of_mem he')
    rcases List.mem_append.1 this with h | h
    · exact blt_trans (hsl.2.2 _ h c List.mem_cons_self) R.lo
    · have : clE e' = c := List.mem_singleton.1 h
      have e2 : e'.key = c.1 := congrArg Prod.fst this
      rw [e2]; exact R.lo
  have key : keysS f t (l1 ++ e :: l2) := by
    refine ⟨keysOk_iff.2 ⟨fun e' he' => ?_, ?_⟩, fun e' he' => ?_⟩
    · rcases List.mem_append.1 he' with h | h
      · exact hs1.1 e' (by rw [hl]; exact List.mem_append_left _ h)
      · rcases List.mem_cons.1 h with rfl | h
        · exact ⟨blt_asymm fe, A.le _ R.hi⟩
        · exact hs1.1 e' (by rw [hl]; exact List.mem_append_right _ h)
    · have := hs1.2
      rw [hl, List.map_append] at this
      have s := List.pairwise_append.1 this
      rw [List.map_append, List.map_cons]
      refine List.pairwise_append.2 ⟨s.1, List.pairwise_cons.2 ⟨fun p hp => ?_, s.2.1⟩, fun p hp q hq => ?_⟩
      · obtain ⟨e', he', rfl⟩ := List.mem_map.1 hp
        exact be e' he'
      · rcases List.mem_cons.1 hq with rfl | hq
        · obtain ⟨e', he', rfl⟩ := List.mem_map.1 hp
          exact bl e' he'
        · exact s.2.2 p hp q hq
    · rcases List.mem_append.1 he' with h | h
      · exact hk.2 e' (by rw [hl]; exact List.mem_append_left _ h)
      · rcases List.mem_cons.1 h with rfl | h
        · exact fe
        · exact hk.2 e' (by rw [hl]; exact List.mem_append_right _ h)
  refine ⟨⟨h.1, key, g1⟩, ?_, g3, g4', ?_⟩
  · rw [g2, List.append_assoc]; rfl
  · show (idsK (P1.pgs D n) m (Nd.cl ⟨nd.leaf, nd.first, l1 ++ e :: l2⟩ f)).length ≤ (idsK (P.pgs D n) m (nd.cl f)).length + r
    omega
end
end Go.Proofs.YthbogjbcecmopaaDoor
namespace Go.Proofs.YthbogjbcecmopaaDoor
open Go.Gx
set_option maxRecDepth 100000
set_option linter.unusedVariables false
variable {n : Nat} {D : Dk} {P : Pg} {h : Hp} {K : Value → Hp → Prop} {pb jb db : Nat} {S : Nat → Prop} {tb k : Nat}
theorem set_putL {x : En} {l : List En} (h : kvIs x.key (l.map En.kv) = true) : l.set (kvAt x.key (l.map En.kv)) x = putL x l := by
  have hl := kvAt_lt h
  rw [List.length_map] at hl
  unfold putL
  rw [if_pos h, List.set_eq_take_append_cons_drop, if_pos hl]
theorem none_putL {x : En} {l : List En} (h : kvIs x.key (l.map En.kv) = false) : l.take (kvAt x.key (l.map En.kv)) ++ x :: l.drop (kvAt x.key (l.map En.kv)) = putL x l := by
  unfold putL
  rw [if_neg (by rw [h]; decide)]
theorem none_back {x : Hp} (E : PgAt x pb jb db S n D P) (kp : Keep S h x) {u : Nat} (hu : x u = none) : h u = none :=
  Classical.byContradiction fun hne => by
    by_cases hS : S u
    · exact E.in_heap hS hu
    · obtain ⟨ob, hob⟩ := Option.ne_none_iff_exists'.1 hne
      rw [kp _ _ hob hS] at hu; cases hu
def InsJ (pb jb db : Nat) (S : Nat → Prop) (n : Nat) (D : Dk) (P : Pg) (m id : Nat) (f t : ByteArray) (L : List KV) (I : List Nat) (h : Hp) (k' : Nat) (x : Hp) : Prop :=
  ∃ P1 nd1 a1 c1, PgAt x pb jb db S n D P1 ∧ Keep S h x ∧ NdVw x k' a1 c1 nd1 ∧ (∀ b, blkOf a1 b → ¬ S b) ∧ EnsOk nd1 ∧ nd1.size ≤ (if nd1.leaf then 1491 else 1091) ∧ Fw (P1.pgs D n) m nd1 f t ∧ Fn (P1.pgs D n) m nd1 ∧ (P1.pgs D n id).isSome = true ∧ id ∉ idsN (P1.pgs D n) m nd1 ∧
    (idsN (P1.pgs D n) m nd1).Nodup ∧ entsN (P1.pgs D n) m nd1 = L ∧ Mv n D P P1 (id :: I) (id :: idsN (P1.pgs D n) m nd1) ∧ (idsN (P1.pgs D n) m nd1).length ≤ I.length + m
set_option maxHeartbeats 4000000 in
theorem insert_spec (nt : ¬ S tb) {key v : ByteArray} (hm : may key v = true) (m : Nat) : ∀ {h : Hp} {K : Value → Hp → Prop} {P : Pg} {id : Nat} {f t : ByteArray}, PgAt h pb jb db S n D P → TrAt h tb pb k → TrS (P.pgs D n) m id f t → (ids (P.pgs D n) m id).Nodup → blt key f = false → below t key → m + 1 ≤ P.freeN n →
    (∀ h' P', PgAt h' pb jb db S n D P' → Keep S h h' → InsN n D P P' m id f t (kvPut key v (ents (P.pgs D n) m id)) (ids (P.pgs D n) m id) m → K (.tuple #[.pointer none, .int .i64 0]) h') →
    (∀ h' P' u e, PgAt h' pb jb db S n D P' → Keep S h h' → Blk h' u 77 (enC e) → h u = none → InsS n D P P' m id f t (kvPut key v (ents (P.pgs D n) m id)) (ids (P.pgs D n) m id) (m + 1) e → K (.tuple #[.pointer (some ⟨u, 0, none⟩), .int .i64 0]) h') →
    CallsH Tryd.prog btree_Tree_insert.id #[.pointer (some ⟨tb, 0, none⟩), .int .i64 (id : Nat), .agg #[.string key, .string v, .int .i64 0]] h K := by
  induction m using Nat.strongRecOn with
  | ind m ih =>
  intro h K P id f t E T TT nI hf ht fr hN hS
  have hn := E.n2
  have hpk := pgs_ok E
  obtain ⟨nd, pn, W, F⟩ := TrS_iff.1 TT
  have ok := hpk id nd pn
  have ll := ok.len
  have hsz0 := ok.size
  have hw : P.why n (id : Nat) = 0 := pgs_why (by rw [pn]; rfl)
  rw [ids_N pn] at nI hN hS
  rw [ents_N pn] at hN hS
  obtain ⟨hid, nN⟩ := List.nodup_cons.1 nI
  apply btree_Tree_insert.calls
  unfold btree_Tree_insert.W
  refine load_spec E T _ (fun e => by rw [show P.pgs D n id = none from e] at pn; cases pn) fun nd' e h2 k' N2 => ?_
  have e : nd' = nd := Option.some.inj ((show P.pgs D n id = some nd' from e).symm.trans pn)
  subst e
  refine ⟨_, _, rfl, split_ne (fun e => absurd rfl e) fun _ => ?_⟩
  obtain ⟨a, c, No, fra⟩ := N2.ow
  have k0 := N2.k0
  have s2 := N2.sub
  have nk : ¬ S k' := S_out E k0
  have na : ∀ b, blkOf a b → ¬ S b := fun b hb => S_out E (fra b hb)
  have srt : kvSorted nd'.kv := by
    cases m with
    | zero => exact (keysOk_iff.1 W.2).2
    | succ m => exact (keysOk_iff.1 W.2.1.1).2
  refine ⟨InsJ pb jb db S n D P m id f t (kvPut key v (entsN (P.pgs D n) m nd')) (idsN (P.pgs D n) m nd') h k', ?_, k', 0, rfl, _, No.ex.c0, ?_⟩
  · rintro x ⟨P1, nd1, a1, c1, E1, kp1, N1, na1, o1, hsz, W1, F1, his, hid1, nN1, he1, M1, hl1⟩
    have T1 : TrAt x tb pb k := Blk.keep T kp1 nt
    have hw1 := pgs_why his
    have ll1 := eszs_len o1.en
    have hs1 : nd1.size = Nd.base nd1.leaf + eszs nd1.leaf nd1.l := rfl
    have hsz' : nd1.size ≤ 1491 := by split at hsz <;> omega
    have fr1 := M1.free
    simp only [List.length_cons] at fr1
    refine nsize_spec N1.ex (by omega) (by omega) ⟨_, rfl, split_dec (fun g => ?_) fun g => ?_⟩
    · have g : ((nd1.size : Nat) : Int) ≤ 1024 := g
      refine store_spec E1 T1 N1.ex (o1.ok (by omega)) hw1 fun h3 E3 k3 => ⟨rfl, hN h3 _ E3 (kp1.trans k3) ?_⟩
      have R := insN_store W1 F1 (o1.ok (by omega)) hw1 hid1 nN1
      rw [he1] at R
      exact R.comp M1 (by simp only [List.length_cons]; omega)
    · have g : ¬ ((nd1.size : Nat) : Int) ≤ 1024 := g
      obtain ⟨lf, fi, l⟩ := nd1
      refine part_spec E1 T1 nt N1 nk na1 o1 (by omega) hsz (by omega) hw1 fun l1 e l2 i u h3 hl q1 q2 q3 q4 q5 q6 q7 E3 k3 Bu u0 => ⟨_, _, rfl, hS h3 _ u ⟨e.key, eB, i⟩ E3 (kp1.trans k3) Bu (none_back E1 kp1 u0) ?_⟩
      have hl : l = l1 ++ e :: l2 := hl
      subst hl
      have R := insS_part hn W1 F1 q1 q2 hw1 hid1 nN1 q5 q6 q7 q3 q4 (o1.en e (List.mem_append_right _ List.mem_cons_self)).1
      rw [he1] at R
      exact R.comp M1 (by simp only [List.length_cons]; omega)
  · have kd : ((nd'.kind : Nat) : Int) = if nd'.leaf = true then 1 else 2 := by unfold Nd.kind; split <;> rfl
    rw [kd]
    cases m with
    | zero =>
      have hlf : nd'.leaf = true := W.1
      have ez := ok.z hlf
      rw [if_pos hlf]
      have xo : EnOk nd'.leaf ⟨key, v, 0⟩ := by rw [hlf]; exact ⟨hm, by show 0 < 65536; decide, rfl⟩
      have leafJ : ∀ x a1 c1, Sub h2 x ∨ Keep S h x → Keep S h x → PgAt x pb jb db S n D P → NdVw x k' a1 c1 ⟨nd'.leaf, nd'.first, putL ⟨key, v, 0⟩ nd'.l⟩ → (∀ b, blkOf a1 b → ¬ S b) → InsJ pb jb db S n D P 0 id f t (kvPut key v (entsN (P.pgs D n) 0 nd')) (idsN (P.pgs D n) 0 nd') h k' x := by
        intro x a1 c1 _ kp Ex Nx nx
        refine ⟨P, _, a1, c1, Ex, kp, Nx, nx, ⟨fun e he => ?_, ok.first, ok.z⟩, ?_, ⟨hlf, putL_ok W.2 hf ht⟩, trivial, by rw [pn]; rfl, hid, nN, putL_kv _ _, Mv.refl _ _ _ _, Nat.le_refl _⟩
        · rcases putL_mem he with rfl | he
          · exact xo
          · exact ok.en e he
        · show Nd.base nd'.leaf + eszs nd'.leaf (putL ⟨key, v, 0⟩ nd'.l) ≤ if nd'.leaf = true then 1491 else 1091
          have h1 := putL_size nd'.leaf ⟨key, v, 0⟩ nd'.l
          have h2 := (esz_le xo).2
          rw [if_pos hlf] at h2 ⊢
          unfold Nd.size at hsz0
          omega
      refine split_eq (fun _ => place_spec No.ex srt (by omega) key fun h3 s3 => ⟨_, rfl, ?_⟩) fun e => absurd rfl e
      have s23 := s2.trans s3
      have N3 := No.vw.sub s3
      have O3 := No.own.sub s3
      have hat := kvAt_le key nd'.kv
      rw [nd'.kv_len] at hat
      rw [Int.toNat_natCast]
      have nput : kvIs key nd'.kv = false → ∀ K', (∀ h5, InsJ pb jb db S n D P 0 id f t (kvPut key v (entsN (P.pgs D n) 0 nd')) (idsN (P.pgs D n) 0 nd') h k' h5 → K' (.tuple #[]) h5) → CallsH Tryd.prog btree_node_put.id #[.pointer (some ⟨k', 0, none⟩), .int .i64 (kvAt key nd'.kv : Nat), .agg #[.string key, .string v, .int .i64 0]] h3 K' := fun hi K' hK' => by
        refine nput_spec N3 ⟨key, v, 0⟩ hat (by omega) fun h5 a5 c5 N5 k5 nb5 => hK' h5 ?_
        rw [show kvAt key nd'.kv = kvAt (En.key ⟨key, v, 0⟩) (nd'.l.map En.kv) from rfl, none_putL hi] at N5
        have kp : Keep S h h5 := fun c o hc hs => k5 c o (s23 c o hc) fun e => by rw [e, k0] at hc; cases hc
        exact leafJ h5 a5 c5 (.inr kp) kp ((E.sub s23).out k5 fun c hc e => nk (e ▸ hc)) N5 fun b hb => S_out E (s23.none (nb5 b hb))
      refine ⟨k', 0, rfl, _, _, _, N3.ex.c2, split_dec (fun g => ?_) fun g => ?_⟩
      · have g : ((kvAt key nd'.kv : Nat) : Int) < ((nd'.l.length : Nat) : Int) := g
        have he : nd'.l[kvAt key nd'.kv]? = some (nd'.l[kvAt key nd'.kv]'(by omega)) := List.getElem?_eq_getElem (by omega)
        generalize nd'.l[kvAt key nd'.kv]'(by omega) = en at he
        obtain ⟨b, o, ea, g0, g1, g2⟩ := N3.ex.get he
        refine ⟨k', 0, rfl, _, _, _, N3.ex.c2, by omega, g, b, o, ea, _, g0, split_beqS (fun ek => ?_) fun ek => nput ?_ _ fun h5 J => ⟨rfl, J⟩⟩
        · obtain ⟨b', ea', st, O'⟩ := O3.put enC_len he (by decide) (j := 0) (vs := enC ⟨key, v, 0⟩) (y := ⟨key, v, 0⟩) (by show 0 + 3 ≤ 3; decide) rfl
          have kpb := Keep.put (fun c => c = b') h3 (0 + kvAt key nd'.kv * 3 + 0) (enC ⟨key, v, 0⟩) rfl
          have hb0 : h b' = none := fra b' ⟨0, none, ea'⟩
          have hi : kvIs (En.key ⟨key, v, 0⟩) (nd'.l.map En.kv) = true := by
            unfold kvIs
            rw [show (nd'.l.map En.kv)[kvAt (En.key ⟨key, v, 0⟩) (nd'.l.map En.kv)]? = some en.kv from Nd.kv_get he]
            exact decide_eq_true ek
          rw [show kvAt key nd'.kv = kvAt (En.key ⟨key, v, 0⟩) (nd'.l.map En.kv) from rfl, set_putL hi] at O'
          have kp : Keep S h (h3.put b' (0 + kvAt key nd'.kv * 3 + 0) (enC ⟨key, v, 0⟩)) := fun c o hc hs => kpb c o (s23 c o hc) fun e => by rw [e, hb0] at hc; cases hc
          refine ⟨k', 0, rfl, _, _, _, N3.ex.c2, by omega, g, b', 0, ea', st, leafJ _ a c (.inr kp) kp ((E.sub s23).out kpb fun c hc e => na b' ⟨0, none, ea'⟩ (e ▸ hc)) ⟨?_, own_vw O', N3.ne⟩ na⟩
          have := N3.blk.keep kpb fun e => N3.ne b' ⟨0, none, ea'⟩ e.symm
          unfold ndC at this ⊢
          rw [show (Nd.l ⟨nd'.leaf, nd'.first, putL ⟨key, v, 0⟩ nd'.l⟩).length = nd'.l.length by
            show (putL ⟨key, v, 0⟩ nd'.l).length = _
            rw [← set_putL hi, List.length_set]]
          exact this
        · unfold kvIs
          rw [Nd.kv_get he]
          exact decide_eq_false ek
      · have g : ¬ ((kvAt key nd'.kv : Nat) : Int) < ((nd'.l.length : Nat) : Int) := g
        refine nput ?_ _ fun h5 J => ⟨rfl, J⟩
        unfold kvIs
        rw [List.getElem?_eq_none (by rw [nd'.kv_len]; omega)]
    | succ m =>
      have hlf : nd'.leaf = false := W.1
      rw [if_neg (by rw [hlf]; decide)]
      obtain ⟨l1, l2, K1, c', A⟩ := kid_at' hpk W hf ht
      have hbe := A.be
      have hkid := A.kid
      have hl := A.l
      rw [hbe] at hkid
      have hln : l1.length ≤ nd'.l.length := by rw [hl, List.length_append]; omega
      have nsub : (ids (P.pgs D n) m c'.2).Nodup := by
        have := nN
        rw [A.is, idsK_append, idsK_append, idsK_one] at this
        exact (List.nodup_append.1 (List.nodup_append.1 this).1).2.1
      have apart : ∀ {P1 : Pg} {I'}, Mv n D P P1 (idsN (P.pgs D n) (m + 1) nd') I' → P1.pgs D n id = some nd' ∧ id ∉ I' := fun M => by
        have ap := M.apart (R := [id]) fun i hi => by rw [List.mem_singleton.1 hi]; exact ⟨by rw [pn]; rfl, hid⟩
        exact ⟨(ap.1 id List.mem_cons_self).trans pn, ap.2 id List.mem_cons_self⟩
      have lift : ∀ {P1 : Pg} {I'}, Mv n D P P1 (idsN (P.pgs D n) (m + 1) nd') I' → Mv n D P P1 (id :: idsN (P.pgs D n) (m + 1) nd') (id :: I') := fun M =>
        M.lift (fun i hi => List.mem_cons_of_mem _ hi) (fun i hi => (List.mem_cons.1 hi).elim (fun e => .inr (e ▸ List.mem_cons_self)) .inl) (by simp only [List.length_cons]; omega)
      have naA := A.na F
      have esA : ∀ {X : List KV}, X = kvPut key v (ents (P.pgs D n) m c'.2) → (entsK (P.pgs D n) m K1).flatten ++ (X ++ (entsK (P.pgs D n) m (l2.map clE)).flatten) = kvPut key v (entsN (P.pgs D n) (m + 1) nd') := fun e => by
        rw [e, A.es, kvPut_right _ _ A.lt, kvPut_left _ _ A.gt]
      refine split_eq (fun e => by cases e) fun _ => below_spec No.ex srt (by omega) key fun h3 s3 => ⟨_, rfl, kid_spec (No.ex.sub s3) hkid ⟨_, rfl, Sub.refl _, ?_⟩⟩
      have s23 := s2.trans s3
      refine ih m (by omega) (E.sub s23) (Blk.sub T s23) A.tr nsub A.lo A.hi (by omega) (fun h4 P1 E4 k4 R => ?_) fun h4 P1 u e E4 k4 Bu u0 R => ?_
      · refine ⟨_, _, rfl, split_ne (fun e => absurd rfl e) fun _ => split_cond (fun _ => hN h4 P1 E4 ((s23.keep S).trans k4) ?_) fun e => by cases e⟩
        obtain ⟨W1, e1, n1, M1, len1⟩ := A.one W nN R.tr R.mv R.nd
        obtain ⟨pid, hid1⟩ := apart M1
        have rl := R.len
        refine ⟨TrS_iff.2 ⟨nd', pid, W1, ?_⟩, ?_, ?_, ?_, ?_⟩
        · show NA (entsK (P1.pgs D n) m (nd'.cl f))
          rw [e1, R.es]
          exact NA_mid (NA_left naA) (NA_tail (NA_right naA)) (kvPut_ne _ _)
        · rw [ents_N pid]
          show (entsK (P1.pgs D n) m (nd'.cl f)).flatten = _
          rw [e1, List.flatten_append, List.flatten_cons]
          exact esA R.es
        · rw [ids_N pid]; exact List.nodup_cons.2 ⟨hid1, n1⟩
        · rw [ids_N pid]; exact lift M1
        · rw [ids_N pid]; simp only [List.length_cons]; omega
      · have N4 := (No.vw.sub s3).keep k4 nk na
        have e1 : IntKind.i64.wrap (((kvBe key nd'.kv : Nat) : Int) - 1 + 1) = ((kvBe key nd'.kv : Nat) : Int) := by rw [wid (by omega) (by omega)]; omega
        refine ⟨_, _, rfl, split_ne (fun e => absurd rfl e) fun _ => split_cond (fun e => by cases e) fun _ => ⟨u, 0, rfl, _, Bu.cell' 0 rfl, _, Bu.cell' 1 rfl, _, Bu.cell' 2 rfl, ?_⟩⟩
        rw [e1]
        refine nput_spec N4 e (by omega) (by omega) fun h5 a5 c5 N5 k5 nb5 => ⟨rfl, ?_⟩
        have tk : nd'.l.take (kvBe key nd'.kv) = l1 := by rw [← hbe, hl, List.take_left]
        have dr : nd'.l.drop (kvBe key nd'.kv) = l2 := by rw [← hbe, hl, List.drop_left]
        rw [tk, dr] at N5
        obtain ⟨W1, e1, n1, M1, len1⟩ := A.two W nN R
        obtain ⟨pid, hid1⟩ := apart M1
        have k04 : Keep S h h4 := (s23.keep S).trans k4
        have kp : Keep S h h5 := fun c o hc hs => k5 c o (k04 c o hc hs) fun e => by rw [e, k0] at hc; cases hc
        refine ⟨P1, _, a5, c5, E4.out k5 fun c hc e => nk (e ▸ hc), kp, N5, fun b hb => S_out E4 (nb5 b hb), ⟨fun e' he' => ?_, ok.first, ok.z⟩, ?_, W1, ?_, by rw [pid]; rfl, hid1, n1, ?_, lift M1, len1⟩
        · show EnOk nd'.leaf e'
          rcases List.mem_append.1 he' with h | h
          · exact ok.en e' (by rw [hl]; exact List.mem_append_left _ h)
          · rcases List.mem_cons.1 h with rfl | h
            · rw [hlf]; exact R.ok
            · exact ok.en e' (by rw [hl]; exact List.mem_append_right _ h)
        · show Nd.base nd'.leaf + eszs nd'.leaf (l1 ++ e :: l2) ≤ if nd'.leaf = true then 1491 else 1091
          have h2 := (esz_le R.ok).2
          rw [if_neg (by decide)] at h2
          unfold Nd.size at hsz0
          rw [hl, eszs_append] at hsz0
          rw [eszs_append, eszs_cons, hlf, if_neg (by decide)]
          rw [hlf] at hsz0
          omega
        · show NA (entsK (P1.pgs D n) m (Nd.cl ⟨nd'.leaf, nd'.first, l1 ++ e :: l2⟩ f))
          rw [e1]
          exact NA_mid (NA_left naA) (NA_cons (NA_tail (NA_right naA)) R.ne2) R.ne
        · show (entsK (P1.pgs D n) m (Nd.cl ⟨nd'.leaf, nd'.first, l1 ++ e :: l2⟩ f)).flatten = _
          rw [e1, List.flatten_append, List.flatten_cons, List.flatten_cons, ← List.append_assoc (ents _ _ _)]
          exact esA R.es
end Go.Proofs.YthbogjbcecmopaaDoor
namespace Go.Proofs.YthbogjbcecmopaaDoor
open Go.Gx
set_option maxRecDepth 100000
set_option linter.unusedVariables false
variable {n : Nat} {D : Dk} {P P' : Pg} {h : Hp} {K : Value → Hp → Prop} {pb jb db : Nat} {S : Nat → Prop} {tb k : Nat}
theorem ppoint_ok (E : PgAt h pb jb db S n D P) {t j : Nat} (ht : t < 4) (hj : j = 0 ∨ P.why n (j : Nat) = 0) (hG : ∀ h', PgAt h' pb jb db S n D (P.point t j) → Step S h S h' → K (.int .i64 0) h') :
    CallsH Tryd.prog pager_Pager_Point.id #[.pointer (some ⟨pb, 0, none⟩), .int .i64 (t : Nat), .int .i64 (j : Nat)] h K := by
  have hn := E.n2
  apply pager_Pager_Point.calls
  unfold pager_Pager_Point.W
  refine split_dec (fun e => by omega) fun k0 => split_dec (fun e => by omega) fun k4 => ⟨fun x => x = h, ?_, split_ne (fun e => puse_spec E _ ⟨_, rfl, split_ne (fun e2 => ?_) fun e0 => rfl⟩) fun e => rfl⟩
  · rintro x rfl
    have idx : 0 + 134 + 1 + ((t : Nat) : Int).toNat * 1 = 134 + 1 + t := by rw [Int.toNat_natCast]; omega
    rw [idx]
    obtain ⟨S0, mb, pa, pc, Q, e⟩ := E.ex
    have B2 := e.blk.put (134 + 1 + t) [.int .i64 ((j : Nat) : Int)]
    rw [pgC_setR _ _ ht] at B2
    have kp : Keep (fun c => c = pb ∨ c = mb) x (x.put pb (134 + 1 + t) [.int .i64 ((j : Nat) : Int)]) := Keep.put _ x _ _ (.inl rfl)
    have hmpb : mb ≠ pb := e.d.ne e.blk
    obtain ⟨e', st⟩ := e.put (now' := { P.now with r := upR P.now.r t j }) (d' := P.d) kp B2 (e.d.keep (Keep.put (fun c => c = pb) x _ _ rfl) hmpb)
    have hj2 : j < 128 ∧ (j ≠ 0 → P.now.u j = true) := by
      rcases hj with rfl | hj
      · exact ⟨by decide, fun h => absurd rfl h⟩
      · obtain ⟨j', ej, h1, h2, h3⟩ := why_ok hj
        have : j = j' := by omega
        subst this
        exact ⟨by omega, fun _ => h3⟩
    exact ⟨by omega, by omega, e.blk.store (by rw [pgC_len]; show 134 + 1 + t + 1 ≤ 269; omega), hG _ ⟨⟨S0, mb, pa, pc, Q, e'⟩, E.ok.put (E.ok.now.point hj2.1 hj2.2) E.ok.d, E.up⟩ st⟩
  · rcases hj with rfl | hj
    · exact absurd rfl e
    · exact absurd hj e2
def TreeS (pg : Nat → Option Nd) (root : Nat) (hg : Nat) (L : List KV) (I : List Nat) : Prop := match hg with
  | 0 => root = 0 ∧ L = [] ∧ I = []
  | m + 1 => root ≠ 0 ∧ TrS pg m root eB eB ∧ L = ents pg m root ∧ I = ids pg m root ∧ I.Nodup ∧ L ≠ []
theorem TreeS.tree {pg : Nat → Option Nd} {root hg : Nat} {L : List KV} {I : List Nat} (T : TreeS pg root hg L I) : Tree pg root hg L I := by
  cases hg with
  | zero => exact T
  | succ m => exact ⟨T.1, T.2.1.tr, T.2.2.1, T.2.2.2.1, T.2.2.2.2.1⟩
theorem TreeS.frame {pg pg' : Nat → Option Nd} {root hg : Nat} {L : List KV} {I : List Nat} (T : TreeS pg root hg L I) (H : ∀ i ∈ I, pg' i = pg i) : TreeS pg' root hg L I := by
  cases hg with
  | zero => exact T
  | succ m =>
    obtain ⟨h1, h2, h3, h4, h5⟩ := T
    rw [h4] at H
    obtain ⟨g1, g2, g3⟩ := h2.tr.frame H
    exact ⟨h1, h2.frame H, h3.trans g2.symm, h4.trans g3.symm, h5⟩
theorem TreeS.used {root hg : Nat} {L : List KV} {I : List Nat} (T : TreeS (P.pgs D n) root hg L I) : ∀ i ∈ I, (P.pgs D n i).isSome = true := by
  cases hg with
  | zero => intro i hi; rw [T.2.2] at hi; cases hi
  | succ m => intro i hi; rw [T.2.2.2.1] at hi; exact T.2.1.in_pg hi
structure MvT (n : Nat) (D : Dk) (k : Nat) (P P' : Pg) (I I' : List Nat) : Prop where
  good : P'.good = P.good
  pts : P'.pts = P.pts
  ser : P'.now.s = P.now.s
  roots : ∀ t, t ≠ k → P'.now.r t = P.now.r t
  out : ∀ i, P.now.u i = true → i ∉ I → P'.now.u i = true ∧ P'.pgs D n i = P.pgs D n i
  new : ∀ i ∈ I', i ∈ I ∨ P.now.u i = false
  free : P'.freeN n + I'.length = P.freeN n + I.length
theorem Mv.t {I I' : List Nat} (M : Mv n D P P' I I') (k : Nat) : MvT n D k P P' I I' := ⟨M.good, M.pts, M.ser, fun t _ => by rw [M.roots], M.out, M.new, M.free⟩
theorem MvT.trans {P2 : Pg} {I I1 I2 : List Nat} (a : MvT n D k P P' I I1) (b : MvT n D k P' P2 I1 I2) : MvT n D k P P2 I I2 := by
  have no : ∀ i, P.now.u i = true → i ∉ I → i ∉ I1 := fun i h1 h2 h3 => (a.new i h3).elim h2 fun h => by rw [h1] at h; cases h
  refine ⟨b.good.trans a.good, b.pts.trans a.pts, b.ser.trans a.ser, fun t ht => (b.roots t ht).trans (a.roots t ht), fun i h1 h2 => ?_, fun i hi => ?_, ?_⟩
  · obtain ⟨g1, g2⟩ := a.out i h1 h2
    obtain ⟨g3, g4⟩ := b.out i g1 (no i h1 h2)
    exact ⟨g3, g4.trans g2⟩
  · rcases b.new i hi with h | h
    · exact a.new i h
    · by_cases h1 : P.now.u i = true
      · by_cases h2 : i ∈ I
        · exact .inl h2
        · rw [(a.out i h1 h2).1] at h; cases h
      · exact .inr (by simpa using h1)
  · have := a.free
    have := b.free
    omega
theorem upR_same (r : Nat → Nat) (k i : Nat) : upR r k i k = i := if_pos rfl
theorem MvT.point (k i : Nat) (I : List Nat) : MvT n D k P (P.point k i) I I := ⟨rfl, rfl, rfl, fun t ht => if_neg ht, fun j h _ => ⟨h, rfl⟩, fun j h => .inl h, rfl⟩
theorem MvT.apart {I I' R : List Nat} (M : MvT n D k P P' I I') (hR : ∀ i ∈ R, (P.pgs D n i).isSome = true ∧ i ∉ I) : (∀ i ∈ R, P'.pgs D n i = P.pgs D n i) ∧ ∀ i ∈ R, i ∉ I' := by
  refine ⟨fun i hi => (M.out i (pgs_used (hR i hi).1) (hR i hi).2).2, fun i hi h => ?_⟩
  rcases M.new i h with h | h
  · exact (hR i hi).2 h
  · rw [pgs_used (hR i hi).1] at h; cases h
theorem ids_len {pg : Nat → Option Nd} : ∀ {m id : Nat} {f t : ByteArray}, Tr pg m id f t → m + 1 ≤ (ids pg m id).length
  | 0, _, _, _, _ => Nat.le_refl _
  | m + 1, id, f, t, ⟨nd, h1, h2, h3, h4⟩ => by
    have := ids_len (h4 0 nd.first rfl)
    show m + 2 ≤ (id :: (kidsOf pg id).flatMap (ids pg m)).length
    rw [kidsOf_eq h1]
    show m + 2 ≤ (id :: (nd.first :: nd.l.map En.kid).flatMap (ids pg m)).length
    rw [List.length_cons, List.flatMap_cons, List.length_append]
    omega
theorem TreeS.high {root hg : Nat} {L : List KV} {I : List Nat} (T : TreeS (P.pgs D n) root hg L I) : hg ≤ I.length ∧ I.length ≤ n := by
  cases hg with
  | zero => rw [T.2.2]; exact ⟨Nat.le_refl _, Nat.zero_le _⟩
  | succ m =>
    obtain ⟨h1, h2, h3, h4, h5, h6⟩ := T
    refine ⟨by rw [h4]; exact ids_len h2.tr, nodup_below n I h5 fun i hi => (pgs_lt (D := D) (P := P) ?_).2⟩
    rw [h4] at hi
    exact h2.in_pg hi
theorem one_node {x : Hp} {k1 k2 : Nat} {nd : Nd} {e : En} (hl : nd.l = [e]) (B1 : Blk x k1 77 (enC e)) (B2 : Blk x k2 69 [.int .i64 (nd.kind : Nat), .int .i64 (nd.first : Nat), .slice (some ⟨k1, 0, none⟩) 1 1]) : NdEx x k2 (some ⟨k1, 0, none⟩) 1 nd := by
  refine ⟨?_, ?_, by rw [hl]; exact Nat.le_refl _, fun b ⟨o, s, e'⟩ e2 => ?_⟩
  · unfold ndC
    rw [hl]; exact B2
  · rw [hl]
    exact RowAt.blk (by rw [rowC_one]; exact B1) enC_len
  · cases e'
    subst e2
    exact absurd (B1.inj B2).1 (by decide)
set_option maxHeartbeats 4000000 in
theorem put_spec (E : PgAt h pb jb db S n D P) (T : TrAt h tb pb k) (nt : ¬ S tb) (hk : k < 4) {hg : Nat} {L : List KV} {I : List Nat} (TT : TreeS (P.pgs D n) (P.now.r k) hg L I) (key v : ByteArray) (hB : may key v = false → K (.int .i64 1) h) (hF : may key v = true → P.freeN n < hg + 1 → ∀ h', Sub h h' → K (.int .i64 5) h')
    (hG : may key v = true → hg + 1 ≤ P.freeN n → ∀ h' P' hg' I', PgAt h' pb jb db S n D P' → Keep S h h' → TreeS (P'.pgs D n) (P'.now.r k) hg' (kvPut key v L) I' → MvT n D k P P' I I' → I'.length ≤ I.length + hg + 1 → K (.int .i64 0) h') :
    CallsH Tryd.prog btree_Tree_Put.id #[.pointer (some ⟨tb, 0, none⟩), .string key, .string v] h K := by
  have hn := E.n2
  have hhg : hg ≤ 128 := by have := TT.high; omega
  have hfl := freeN_le P n
  apply btree_Tree_Put.calls
  unfold btree_Tree_Put.W
  refine may_spec key v ⟨_, rfl, split_not (fun hm => hB hm) fun hm => ⟨_, T.cell' 0 rfl, free_spec E ⟨_, rfl, height_spec E T hk TT.tree (by omega) fun h9 s9 => ⟨_, rfl, ?_⟩⟩⟩⟩
  have e1 : IntKind.i64.wrap ((hg : Int) + 1) = ((hg + 1 : Nat) : Int) := by rw [wid (by omega) (by omega)]; omega
  rw [e1]
  refine split_dec (fun g => hF hm (by omega) h9 s9) fun g => ?_
  have hG := hG hm (by omega)
  have E9 := E.sub s9
  have T9 : TrAt h9 tb pb k := Blk.sub T s9
  have ks := may_key64 hm
  have vs : v.size ≤ 400 := by
    unfold may at hm
    have := of_decide_eq_true hm
    omega
  refine ⟨_, T9.cell' 0 rfl, _, T9.cell' 1 rfl, root_spec E9 hk ⟨_, rfl, split_eq (fun e0 => ?_) fun e0 => ?_⟩⟩
  · cases hg with
    | succ m => exact absurd (by omega) TT.1
    | zero =>
      obtain ⟨_, rfl, rfl⟩ := TT
      refine ⟨_, T9.cell' 0 rfl, alloc_spec E9 (fun H => absurd H (free_some E9 (by omega))) fun i i1 i2 i3 _ h3 E3 st3 => ⟨_, _, rfl, split_ne (fun e => absurd rfl e) fun _ => fun k21 hk21 k22 hk22 => ?_⟩⟩
      have T3 : TrAt h3 tb pb k := Blk.keep T9 st3.1 nt
      have hx : setL [Value.string (bytesL []), .string (bytesL []), .int .i64 0] 0 (setL (setL [Value.string (bytesL []), .string (bytesL []), .int .i64 0] 0 [.string key]) 1 [.string v]) = enC ⟨key, v, 0⟩ := rfl
      rw [hx] at hk22
      have hx2 : #[Value.string key, .string v, .int .i64 0] = (enC ⟨key, v, 0⟩).toArray := rfl
      rw [hx2]
      have B21 := (Blk.new h3 k21 77 (enC ⟨key, v, 0⟩)).upd hk22 (.cells [Value.int .i64 1, .int .i64 0, .slice (some ⟨k21, 0, none⟩) 1 1].toArray 69 (0, 0))
      have B22 := Blk.new (h3.upd k21 (.cells (enC ⟨key, v, 0⟩).toArray 77 (0, 0))) k22 69 [.int .i64 1, .int .i64 0, .slice (some ⟨k21, 0, none⟩) 1 1]
      have s22 := (Sub.upd hk21 (.cells (enC ⟨key, v, 0⟩).toArray 77 (0, 0))).trans (Sub.upd hk22 (.cells [Value.int .i64 1, .int .i64 0, .slice (some ⟨k21, 0, none⟩) 1 1].toArray 69 (0, 0)))
      generalize (h3.upd k21 (.cells (enC ⟨key, v, 0⟩).toArray 77 (0, 0))).upd k22 (.cells [Value.int .i64 1, .int .i64 0, .slice (some ⟨k21, 0, none⟩) 1 1].toArray 69 (0, 0)) = y at B21 B22 s22 ⊢
      have N : NdEx y k22 _ 1 ⟨true, 0, [⟨key, v, 0⟩]⟩ := one_node rfl B21 B22
      have o : NdOk ⟨true, 0, [⟨key, v, 0⟩]⟩ := by
        refine ⟨fun e he => ?_, by show 0 < 65536; decide, ?_, fun _ => rfl⟩
        · rw [List.mem_singleton.1 he]; exact ⟨hm, by show 0 < 65536; decide, rfl⟩
        · show 3 + (3 + key.size + v.size + 0) ≤ 1024
          omega
      have hw : (P.alloc i).why n (i : Nat) = 0 := why_i i1 i2 (upU_same _ _ _)
      refine store_spec (E3.sub s22) (Blk.sub T3 s22) N o hw fun h4 E4 k4 => ⟨rfl, ?_⟩
      have T4 : TrAt h4 tb pb k := Blk.keep (Blk.sub T3 s22) k4 nt
      refine ⟨_, T4.cell' 0 rfl, _, T4.cell' 1 rfl, ppoint_ok E4 hk (.inr hw) fun h5 E5 st5 => ⟨_, rfl, ?_⟩⟩
      have pi : ((P.alloc i).write i (pageB ⟨true, 0, [⟨key, v, 0⟩]⟩)).pgs D n i = some ⟨true, 0, [⟨key, v, 0⟩]⟩ := pgs_write_same hw o
      refine hG h5 _ 1 [i] E5 ((s9.keep S).trans (st3.1.trans ((s22.keep S).trans (k4.trans st5.1)))) ⟨?_, ⟨⟨true, 0, [⟨key, v, 0⟩]⟩, ?_, rfl, ?_⟩, ?_, ?_, by simp, kvPut_ne _ _⟩ ?_ (by show 1 ≤ 0 + 0 + 1; decide)
      · rw [show ((((P.alloc i).write i (pageB ⟨true, 0, [⟨key, v, 0⟩]⟩)).point k i).now.r k) = i from upR_same _ _ _]; omega
      · rw [show ((((P.alloc i).write i (pageB ⟨true, 0, [⟨key, v, 0⟩]⟩)).point k i).now.r k) = i from upR_same _ _ _]; exact pi
      · exact keysOk_iff.2 ⟨fun e he => by rw [List.mem_singleton.1 he]; exact ⟨blt_eB key, fun h => absurd rfl h⟩, List.pairwise_singleton _ _⟩
      · rw [show ((((P.alloc i).write i (pageB ⟨true, 0, [⟨key, v, 0⟩]⟩)).point k i).now.r k) = i from upR_same _ _ _]
        exact (ents_N (m := 0) pi).symm
      · rw [show ((((P.alloc i).write i (pageB ⟨true, 0, [⟨key, v, 0⟩]⟩)).point k i).now.r k) = i from upR_same _ _ _]; rfl
      · exact (((Mv.alloc i2 i3 []).trans (Mv.write List.mem_cons_self _)).t k).trans (MvT.point k i [i])
  · cases hg with
    | zero => exact absurd (by rw [TT.1]; rfl) e0
    | succ m =>
      obtain ⟨r0, T0, rfl, rfl, nI, _⟩ := TT
      refine insert_spec nt hm m E9 T9 T0 nI (blt_eB key) (fun h => absurd rfl h) (by omega) (fun h4 P1 E4 k4 R => ⟨_, _, rfl, split_ne (fun e => absurd rfl e) fun _ => split_cond (fun _ => ?_) fun e => by cases e⟩) fun h4 P1 u e E4 k4 Bu u0 R => ⟨_, _, rfl, split_ne (fun e => absurd rfl e) fun _ => split_cond (fun e => by cases e) fun _ => ?_⟩
      · refine hG h4 P1 (m + 1) _ E4 ((s9.keep S).trans k4) ⟨?_, ?_, ?_, rfl, ?_, kvPut_ne _ _⟩ ?_ ?_
        · rw [R.mv.roots]; exact r0
        · rw [R.mv.roots]; exact R.tr
        · rw [R.mv.roots]; exact R.es.symm
        · rw [R.mv.roots]; exact R.nd
        · rw [R.mv.roots]; exact R.mv.t k
        · rw [R.mv.roots]; have := R.len; omega
      · have fr := R.mv.free
        have rl := R.len
        have T4 : TrAt h4 tb pb k := Blk.keep T9 k4 nt
        refine ⟨_, T4.cell' 0 rfl, alloc_spec E4 (fun H => absurd H (free_some E4 (by omega))) fun i i1 i2 i3 _ h3 E3 st3 => ⟨_, _, rfl, split_ne (fun e => absurd rfl e) fun _ => ?_⟩⟩
        have T3 : TrAt h3 tb pb k := Blk.keep T4 st3.1 nt
        have nu : ¬ S u := S_out E9 u0
        have B3 := Bu.keep st3.1 nu
        refine ⟨u, 0, rfl, _, B3.cell' 0 rfl, _, B3.cell' 1 rfl, _, B3.cell' 2 rfl, fun k21 hk21 k22 hk22 => ?_⟩
        have hx : setL [Value.string (bytesL []), .string (bytesL []), .int .i64 0] 0 [.string e.key, .string e.val, .int .i64 (e.kid : Nat)] = enC e := rfl
        rw [hx] at hk22
        have hx2 : #[Value.string e.key, .string e.val, .int .i64 (e.kid : Nat)] = (enC e).toArray := rfl
        rw [hx2]
        have B21 := (Blk.new h3 k21 77 (enC e)).upd hk22 (.cells [Value.int .i64 2, .int .i64 (P.now.r k : Nat), .slice (some ⟨k21, 0, none⟩) 1 1].toArray 69 (0, 0))
        have B22 := Blk.new (h3.upd k21 (.cells (enC e).toArray 77 (0, 0))) k22 69 [.int .i64 2, .int .i64 (P.now.r k : Nat), .slice (some ⟨k21, 0, none⟩) 1 1]
        have s22 := (Sub.upd hk21 (.cells (enC e).toArray 77 (0, 0))).trans (Sub.upd hk22 (.cells [Value.int .i64 2, .int .i64 (P.now.r k : Nat), .slice (some ⟨k21, 0, none⟩) 1 1].toArray 69 (0, 0)))
        generalize (h3.upd k21 (.cells (enC e).toArray 77 (0, 0))).upd k22 (.cells [Value.int .i64 2, .int .i64 (P.now.r k : Nat), .slice (some ⟨k21, 0, none⟩) 1 1].toArray 69 (0, 0)) = y at B21 B22 s22 ⊢
        have N : NdEx y k22 _ 1 ⟨false, P.now.r k, [e]⟩ := one_node rfl B21 B22
        have rb := (E.ok.now.roots k hk).1
        have o : NdOk ⟨false, P.now.r k, [e]⟩ := by
          refine ⟨fun e' he => ?_, by show P.now.r k < 65536; omega, ?_, fun h => by cases h⟩
          · rw [List.mem_singleton.1 he]; exact R.ok
          · have := (esz_le R.ok).2
            rw [if_neg (by decide)] at this
            show 5 + (Nd.esz false e + 0) ≤ 1024
            omega
        have hw : (P1.alloc i).why n (i : Nat) = 0 := why_i i1 i2 (upU_same _ _ _)
        refine store_spec (E3.sub s22) (Blk.sub T3 s22) N o hw fun h5 E5 k5 => ⟨rfl, ?_⟩
        have T5 : TrAt h5 tb pb k := Blk.keep (Blk.sub T3 s22) k5 nt
        refine ⟨_, T5.cell' 0 rfl, _, T5.cell' 1 rfl, ppoint_ok E5 hk (.inr hw) fun h6 E6 st6 => ⟨_, rfl, ?_⟩⟩
        have pi : ((P1.alloc i).write i (pageB ⟨false, P.now.r k, [e]⟩)).pgs D n i = some ⟨false, P.now.r k, [e]⟩ := pgs_write_same hw o
        have W1 : Fw (P1.pgs D n) (m + 1) ⟨false, P.now.r k, [e]⟩ eB eB := ⟨rfl, ⟨keysOk_iff.2 ⟨fun e' he => by rw [List.mem_singleton.1 he]; exact ⟨blt_eB _, fun h => absurd rfl h⟩, List.pairwise_singleton _ _⟩, fun e' he => by rw [List.mem_singleton.1 he]; exact R.lo⟩, R.tr, R.tr2, trivial⟩
        have F1 : Fn (P1.pgs D n) (m + 1) ⟨false, P.now.r k, [e]⟩ := ⟨fun h => R.ne h.1, trivial⟩
        have iN : idsN (P1.pgs D n) (m + 1) ⟨false, P.now.r k, [e]⟩ = ids (P1.pgs D n) m (P.now.r k) ++ ids (P1.pgs D n) m e.kid := by
          show idsK (P1.pgs D n) m [(eB, P.now.r k), clE e] = _
          unfold idsK; simp [clE]
        have eN : entsN (P1.pgs D n) (m + 1) ⟨false, P.now.r k, [e]⟩ = ents (P1.pgs D n) m (P.now.r k) ++ ents (P1.pgs D n) m e.kid := by
          show (entsK (P1.pgs D n) m [(eB, P.now.r k), clE e]).flatten = _
          unfold entsK; simp [clE]
        have ni : ∀ j ∈ idsN (P1.pgs D n) (m + 1) ⟨false, P.now.r k, [e]⟩, j ≠ i := fun j hj ej => by
          have := pgs_used (W1.in_pg hj)
          rw [ej, i3] at this; cases this
        obtain ⟨g1, g2, g3⟩ := TrS.put (pg' := ((P1.alloc i).write i (pageB ⟨false, P.now.r k, [e]⟩)).pgs D n) W1 F1 pi fun j hj => (pgs_write_ne (ni j hj)).trans (pgs_alloc_ne (ni j hj))
        have er : (((P1.alloc i).write i (pageB ⟨false, P.now.r k, [e]⟩)).point k i).now.r k = i := upR_same _ _ _
        refine hG h6 _ (m + 2) (i :: (ids (P1.pgs D n) m (P.now.r k) ++ ids (P1.pgs D n) m e.kid)) E6 ((s9.keep S).trans (k4.trans (st3.1.trans ((s22.keep S).trans (k5.trans st6.1))))) ⟨?_, ?_, ?_, ?_, ?_, kvPut_ne _ _⟩ ?_ ?_
        · rw [er]; omega
        · rw [er]; exact g1
        · rw [er]; exact (g2.trans (eN.trans R.es)).symm
        · rw [er, ← iN]; exact g3.symm
        · exact List.nodup_cons.2 ⟨fun hi => ni i (iN ▸ hi) rfl, R.nd⟩
        · exact ((R.mv.trans ((Mv.alloc i2 i3 _).trans (Mv.write List.mem_cons_self _))).t k).trans (MvT.point k i _)
        · rw [List.length_cons]; omega
end Go.Proofs.YthbogjbcecmopaaDoor
namespace Go.Proofs.YthbogjbcecmopaaDoor
open Go.Gx
set_option maxRecDepth 100000
set_option linter.unusedVariables false
variable {n : Nat} {D : Dk} {P P' : Pg} {h : Hp} {K : Value → Hp → Prop} {pb jb db : Nat} {S : Nat → Prop} {tb k : Nat}
theorem keysS_sub {f t : ByteArray} {l l' : List En} (h : keysS f t l) (s : l'.Sublist l) : keysS f t l' := by
  obtain ⟨h1, h2⟩ := keysOk_iff.1 h.1
  exact ⟨keysOk_iff.2 ⟨fun e he => h1 e (s.subset he), List.Pairwise.sublist (s.map _) h2⟩, fun e he => h.2 e (s.subset he)⟩
structure JoinAt (n : Nat) (D : Dk) (P P' : Pg) (m : Nat) (t : ByteArray) (c : Cl) (e : En) (l2 : List En) : Prop where
  tr : TrS (P'.pgs D n) m c.2 c.1 (hdK t (l2.map clE))
  es : ents (P'.pgs D n) m c.2 = ents (P.pgs D n) m c.2 ++ ents (P.pgs D n) m e.kid
  nd : (ids (P'.pgs D n) m c.2).Nodup
  mv : Mv n D P P' (ids (P.pgs D n) m c.2 ++ ids (P.pgs D n) m e.kid) (ids (P'.pgs D n) m c.2)
  fr : P.freeN n ≤ P'.freeN n
theorem join_up {m : Nat} {lf : Bool} {fi : Nat} {l1 l2 : List En} {e : En} {f t : ByteArray} {K1 : List Cl} {c : Cl} (hcl : ∀ l, Nd.cl ⟨lf, fi, l1 ++ l⟩ f = K1 ++ c :: l.map clE) (h : Fw (P.pgs D n) (m + 1) ⟨lf, fi, l1 ++ e :: l2⟩ f t) (nN : (idsN (P.pgs D n) (m + 1) ⟨lf, fi, l1 ++ e :: l2⟩).Nodup) (R : JoinAt n D P P' m t c e l2) :
    Fw (P'.pgs D n) (m + 1) ⟨lf, fi, l1 ++ l2⟩ f t ∧ entsK (P'.pgs D n) m (Nd.cl ⟨lf, fi, l1 ++ l2⟩ f) = entsK (P.pgs D n) m K1 ++ (ents (P.pgs D n) m c.2 ++ ents (P.pgs D n) m e.kid) :: entsK (P.pgs D n) m (l2.map clE) ∧ (idsN (P'.pgs D n) (m + 1) ⟨lf, fi, l1 ++ l2⟩).Nodup ∧
      Mv n D P P' (idsN (P.pgs D n) (m + 1) ⟨lf, fi, l1 ++ e :: l2⟩) (idsN (P'.pgs D n) (m + 1) ⟨lf, fi, l1 ++ l2⟩) := by
  have hc := h.2.2
  have ec : Nd.cl ⟨lf, fi, l1 ++ e :: l2⟩ f = K1 ++ [c, clE e] ++ l2.map clE := by rw [hcl, List.append_assoc]; rfl
  have ec2 : Nd.cl ⟨lf, fi, l1 ++ l2⟩ f = K1 ++ [c] ++ l2.map clE := by rw [hcl, List.append_assoc]; rfl
  have nN' : (idsK (P.pgs D n) m (Nd.cl ⟨lf, fi, l1 ++ e :: l2⟩ f)).Nodup := nN
  rw [ec] at hc nN'
  have i2 : idsK (P.pgs D n) m [c, clE e] = ids (P.pgs D n) m c.2 ++ ids (P.pgs D n) m e.kid := by unfold idsK; simp [clE]
  have M := R.mv
  rw [← idsK_one (P'.pgs D n) m c, ← i2] at M
  obtain ⟨g1, g2, g3, g4, g5⟩ := ChS.repl (X' := [c]) hc nN' M ⟨R.tr, trivial⟩ rfl (by rw [idsK_one]; exact R.nd)
  have g4' : Mv n D P P' (idsK (P.pgs D n) m (Nd.cl ⟨lf, fi, l1 ++ e :: l2⟩ f)) (idsK (P'.pgs D n) m (Nd.cl ⟨lf, fi, l1 ++ l2⟩ f)) := by rw [ec, ec2]; exact g4
  rw [← ec2] at g1 g2 g3
  refine ⟨⟨h.1, keysS_sub h.2.1 (List.Sublist.append_left (List.sublist_cons_self _ _) _), g1⟩, ?_, g3, g4'⟩
  rw [g2, List.append_assoc]
  show _ ++ ([ents (P'.pgs D n) m c.2] ++ _) = _
  rw [R.es]; rfl
theorem kid_spec' {kk : Nat} {a : Option Addr} {c : Nat} {nd : Nd} (N : NdEx h kk a c nd) {j id : Nat} (hj : nd.kids[j + 1]? = some id) (hK : K (.int .i64 (id : Nat)) h) : CallsH Tryd.prog btree_node_kid.id #[.pointer (some ⟨kk, 0, none⟩), .int .i64 (j : Nat)] h K := by
  have e : ((j : Nat) : Int) = ((j + 1 : Nat) : Int) - 1 := by omega
  rw [e]
  exact kid_spec N hj hK
theorem join_out {kk : Nat} {a : Option Addr} {c : Nat} {nd : Nd} (N : NdEx h kk a c nd) (hl : nd.l.length < 65536) (i : Int) (hi : i < -1 ∨ (i + 1 ≥ nd.l.length ∧ i < 70000)) (hK : K (.bool false) h) : CallsH Tryd.prog btree_Tree_join.id #[.pointer (some ⟨tb, 0, none⟩), .pointer (some ⟨kk, 0, none⟩), .int .i64 i] h K := by
  apply btree_Tree_join.calls
  unfold btree_Tree_join.W
  refine split_dec (fun _ => hK) fun g => ⟨_, _, _, N.c2, ?_⟩
  rw [wid (by omega) (by omega)]
  refine split_dec (fun _ => hK) fun g2 => absurd ?_ g2
  show i + 1 ≥ ((nd.l.length : Nat) : Int)
  omega
def JoinJ (pb jb db : Nat) (S : Nat → Prop) (n : Nat) (D : Dk) (P : Pg) (m : Nat) (f t : ByteArray) (L : List KV) (I : List Nat) (h : Hp) (k' : Nat) (x : Hp) : Prop :=
  ∃ P1 nd1 a1 c1, PgAt x pb jb db S n D P1 ∧ Keep S h x ∧ NdEx x k' a1 c1 nd1 ∧ Fw (P1.pgs D n) m nd1 f t ∧ Fn (P1.pgs D n) m nd1 ∧ NdOk nd1 ∧ entsN (P1.pgs D n) m nd1 = L ∧ Mv n D P P1 I (idsN (P1.pgs D n) m nd1) ∧ (idsN (P1.pgs D n) m nd1).Nodup ∧ P.freeN n ≤ P1.freeN n
def midL (a : Nd) (s : ByteArray) (b : Nd) : List En := if a.leaf then a.l else a.l ++ [⟨s, eB, b.first⟩]
theorem midL_merge (a b : Nd) (s : ByteArray) : midL a s b ++ b.l = (mergeN a s b).l := by
  unfold midL mergeN
  cases a.leaf with
  | true => rfl
  | false => show (a.l ++ [_]) ++ b.l = a.l ++ _ :: b.l; rw [List.append_assoc]; rfl
set_option maxHeartbeats 8000000 in
theorem join_spec (nt : ¬ S tb) (m : Nat) : ∀ {h : Hp} {K : Value → Hp → Prop} {P : Pg} {kk : Nat} {a : Option Addr} {c : Nat} {lf : Bool} {fi : Nat} {l1 l2 : List En} {e : En} {f t : ByteArray} {K1 : List Cl} {cc : Cl}, PgAt h pb jb db S n D P → TrAt h tb pb k → NdVw h kk a c ⟨lf, fi, l1 ++ e :: l2⟩ → ¬ S kk → (∀ b, blkOf a b → ¬ S b) →
    NdOk ⟨lf, fi, l1 ++ e :: l2⟩ → Fw (P.pgs D n) (m + 1) ⟨lf, fi, l1 ++ e :: l2⟩ f t → (idsN (P.pgs D n) (m + 1) ⟨lf, fi, l1 ++ e :: l2⟩).Nodup → (∀ t, t < 4 → P.now.r t ∉ idsN (P.pgs D n) (m + 1) ⟨lf, fi, l1 ++ e :: l2⟩) →
    (∀ l, Nd.cl ⟨lf, fi, l1 ++ l⟩ f = K1 ++ cc :: l.map clE) → (∀ l, (Nd.kids ⟨lf, fi, l1 ++ l⟩)[l1.length]? = some cc.2) →
    (∀ h', Sub h h' → ¬ (ents (P.pgs D n) m cc.2 = [] ∧ ents (P.pgs D n) m e.kid = []) → K (.bool false) h') →
    (∀ h' P' a' c', PgAt h' pb jb db S n D P' → Keep (fun b => S b ∨ b = kk) h h' → NdVw h' kk a' c' ⟨lf, fi, l1 ++ l2⟩ → (∀ b, blkOf a' b → ¬ S b) → JoinAt n D P P' m t cc e l2 → K (.bool true) h') →
    CallsH Tryd.prog btree_Tree_join.id #[.pointer (some ⟨tb, 0, none⟩), .pointer (some ⟨kk, 0, none⟩), .int .i64 ((l1.length : Nat) - 1 : Int)] h K := by
  induction m using Nat.strongRecOn with
  | ind m ih =>
  intro h K P kk a c lf fi l1 l2 e f t K1 cc E T N nk na o W nN nr hcl hkid hF hT
  have hn := E.n2
  have hpk := pgs_ok E
  have ll := o.len
  have ll : 4 * (l1 ++ e :: l2).length ≤ 1024 := ll
  rw [List.length_append, List.length_cons] at ll
  have e1 : IntKind.i64.wrap (((l1.length : Nat) : Int) - 1 + 1) = ((l1.length : Nat) : Int) := by rw [wid (by omega) (by omega)]; omega
  have e2 : IntKind.i64.wrap (((l1.length : Nat) : Int) - 1 + 2) = ((l1.length + 1 : Nat) : Int) := by rw [wid (by omega) (by omega)]; omega
  have hk1 : (Nd.kids ⟨lf, fi, l1 ++ e :: l2⟩)[l1.length + 1]? = some e.kid := by
    unfold Nd.kids
    show (fi :: List.map En.kid (l1 ++ e :: l2))[l1.length + 1]? = _
    rw [List.getElem?_cons_succ, List.map_append, List.getElem?_append_right (by rw [List.length_map]; exact Nat.le_refl _), List.length_map, Nat.sub_self]; rfl
  -- the two pages
  have hch := W.2.2
  have hks := W.2.1
  have hK1 := hcl (e :: l2)
  rw [hK1] at hch
  obtain ⟨_, q1, q2, _⟩ := ChP_append.1 hch
  have q1 : TrS (P.pgs D n) m cc.2 cc.1 e.key := q1
  have q2 : TrS (P.pgs D n) m e.kid e.key (hdK t (l2.map clE)) := q2
  obtain ⟨a0, pa, Wa, Fa⟩ := TrS_iff.1 q1
  obtain ⟨b0, pb0, Wb, Fb⟩ := TrS_iff.1 q2
  have oa := hpk _ a0 pa
  have ob := hpk _ b0 pb0
  have hlf : a0.leaf = b0.leaf := by
    cases m with
    | zero => rw [Wa.1, Wb.1]
    | succ m => rw [Wa.1, Wb.1]
  have he : EnOk lf e := o.en e (List.mem_append_right _ List.mem_cons_self)
  have hs64 := may_key64 he.1
  have cs : blt cc.1 e.key = true := by
    have hsl := cl_sorted (lf := lf) (fi := fi) hks
    rw [show Nd.cl ⟨lf, fi, Nd.l ⟨lf, fi, l1 ++ e :: l2⟩⟩ f = Nd.cl ⟨lf, fi, l1 ++ e :: l2⟩ f from rfl, hK1] at hsl
    exact (List.pairwise_cons.1 (List.pairwise_append.1 hsl).2.1).1 (clE e) List.mem_cons_self
  have ht2 : below (hdK t (l2.map clE)) e.key := by
    cases l2 with
    | nil => exact ((keysOk_iff.1 hks.1).1 e (List.mem_append_right _ List.mem_cons_self)).2
    | cons x l2 =>
      intro _
      have := (keysOk_iff.1 hks.1).2
      rw [show (Nd.l ⟨lf, fi, l1 ++ e :: x :: l2⟩) = l1 ++ e :: x :: l2 from rfl, List.map_append, List.map_cons, List.map_cons] at this
      exact (List.pairwise_cons.1 (List.pairwise_append.1 this).2.1).1 x.kv List.mem_cons_self
  obtain ⟨Wm, em, im⟩ := Wa.merge Wb cs ht2
  have om := mergeN_ens (s := e.key) oa.ens ob.ens hlf (may_eB he.1)
  have sm := mergeN_size (s := e.key) hlf
  have sa := oa.size
  have sb := ob.size
  have sb2 : eszs a0.leaf b0.l ≤ 1024 := by rw [hlf]; unfold Nd.size at sb; omega
  have la := oa.len
  have lb := ob.len
  have ldm : (mergeN a0 e.key b0).l.length ≤ 600 := by
    rw [← midL_merge, List.length_append]
    unfold midL
    split
    · omega
    · rw [List.length_append]; show a0.l.length + 1 + b0.l.length ≤ 600; omega
  have iN : idsN (P.pgs D n) (m + 1) ⟨lf, fi, l1 ++ e :: l2⟩ = idsK (P.pgs D n) m K1 ++ (ids (P.pgs D n) m cc.2 ++ ids (P.pgs D n) m e.kid) ++ idsK (P.pgs D n) m (l2.map clE) := by
    show idsK (P.pgs D n) m (Nd.cl ⟨lf, fi, l1 ++ e :: l2⟩ f) = _
    rw [hK1, show K1 ++ cc :: (e :: l2).map clE = K1 ++ [cc, clE e] ++ l2.map clE by rw [List.append_assoc]; rfl, idsK_append, idsK_append]
    congr 2
    unfold idsK; simp [clE]
  have nI : (ids (P.pgs D n) m cc.2 ++ ids (P.pgs D n) m e.kid).Nodup := by
    rw [iN] at nN
    exact (nodup3.1 nN).1
  have subI : ∀ i ∈ ids (P.pgs D n) m cc.2 ++ ids (P.pgs D n) m e.kid, i ∈ idsN (P.pgs D n) (m + 1) ⟨lf, fi, l1 ++ e :: l2⟩ := fun i hi => by
    rw [iN]; exact List.mem_append_left _ (List.mem_append_right _ hi)
  have subN : ∀ i ∈ idsN (P.pgs D n) m a0 ++ idsN (P.pgs D n) m b0, i ∈ ids (P.pgs D n) m cc.2 ++ ids (P.pgs D n) m e.kid := fun i hi => by
    rw [ids_N pa, ids_N pb0]
    rcases List.mem_append.1 hi with hi | hi
    · exact List.mem_append_left _ (List.mem_cons_of_mem _ hi)
    · exact List.mem_append_right _ (List.mem_cons_of_mem _ hi)
  have nNm : (idsN (P.pgs D n) m a0 ++ idsN (P.pgs D n) m b0).Nodup := by
    have := nI
    rw [ids_N pa, ids_N pb0] at this
    refine this.sublist (List.Sublist.append (List.sublist_cons_self _ _) (List.sublist_cons_self _ _))
  -- the walk
  apply btree_Tree_join.calls
  unfold btree_Tree_join.W
  refine split_dec (fun e => by omega) fun _ => ⟨_, _, _, N.ex.c2, ?_⟩
  rw [e1, e2]
  have hlen : (Nd.l ⟨lf, fi, l1 ++ e :: l2⟩).length = l1.length + (l2.length + 1) := by show (l1 ++ e :: l2).length = _; rw [List.length_append, List.length_cons]
  refine split_dec (fun g => ?_) fun _ => ?_
  · have g : ((l1.length : Nat) : Int) ≥ (((Nd.l ⟨lf, fi, l1 ++ e :: l2⟩).length : Nat) : Int) := g
    omega
  refine kid_spec N.ex (hkid (e :: l2)) ⟨_, rfl, load_spec E T _ (fun e => by rw [show P.pgs D n cc.2 = none from e] at pa; cases pa) fun a0' ea h8 ka NA_ => ⟨_, _, rfl, ?_⟩⟩
  have ea' : a0' = a0 := Option.some.inj ((show P.pgs D n cc.2 = some a0' from ea).symm.trans pa)
  subst ea'
  have N8 := N.sub NA_.sub
  have T8 : TrAt h8 tb pb k := Blk.sub T NA_.sub
  refine kid_spec' N8.ex hk1 ⟨_, rfl, load_spec (E.sub NA_.sub) T8 _ (fun e => by rw [show P.pgs D n _ = none from e] at pb0; cases pb0) fun b0' eb h15 kb NB => ⟨_, _, rfl, split_ne (fun e => absurd rfl e) fun _ => split_ne (fun e => absurd rfl e) fun _ => ?_⟩⟩
  have eb' : b0' = b0 := Option.some.inj ((show P.pgs D n _ = some b0' from eb).symm.trans pb0)
  subst eb'
  obtain ⟨aa, ca, Nao, fra⟩ := NA_.ow
  obtain ⟨ab, cb, Nbo, frb⟩ := NB.ow
  have Na := (Nao.sub NB.sub).vw
  have Nb := Nbo.ex
  have s15 := NA_.sub.trans NB.sub
  have kan : h ka = none := NA_.k0
  have kbka : kb ≠ ka := fun e => by have := NB.k0; have h2 := Nao.ex.blk; unfold Blk at h2; rw [e, h2] at this; cases this
  have abka : ∀ b, blkOf ab b → b ≠ ka := fun b hb e => by have := frb b hb; have h2 := Nao.ex.blk; unfold Blk at h2; rw [e, h2] at this; cases this
  refine ⟨ka, 0, rfl, _, _, _, Na.ex.c2, fun x => Sub h x ∧ NdEx x kb ab cb b0' ∧ ∃ a1 c1, NdVw x ka a1 c1 ⟨a0'.leaf, a0'.first, midL a0' e.key b0'⟩ ∧ ∀ b, blkOf a1 b → h b = none, ?_, ka, 0, rfl, _, Na.ex.c0, ?_⟩
  rotate_left
  · -- the key between them
    have kd : ((a0'.kind : Nat) : Int) = if a0'.leaf = true then 1 else 2 := by unfold Nd.kind; split <;> rfl
    rw [kd]
    cases hl : a0'.leaf with
    | true =>
      have em : midL a0' e.key b0' = a0'.l := by unfold midL; rw [hl]; rfl
      refine split_eq (fun e => by cases e) fun _ => ⟨s15, Nb, aa, ca, by rw [em, ← hl]; exact Na, fra⟩
    | false =>
      have em : midL a0' e.key b0' = a0'.l ++ [⟨e.key, eB, b0'.first⟩] := by unfold midL; rw [hl]; rfl
      have N15 := N.sub s15
      obtain ⟨b, of, ean, g0, g1, g2⟩ := N15.ex.get (i := l1.length) (e := e) (by show (l1 ++ e :: l2)[l1.length]? = _; rw [List.getElem?_append_right (Nat.le_refl _), Nat.sub_self]; rfl)
      refine split_eq (fun _ => ⟨ka, 0, rfl, _, _, _, Na.ex.c2, _, _, _, N15.ex.c2, by omega, by show ((l1.length : Nat) : Int) < (((Nd.l ⟨lf, fi, l1 ++ e :: l2⟩).length : Nat) : Int); omega, b, of, ean, _, by rw [Int.toNat_natCast]; exact g0, kb, 0, rfl, _, Nb.c1, ?_⟩) fun e => absurd rfl e
      refine nput_spec Na ⟨e.key, eB, b0'.first⟩ (i := a0'.l.length) (Nat.le_refl _) (by omega) fun h5 a5 c5 N5 k5 nb5 => ⟨rfl, k5.sub s15 fun c e => by rw [e]; exact kan, Nb.out k5 kbka abka, a5, c5, ?_, fun b hb => s15.none (nb5 b hb)⟩
      rw [List.take_length, List.drop_length] at N5
      rw [em]; rw [hl] at N5; exact N5
  rintro x ⟨sx, Nbx, a1, c1, N1, n1⟩
  have lm : (midL a0' e.key b0').length + b0'.l.length ≤ 600 := by rw [← List.length_append, midL_merge]; exact ldm
  refine ⟨ka, 0, rfl, _, _, _, N1.ex.c2, ka, 0, rfl, _, _, _, N1.ex.c2, ka, 0, rfl, _, _, _, N1.ex.c2, Int.natCast_nonneg _, ?_, Int.natCast_nonneg _, Int.le_refl _, kb, 0, rfl, _, _, _, Nbx.c2, _, Nbx.row, fun a' c' x' => Sub x x' ∧ VwR enC 3 x' 77 a' c' (midL a0' e.key b0' ++ b0'.l) ∧ ∀ b, blkOf a' b → blkOf a1 b ∨ x b = none, ?_, ?_⟩
  · have := N1.vw.le
    exact Int.ofNat_le.2 this
  rotate_left
  · show appendC Tryd.prog 77 (slA (midL a0' e.key b0').length 0 3 a1) (midL a0' e.key b0').length (midL a0' e.key b0').length x (rowC enC b0'.l) b0'.l.length _
    rw [slA_zero]
    refine append_cap appTEn enC_len enC_plain (L := midL a0' e.key b0') N1.vw (Nat.le_refl _) rfl rfl (by omega) fun a' c' h' s V nb _ => ⟨s, ?_, nb⟩
    rw [List.take_length] at V; exact V
  rintro a' c' x' ⟨sx', V', nb'⟩
  obtain ⟨g1, g2, g3⟩ := N1.set (n := (midL a0' e.key b0').length + b0'.l.length) sx' V' (by rw [List.length_append]) nb'
  rw [midL_merge] at g2
  refine ⟨ka, 0, rfl, g1, ?_⟩
  show CallsH _ _ _ (x'.put ka 2 [.slice a' ((midL a0' e.key b0').length + b0'.l.length) c']) _
  have sy : Sub h (x'.put ka 2 [.slice a' ((midL a0' e.key b0').length + b0'.l.length) c']) := g3.sub sx fun c e => by rw [e]; exact kan
  generalize x'.put ka 2 [.slice a' ((midL a0' e.key b0').length + b0'.l.length) c'] = y at g2 g3 sy ⊢
  have g2 : NdVw y ka a' c' (mergeN a0' e.key b0') := g2
  have ny : ∀ b, blkOf a' b → h b = none := fun b hb => (nb' b hb).elim (n1 b) fun h => sx.none h
  have smb : (mergeN a0' e.key b0').size ≤ 3000 := by rw [sm]; split <;> omega
  refine nsize_spec g2.ex (by omega) (by omega) ⟨_, rfl, split_dec (fun g => hF y sy fun hb => ?_) fun g => ?_⟩
  · have g : (((mergeN a0' e.key b0').size : Nat) : Int) > 1024 := g
    have hb1 := hb.1
    have hb2 := hb.2
    rw [ents_N pa] at hb1
    rw [ents_N pb0] at hb2
    have := merge_fits Wa Fa Wb Fb hlf hs64.1 hb1 hb2
    omega
  have g : ¬ (((mergeN a0' e.key b0').size : Nat) : Int) > 1024 := g
  have omk : NdOk (mergeN a0' e.key b0') := om.ok (by omega)
  refine ⟨JoinJ pb jb db S n D P m cc.1 (hdK t (l2.map clE)) (entsN (P.pgs D n) m a0' ++ entsN (P.pgs D n) m b0') (idsN (P.pgs D n) m a0' ++ idsN (P.pgs D n) m b0') h ka, ?_, ka, 0, rfl, _, g2.ex.c0, ?_⟩
  · rintro z ⟨P1, nd1, a2, c2, E1, kp1, Nz, W1, F1, o1, he1, M1, nN1, fr1⟩
    obtain ⟨wc, we, g4, g5, g6, g7, g8⟩ := join_law pa pb0 nI Wa Wb W1 F1 o1 he1 M1 nN1 fr1 rfl
    have T1 : TrAt z tb pb k := Blk.keep T kp1 nt
    have Nn := N.keep kp1 nk na
    refine kid_spec Nn.ex (hkid (e :: l2)) ⟨_, rfl, store_spec E1 T1 Nz o1 wc fun h3 E3 k3 => ⟨rfl, _, (Blk.keep T1 k3 nt : TrAt h3 tb pb k).cell' 0 rfl, ?_⟩⟩
    have N3 := Nn.keep k3 nk na
    refine kid_spec' N3.ex hk1 ⟨_, rfl, Sub.refl _, give_spec E3 _ (fun e => absurd we e) (fun k' ek _ ⟨t', ht', er⟩ => ?_) fun k' ek _ _ h67 E67 st67 => ⟨_, rfl, ?_⟩⟩
    · have er : P1.now.r t' = k' := er
      rw [M1.roots] at er
      refine absurd (subI e.kid (List.mem_append_right _ ids_self)) ?_
      have : e.kid = P.now.r t' := by omega
      rw [this]; exact nr t' ht'
    · have ek : e.kid = k' := by omega
      subst ek
      have N67 := N3.keep st67.1 nk na
      rw [Int.toNat_natCast, Int.toNat_natCast]
      have rs := N67.rest (q := l1.length + 1) (by omega) (Sub.refl _)
      have edr : (Nd.l ⟨lf, fi, l1 ++ e :: l2⟩).drop (l1.length + 1) = l2 := by
        show (l1 ++ e :: l2).drop (l1.length + 1) = l2
        rw [List.drop_length_add_append]; rfl
      have etk : (Nd.l ⟨lf, fi, l1 ++ e :: l2⟩).take l1.length = l1 := List.take_left
      rw [edr] at rs
      have hl2 : (Nd.l ⟨lf, fi, l1 ++ e :: l2⟩).length - (l1.length + 1) = l2.length := by omega
      have le67 := N67.vw.le
      refine ⟨_, _, _, N67.ex.c2, by omega, by show ((l1.length : Nat) : Int) ≤ ((c : Nat) : Int); omega, by omega, Int.le_refl _, _, _, _, N67.ex.c2, by omega, by show ((l1.length + 1 : Nat) : Int) ≤ (((Nd.l ⟨lf, fi, l1 ++ e :: l2⟩).length : Nat) : Int); omega, rowC enC l2, by rw [hl2]; exact rs, fun a' c' x' => Sub h67 x' ∧ VwR enC 3 x' 77 a' c' (l1 ++ l2) ∧ ∀ b, blkOf a' b → blkOf a b ∨ h67 b = none, ?_, ?_⟩
      · rintro a9 c9 x9 ⟨s9, V9, nb9⟩
        rw [hl2]
        obtain ⟨r1, r2, r3⟩ := N67.set (n := l1.length + l2.length) s9 V9 (by rw [List.length_append]) nb9
        refine ⟨r1, hT _ _ a9 c9 (E67.out r3 fun c hc e => nk (e ▸ hc)) ?_ r2 (fun b hb => (nb9 b hb).elim (na b) fun h => S_out E67 h) ⟨g4, g5, g6, g7, g8⟩⟩
        exact ((kp1.trans (k3.trans st67.1)).mono fun c hc => .inl hc).trans (r3.mono fun c hc => .inr hc)
      · rw [slA_zero, hl2]
        refine append_cap appTEn enC_len enC_plain (i := l1.length) (L := Nd.l ⟨lf, fi, l1 ++ e :: l2⟩) N67.vw (by omega) rfl rfl (by omega) fun a' c' h' s V nb _ => ⟨s, ?_, nb⟩
        rw [etk] at V; exact V
  · have nka : ¬ S ka := S_out E kan
    have kd : (((mergeN a0' e.key b0').kind : Nat) : Int) = if a0'.leaf = true then 1 else 2 := by unfold Nd.kind; show ((if a0'.leaf = true then 1 else 2 : Nat) : Int) = _; split <;> rfl
    rw [kd]
    have Ey := E.sub sy
    have Ty : TrAt y tb pb k := Blk.sub T sy
    cases m with
    | zero =>
      have hl : a0'.leaf = true := Wa.1
      rw [if_pos hl]
      exact split_eq (fun e => by cases e) fun _ => ⟨P, _, a', c', Ey, sy.keep S, g2.ex, Wm, trivial, omk, em, Mv.refl _ _ _ _, List.nodup_nil, Nat.le_refl _⟩
    | succ m =>
      have hl : a0'.leaf = false := Wa.1
      rw [if_neg (by rw [hl]; decide)]
      have ei : IntKind.i64.wrap (Int.ofNat a0'.l.length - 1) = ((a0'.l.length : Nat) : Int) - 1 := by
        show IntKind.i64.wrap (((a0'.l.length : Nat) : Int) - 1) = _
        rw [wid (by omega) (by omega)]
      rw [ei]
      have eq : mergeN a0' e.key b0' = ⟨false, a0'.first, a0'.l ++ ⟨e.key, eB, b0'.first⟩ :: b0'.l⟩ := by
        unfold mergeN
        rw [hl]; rfl
      rw [eq] at g2 omk Wm em im
      obtain ⟨K2, c2, k1, k2, k3, k4⟩ := cl_split false a0'.first a0'.l cc.1
      have ea1 : entsK (P.pgs D n) m (a0'.cl cc.1) = entsK (P.pgs D n) m K2 ++ [ents (P.pgs D n) m c2.2] := by
        have := k1 []
        rw [List.append_nil] at this
        rw [show a0'.cl cc.1 = Nd.cl ⟨false, a0'.first, a0'.l⟩ cc.1 from rfl, this, entsK_append]; rfl
      have eb1 : entsK (P.pgs D n) m (b0'.cl e.key) = ents (P.pgs D n) m b0'.first :: entsK (P.pgs D n) m (b0'.l.map clE) := rfl
      have na1 : NA (entsK (P.pgs D n) m K2 ++ [ents (P.pgs D n) m c2.2]) := by rw [← ea1]; exact Fa
      have nb1 : NA (ents (P.pgs D n) m b0'.first :: entsK (P.pgs D n) m (b0'.l.map clE)) := by rw [← eb1]; exact Fb
      refine split_eq (fun _ => ih m (by omega) Ey Ty g2 nka (fun b hb => S_out E (ny b hb)) omk Wm (by rw [im]; exact nNm) (fun t' ht' => by rw [im]; exact fun h => nr t' ht' (subI _ (subN _ h))) k1 k3 (fun h84 s84 hne => ⟨_, rfl, ?_⟩) fun h84 P1 a9 c9 E84 kp84 N84 nb84 R => ⟨_, rfl, ?_⟩) fun e => absurd rfl e
      · refine ⟨P, _, a', c', Ey.sub s84, (sy.trans s84).keep S, g2.ex.sub s84, Wm, ?_, omk, em, by rw [im]; exact Mv.refl _ _ _ _, by rw [im]; exact nNm, Nat.le_refl _⟩
        show NA (entsK (P.pgs D n) m (Nd.cl ⟨false, a0'.first, a0'.l ++ ⟨e.key, eB, b0'.first⟩ :: b0'.l⟩ cc.1))
        rw [k1, entsK_append]
        exact NA_cat na1 nb1 hne
      · obtain ⟨r1, r2, r3, r4⟩ := join_up k1 Wm (by rw [im]; exact nNm) R
        rw [im] at r4
        refine ⟨P1, _, a9, c9, E84, (fun c o hc hs => kp84 c o (sy c o hc) fun h' => h'.elim hs fun e => by rw [e, kan] at hc; cases hc), N84.ex, r1, ?_, ⟨fun e' he' => ?_, omk.first, ?_, omk.z⟩, ?_, r4, r3, R.fr⟩
        · show NA (entsK (P1.pgs D n) m (Nd.cl ⟨false, a0'.first, a0'.l ++ b0'.l⟩ cc.1))
          rw [r2]
          exact NA_join na1 nb1
        · refine omk.en e' ?_
          rcases List.mem_append.1 he' with h' | h'
          · exact List.mem_append_left _ h'
          · exact List.mem_append_right _ (List.mem_cons_of_mem _ h')
        · have := omk.size
          unfold Nd.size at this ⊢
          have h1 : Nd.base false + eszs false (a0'.l ++ ⟨e.key, eB, b0'.first⟩ :: b0'.l) ≤ 1024 := this
          show Nd.base false + eszs false (a0'.l ++ b0'.l) ≤ 1024
          rw [eszs_append, eszs_cons] at h1
          rw [eszs_append]
          omega
        · show (entsK (P1.pgs D n) m (Nd.cl ⟨false, a0'.first, a0'.l ++ b0'.l⟩ cc.1)).flatten = _
          have ea2 : entsN (P.pgs D n) (m + 1) a0' = (entsK (P.pgs D n) m K2).flatten ++ ents (P.pgs D n) m c2.2 := by
            show (entsK (P.pgs D n) m (a0'.cl cc.1)).flatten = _
            rw [ea1, List.flatten_append]; simp
          have eb2 : entsN (P.pgs D n) (m + 1) b0' = ents (P.pgs D n) m b0'.first ++ (entsK (P.pgs D n) m (b0'.l.map clE)).flatten := by
            show (entsK (P.pgs D n) m (b0'.cl e.key)).flatten = _
            rw [eb1]; rfl
          rw [r2, ea2, eb2, List.flatten_append, List.flatten_cons]
          simp only [List.append_assoc]
end Go.Proofs.YthbogjbcecmopaaDoor
