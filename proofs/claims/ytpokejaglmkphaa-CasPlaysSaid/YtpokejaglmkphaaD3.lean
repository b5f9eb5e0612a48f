/- Whatever is put, taken and asked: CasPlays over heaps. Condition: texts of at most 2^47 bytes. -/
import Derived.Test.YtpokejaglmkphaaD2
namespace Go.Proofs.Ytpokejaglmkphaa
open Go.Gx
set_option maxRecDepth 100000
set_option linter.unusedVariables false
variable {h : Hp} {K : Value → Hp → Prop}
structure OpP where
  kind : Int
  at_ : Int
  data : ByteArray
  sum : ByteArray
  n : Int
def opPC (o : OpP) : List Value := [.int .i64 o.kind, .int .i64 o.at_, .string o.data, .string o.sum, .int .i64 o.n]
theorem opPC_len (o : OpP) : (opPC o).length = 5 := rfl
def OpP.ok (o : OpP) : Prop := o.data.size ≤ 140737488351232 ∧ o.sum.size ≤ 140737488351232
theorem short_spec (o : OpP) (ho : o.ok) (hK : K (.bool (decide (o.data.size + o.sum.size ≤ 1000))) h) : CallsH Try.prog law09_short.id #[.agg #[.int .i64 o.kind, .int .i64 o.at_, .string o.data, .string o.sum, .int .i64 o.n]] h K := by
  apply law09_short.calls
  unfold law09_short.W
  have h1 := ho.1
  have h2 := ho.2
  have w : IntKind.i64.wrap (Int.ofNat o.data.size + Int.ofNat o.sum.size) = ((o.data.size + o.sum.size : Nat) : Int) := by
    show IntKind.i64.wrap ((o.data.size : Int) + (o.sum.size : Int)) = _
    rw [wid (by omega) (by omega)]; omega
  rw [w, hb_eq]
  have e : decide (((o.data.size + o.sum.size : Nat) : Int) ≤ 1000) = decide (o.data.size + o.sum.size ≤ 1000) := by rw [decide_eq_decide]; omega
  rw [e]; exact hK
theorem ct_types {x : Hp} {a : Option Addr} {c : Nat} {l : List Ct} (O : OwnR ctC 4 x tCt a c l) : ∀ c' t vs, blkOf a c' → Blk x c' t vs → t = tCt := by
  intro c' t vs hc hb'
  obtain ⟨us, hu⟩ := own_blk O hc
  exact ((hu.inj hb').1).symm
theorem withC_few {l : List Ct} {i r j : Nat} (hl : ∀ c ∈ l, c.refs ≤ j) (hr : r ≤ j + 1) : (∀ e ∈ withC l i r, e.refs ≤ j + 1) := by
  intro e he
  unfold withC at he
  have hl' : ∀ c ∈ l, c.refs ≤ j + 1 := fun c hc => Nat.le_succ_of_le (hl c hc)
  rcases List.mem_append.1 he with he | he
  · rcases List.mem_append.1 he with he | he
    · exact hl' e (List.mem_of_mem_take he)
    · cases hi : l[i]? with
      | none => rw [hi] at he; cases he
      | some c =>
        rw [hi] at he
        simp only [] at he
        split at he
        · rw [List.mem_singleton.1 he]; exact hr
        · cases he
  · exact hl' e (List.mem_of_mem_drop he)
/-- The store, the document's contents, and the IDs so far. -/
structure Two (h x : Hp) (sb tb w j : Nat) (l : List Ct) (la : Option Addr) (lc : Nat) (ids : List Id) (ia : Option Addr) (ic : Nat) : Prop where
  run : Run h x sb tb w (-1) [] l ia ic ids
  row : OwnR ctC 4 x tCt la lc l
  few : ∀ c ∈ l, c.refs ≤ j
  len : l.length ≤ j
  idl : ids.length ≤ j
variable {x : Hp} {sb tb w j : Nat} {l : List Ct} {la : Option Addr} {lc : Nat} {ids : List Id} {ia : Option Addr} {ic : Nat}
theorem Two.look (T : Two h x sb tb w j l la lc ids ia ic) {y : Hp} (s : Sub x y) : Two h y sb tb w j l la lc ids ia ic := ⟨T.run.look s, T.row.sub s, T.few, T.len, T.idl⟩
theorem Two.more (T : Two h x sb tb w j l la lc ids ia ic) : Two h x sb tb w (j + 1) l la lc ids ia ic := ⟨T.run, T.row, fun c hc => Nat.le_succ_of_le (T.few c hc), Nat.le_succ_of_le T.len, Nat.le_succ_of_le T.idl⟩
/-- The document's side first, the store's then. -/
theorem Two.both (T : Two h x sb tb w j l la lc ids ia ic) {y z : Hp} {l' : List Ct} {la' : Option Addr} {lc' : Nat} (N : NewR ctC 4 tCt x y la' lc' l') (k : Keep (fun b => b = tb) y z) (C : CasAt z sb tb w (-1) [] l') (hf : ∀ c ∈ l', c.refs ≤ j + 1) (hl : l'.length ≤ j + 1) :
    Two h z sb tb w (j + 1) l' la' lc' ids ia ic := by
  have C0 := T.run.cas.sub N.sub
  obtain ⟨⟨L, S, _⟩, _, _⟩ := C0
  obtain ⟨_, _, hb, _⟩ := S.table
  refine ⟨(T.run.look N.sub).change k C, N.own.keep k fun b hb' e => ?_, hf, hl, Nat.le_succ_of_le T.idl⟩
  subst e
  exact absurd (ct_types N.own b _ _ hb' hb) (by decide)
theorem Two.append (T : Two h x sb tb w (j + 1) l la lc ids ia ic) (hi : ids.length ≤ j) (hj : j ≤ 100) (p : Id) {m n : Nat} {ys : List Value} (hl : m = ids.length) (hn : n = 1) (hy : ys = idC p) {y : Hp} (s : Sub x y) {J : Option Addr → Nat → Hp → Prop}
    (hJ : ∀ a' c' z, Two h z sb tb w (j + 1) l la lc (ids ++ [p]) a' c' → J a' c' z) : appendC Try.prog tID ia m ic y ys n J := by
  have T := T.look s
  refine append_ownR appTI idC_len idC_plain (M := [p]) T.run.row hl hn (hy.trans (rowC_one p).symm) (by simp; omega) fun a' c' z o k nw => hJ a' c' z ⟨⟨?_, T.run.tb0, ?_, o, fun b hb => ?_⟩, T.row.keep k fun b hb hb' => ?_, T.few, T.len, by simp; omega⟩
  · exact k.sub T.run.sub fun b hb => (T.run.new b hb).1
  · exact T.run.cas.keep k (ids_types T.run.row)
  · rcases nw b hb with hb | hb
    · exact T.run.new b hb
    · refine ⟨T.run.sub.none hb, fun e => ?_⟩
      obtain ⟨⟨L, S, _⟩, _, _⟩ := T.run.cas
      obtain ⟨_, _, h1, _⟩ := S.table
      rw [e, h1.get] at hb; cases hb
  · obtain ⟨us, hu⟩ := own_blk T.run.row hb'
    exact absurd (ct_types T.row b _ _ hb hu) (by decide)
theorem op_atP {oa : Option Addr} {os : List OpP} (hr : RowAt opPC 5 h oa os) {y : Hp} (s : Sub h y) {i : Nat} {o : OpP} (ho : os[i]? = some o) : ∃ b p, oa = some ⟨b, p, none⟩ ∧ y.cell b (p + i * 5) = some (.int .i64 o.kind) ∧ y.cell b (p + i * 5 + 1) = some (.int .i64 o.at_) ∧ y.cell b (p + i * 5 + 2) = some (.string o.data) ∧ y.cell b (p + i * 5 + 3) = some (.string o.sum) ∧ y.cell b (p + i * 5 + 4) = some (.int .i64 o.n) := by
  obtain ⟨b, p, e, hc⟩ := (hr.sub s).get opPC_len (by decide) ho
  exact ⟨b, p, e, hc 0 _ rfl, hc 1 _ rfl, hc 2 _ rfl, hc 3 _ rfl, hc 4 _ rfl⟩
theorem plays_core (width : Int) (oa : Option Addr) (oc : Nat) (os : List OpP) (hr : RowAt opPC 5 h oa os) (hok : ∀ o ∈ os, o.ok) :
    CallsH Try.prog 5 #[.int .i64 width, .slice oa os.length oc] h fun v h' => v = .bool true ∧ Sub h h' := by
  apply law09_CasPlays.calls
  unfold law09_CasPlays.W
  intro k hk
  refine casNew0_spec hk (-1) width (fun e h1 s1 => ⟨_, _, rfl, split_dec (fun _ => split_cond (fun _ => split_eq (fun _ => live_ok s1) fun e => absurd rfl e) fun e => by cases e) fun e1 => split_dec (fun _ => split_cond (fun _ => split_eq (fun _ => live_ok s1) fun e => absurd rfl e) fun e => by cases e) fun e2 => by omega⟩)
    fun w ew w1 w2 sb h1 s1 C => ⟨_, _, rfl, split_dec (fun e => by omega) fun _ => split_dec (fun e => by omega) fun _ => ?_⟩
  subst ew
  refine ⟨fun la ll lc ia il ic n x m => ∃ (j : Nat) (l : List Ct) (ids : List Id), n = (j : Int) ∧ j ≤ 50 ∧ j ≤ os.length ∧ m = 50 - j ∧ ll = l.length ∧ il = ids.length ∧ Two h x sb k w j l la lc ids ia ic,
    ⟨_, 0, [], [], rfl, by decide, by omega, rfl, rfl, rfl, Run.start s1 hk C, OwnR.nil _ _, (fun c hc => by cases hc), by decide, by decide⟩, ?_⟩
  rintro la ll lc ia il ic n x m ⟨j, l, ids, rfl, hj, hjo, rfl, rfl, rfl, T⟩
  refine ⟨fun y => y = x ∧ j < os.length ∧ j < 50, ?_, split_dec (fun g => split_dec (fun g2 => split_cond (fun _ => ⟨rfl, by have : (j : Int) < (os.length : Int) := g; omega, by omega⟩) fun e => by cases e) fun _ => split_cond (fun _ => live_ok T.run.sub) fun e => by cases e) fun _ => split_cond (fun _ => live_ok T.run.sub) fun e => by cases e⟩
  rintro y ⟨rfl, g, g50⟩
  have ho : os[j]? = some os[j] := List.getElem?_eq_getElem g
  generalize os[j] = o at ho
  have hoo := hok o (List.mem_of_getElem? ho)
  obtain ⟨b1, o1, ea, c0, c1, c2, c3, c4⟩ := op_atP hr T.run.sub ho
  have hjl : (j : Int) < Int.ofNat os.length := by show (j : Int) < (os.length : Int); omega
  have hll := T.len
  have hil := T.idl
  refine ⟨by omega, hjl, b1, o1, ea, _, c0, _, c1, _, c2, _, c3, _, c4, short_spec o hoo ⟨_, rfl, split_not (fun _ => live_ok T.run.sub) fun hsh => ?_⟩⟩
  have hsz : o.data.size ≤ 1000 := by have := of_decide_eq_true hsh; omega
  refine pickC_spec T.run.row.row (by omega) _ _ _ _ _ fun p => ⟨_, _, rfl, ?_⟩
  refine ⟨fun la ll lc ia il ic f g s n z => f = g ∧ ∃ (l : List Ct) (ids : List Id), ll = l.length ∧ il = ids.length ∧ Two h z sb k w (j + 1) l la lc ids ia ic, ?_, ?_⟩
  · rintro la ll lc ia il ic f g s n z ⟨rfl, l, ids, rfl, rfl, T⟩
    have hll := T.len
    refine split_ne (fun e => absurd rfl e) fun _ => alikeC_spec T.run.cas T.row.row (by omega) s n fun z2 s2 => ⟨_, rfl, s2, split_cond (fun e => by cases e) fun _ => ?_⟩
    have T2 := T.look s2
    refine digest_spec T2.run.cas o.data (by omega) fun z3 s3 => ⟨_, rfl, s2.trans s3, digestR_spec o.data (by omega) w2 fun z4 s4 => ⟨_, rfl, ?_⟩⟩
    rw [beqS_val, decide_eq_true rfl]
    refine split_cond (fun e => by cases e) fun _ => ⟨_, ?_, j + 1, l, ids, by rw [wid (by omega) (by omega)]; omega, by omega, by omega, rfl, rfl, rfl, (T2.look s3).look s4⟩
    omega
  · have hl2 : ∀ {l : List Ct}, l.length ≤ 100 → l.length + ([] : List KV).length < 4294967295 := fun h => by simp; omega
    have few : ∀ c ∈ l, c.refs < 2147483648 := fun c hc => by have := T.few c hc; omega
    have rows := T.row
    refine split_eq (fun _ => ?_) fun _ => ?_
    · -- putting
      have fin : ∀ (l' : List Ct) (la' : Option Addr) (lc' : Nat) (z : Hp) (p : Id) (e : Int), Two h z sb k w (j + 1) l' la' lc' ids ia ic → cond (!(beqS p.1 p.1 && (hb (p.2 == p.2) && true))) ((fun (v : Value) (h' : Hp) => v = .bool true ∧ Sub h h') (.bool false) z)
          (∀ k77, z k77 = none → ∃ xs, SliceAt (z.upd k77 (.cells #[.string p.1, .int .i64 p.2] 34 (0, 0))) (some ⟨k77, 0, none⟩) 2 xs ∧ ∃ J79 : Option Addr → Nat → Hp → Prop, (∀ a80 k81 x82, J79 a80 k81 x82 → (e = e ∧ ∃ (l2 : List Ct) (ids2 : List Id), l'.length = l2.length ∧ ids.length + 1 = ids2.length ∧ Two h x82 sb k w (j + 1) l2 la' lc' ids2 a80 k81)) ∧ appendC Try.prog 34 ia ids.length ic (z.upd k77 (.cells #[.string p.1, .int .i64 p.2] 34 (0, 0))) xs 1 J79) := by
        intro l' la' lc' z p e T'
        rw [idEq, decide_eq_true rfl]
        refine split_cond (fun e => by cases e) fun _ => fun k7 hk7 => ⟨idC p, (Blk.new _ _ _ (idC p)).slice rfl, fun a' c' z' => Two h z' sb k w (j + 1) l' la' lc' (ids ++ [p]) a' c', fun a' c' z' T2 => ⟨rfl, l', ids ++ [p], rfl, by simp, T2⟩, ?_⟩
        exact T'.append (by omega) (by omega) p rfl rfl rfl (Sub.upd hk7 _) fun a' c' z' T2 => T2
      refine putR_spec T.run.cas.ok rows.row rows.le (by omega) few o.data (by omega) w2 (fun hbig => ⟨_, _, _, _, _, _, rfl, putLong_spec o.data hbig ⟨_, _, _, rfl, fin l la lc _ noId 2 T.more⟩⟩) (fun i d hi hd h128 h' a' c' N => ⟨_, _, _, _, _, _, rfl, ?_⟩) (fun hno h128 h' a' c' N => ⟨_, _, _, _, _, _, rfl, ?_⟩)
      · have hdr := T.few d (List.mem_of_getElem? hi)
        have C1 := T.run.cas.sub N.sub
        refine put_spec C1 (hl2 (by omega)) o.data h128 ⟨fun i' d' hi' hd' _ z kz Cz => ?_, fun i' d' hi' hd' e _ _ => ?_, fun hno _ _ _ _ _ => absurd hd (hno d (List.mem_of_getElem? hi)), fun hno _ _ _ => absurd hd (hno d (List.mem_of_getElem? hi))⟩
        · have e := idx_data T.run.cas.ok hi' hi (hd'.trans hd.symm)
          subst e
          rw [hi] at hi'; cases hi'
          exact ⟨_, _, _, rfl, fin _ _ _ z d.id 0 (T.both N kz Cz (withC_few T.few (by omega)) (by have := withC_len l i' (d.refs + 1); omega))⟩
        · have := T.few d' (List.mem_of_getElem? hi'); omega
      · have C1 := T.run.cas.sub N.sub
        obtain ⟨f1, f2, f3⟩ := free_facts (l := l) (by omega) (digest o.data w)
        refine put_spec C1 (hl2 (by omega)) o.data h128 ⟨fun i' d' hi' hd' _ _ _ _ => absurd hd' (hno d' (List.mem_of_getElem? hi')), fun i' d' hi' hd' e _ _ => absurd hd' (hno d' (List.mem_of_getElem? hi')), fun _ _ _ z kz Cz => ?_, fun _ e _ _ => by omega⟩
        exact ⟨_, _, _, rfl, fin _ _ _ z _ 0 (T.both N kz Cz (fun c hc => by
          rcases List.mem_append.1 hc with hc | hc
          · have := T.few c hc; omega
          · rw [List.mem_singleton.1 hc]; show 1 ≤ j + 1; omega) (by simp; omega))⟩
    · have chg : ∀ (by_ : Int) (hby : by_ = 1 ∨ by_ = -1) (K : Value → Hp → Prop), (findC l p.1 p.2 = none → K (.tuple #[.slice la l.length lc, .int .i64 6]) y) →
          (∀ (i : Nat) (d : Ct), l[i]? = some d → d.id = (p.1, p.2) → ∀ r : Nat, (r : Int) = d.refs + by_ → ∀ h' a' c', NewR ctC 4 tCt y h' a' c' (withC l i r) → K (.tuple #[.slice a' (withC l i r).length c', .int .i64 0]) h') →
          CallsH Try.prog ref09_Change.id #[.slice la l.length lc, .agg #[.string p.1, .int .i64 p.2], .int .i64 by_] y K := fun by_ hby K h0 h1 =>
        changeR_spec rows.row rows.le (by omega) few p.1 p.2 by_ hby (fun e he => (T.run.cas.ok.refs e he).1) h0 h1
      have idf : ∀ {i : Nat} {d : Ct}, l[i]? = some d → d.id = (p.1, p.2) → findC l p.1 p.2 ≠ none := fun hi hid e => by
        have := findC_id T.run.cas.ok (List.mem_of_getElem? hi) hid
        rw [e] at this; cases this
      have same : ∀ {f g : Int} {z : Hp} {s : ByteArray} {n : Int}, f = g → Sub y z → (f = g ∧ ∃ (l2 : List Ct) (ids2 : List Id), l.length = l2.length ∧ ids.length = ids2.length ∧ Two h z sb k w (j + 1) l2 la lc ids2 ia ic) := fun e s => ⟨e, l, ids, rfl, rfl, T.more.look s⟩
      refine ⟨fun b z => z = y, ?_, split_eq (fun _ => rfl) fun _ => rfl⟩
      rintro b z rfl
      refine split_cond (fun _ => ?_) fun _ => ?_
      · refine chg 1 (.inl rfl) _ (fun hf => ⟨_, _, _, _, rfl, again_spec T.run.cas (hl2 (by omega)) _ _ (fun _ h' s => ⟨_, rfl, same (s := p.1) (n := p.2) rfl s⟩) (fun i d hi hid _ _ _ => absurd hf (idf hi hid)) fun i d hi hid _ _ _ _ => absurd hf (idf hi hid)⟩) fun i d hi hid r hrr h' a' c' N => ⟨_, _, _, _, rfl, ?_⟩
        have hdr := T.few d (List.mem_of_getElem? hi)
        have er : r = d.refs + 1 := by omega
        subst er
        refine again_spec (T.run.cas.sub N.sub) (hl2 (by omega)) _ _ (fun hf _ _ => absurd hf (idf hi hid)) (fun i' d' hi' hid' e _ _ => by have := T.few d' (List.mem_of_getElem? hi'); omega) fun i' d' hi' hid' _ z kz Cz => ⟨_, rfl, rfl, withC l i (d.refs + 1), ids, rfl, rfl, ?_⟩
        have e := idx_id T.run.cas.ok hi' hi (hid'.trans hid.symm)
        subst e
        rw [hi] at hi'; cases hi'
        exact T.both N kz Cz (withC_few T.few (by omega)) (by have := withC_len l i' (d.refs + 1); omega)
      · refine ⟨fun b u => u = z, ?_, split_eq (fun _ => rfl) fun _ => rfl⟩
        rintro b u rfl
        refine split_cond (fun _ => ?_) fun _ => same (s := p.1) (n := p.2) rfl (Sub.refl _)
        refine chg (-1) (.inr rfl) _ (fun hf => ⟨_, _, _, _, rfl, take_spec T.run.cas (hl2 (by omega)) _ _ (fun _ h' s => ⟨_, rfl, same (s := p.1) (n := p.2) rfl s⟩) fun i d hi hid _ _ _ => absurd hf (idf hi hid)⟩) fun i d hi hid r hrr h' a' c' N => ⟨_, _, _, _, rfl, ?_⟩
        have hdr := T.few d (List.mem_of_getElem? hi)
        have hdp := (T.run.cas.ok.refs d (List.mem_of_getElem? hi)).1
        have er : r = d.refs - 1 := by omega
        subst er
        refine take_spec (T.run.cas.sub N.sub) (hl2 (by omega)) _ _ (fun hf _ _ => absurd hf (idf hi hid)) fun i' d' hi' hid' z kz Cz => ⟨_, rfl, rfl, withC l i (d.refs - 1), ids, rfl, rfl, ?_⟩
        have e := idx_id T.run.cas.ok hi' hi (hid'.trans hid.symm)
        subst e
        rw [hi] at hi'; cases hi'
        exact T.both N kz Cz (withC_few T.few (by omega)) (by have := withC_len l i' (d.refs - 1); omega)
end Go.Proofs.Ytpokejaglmkphaa
