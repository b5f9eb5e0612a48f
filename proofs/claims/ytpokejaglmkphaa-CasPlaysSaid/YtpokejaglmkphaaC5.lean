/- What texts that are put one after another make of contents: CasOnce over heaps. Conditions: none beyond the argument's reading. -/
import Derived.Test.YtpokejaglmkphaaC4
namespace Go.Proofs.Ytpokejaglmkphaa
open Go.Gx
set_option maxRecDepth 100000
set_option linter.unusedVariables false
variable {h : Hp} {sb tb width : Nat} {full : Int} {X : List KV} {l : List Ct} {K : Value → Hp → Prop}

/-! ### texts, each once -/
instance memD (d : ByteArray) (u : List ByteArray) : Decidable (d ∈ u) := decidable_of_iff (u.any (fun e => decide (e = d)) = true) (by simp)
theorem snoc_ex {α : Type} {es : List α} {n : Nat} (h : es.length = n + 1) : ∃ fs x, es = fs ++ [x] := by
  have hne : es ≠ [] := fun e => by rw [e] at h; simp at h
  exact ⟨es.dropLast, es.getLast hne, (List.dropLast_concat_getLast hne).symm⟩
theorem data_unique (ok : CtsOk width l) {c d : Ct} (hc : c ∈ l) (hd : d ∈ l) (h : c.data = d.data) : c = d := by
  have := ok.data
  clear ok
  induction l with
  | nil => cases hc
  | cons a l ih =>
    obtain ⟨p1, p2⟩ := List.pairwise_cons.1 this
    rcases List.mem_cons.1 hc with rfl | hc
    · rcases List.mem_cons.1 hd with rfl | hd
      · rfl
      · exact absurd h (p1 d hd)
    · rcases List.mem_cons.1 hd with rfl | hd
      · exact absurd h.symm (p1 c (by assumption))
      · exact ih hc hd p2
def uniq (es : List ByteArray) : List ByteArray := es.foldl (fun u d => if d ∈ u then u else u ++ [d]) []
theorem uniq_snoc (es : List ByteArray) (d : ByteArray) : uniq (es ++ [d]) = if d ∈ uniq es then uniq es else uniq es ++ [d] := by
  unfold uniq
  rw [List.foldl_append]; rfl
theorem uniq_mem : ∀ (n : Nat) (es : List ByteArray), es.length = n → ∀ d, d ∈ uniq es ↔ d ∈ es
  | 0, es, h, d => by
    rw [List.length_eq_zero_iff.1 h]; exact Iff.rfl
  | n + 1, es, h, d => by
    obtain ⟨fs, x, rfl⟩ := snoc_ex h
    have ih := uniq_mem n fs (by simpa using h)
    rw [uniq_snoc]
    split
    · rename_i hx
      rw [ih, List.mem_append, List.mem_singleton]
      refine ⟨.inl, fun h => h.elim id fun e => ?_⟩
      rw [e]; exact (ih x).1 hx
    · rw [List.mem_append, List.mem_append, ih]
theorem mem_uniq (es : List ByteArray) (d : ByteArray) : d ∈ uniq es ↔ d ∈ es := uniq_mem _ es rfl d
def cntD (d : ByteArray) (es : List ByteArray) : Nat := es.countP fun e => decide (e = d)
theorem cntD_snoc (d e : ByteArray) (es : List ByteArray) : cntD d (es ++ [e]) = cntD d es + if e = d then 1 else 0 := by
  unfold cntD
  rw [List.countP_append, List.countP_cons, List.countP_nil]
  by_cases h : e = d
  · simp [h]
  · simp [h]
theorem cntD_le (d : ByteArray) (es : List ByteArray) : cntD d es ≤ es.length := List.countP_le_length
def sizesU (us : List ByteArray) : Nat := (us.map ByteArray.size).sum
/-- What the texts 'es' that were put one after another, under the IDs 'ids', made of contents. -/
structure Fed (es : List ByteArray) (ids : List Id) (l : List Ct) : Prop where
  len : ids.length = es.length
  datas : l.map (·.data) = uniq es
  refs : ∀ c ∈ l, c.refs = cntD c.data es
  here : ∀ (k : Nat) (p : Id) (d : ByteArray), ids[k]? = some p → es[k]? = some d → ∃ c ∈ l, c.id = p ∧ c.data = d
theorem Fed.nil : Fed [] [] [] := ⟨rfl, rfl, (fun c hc => by cases hc), fun k p d h => by simp at h⟩
theorem cntD_zero {d : ByteArray} {es : List ByteArray} (h : d ∉ es) : cntD d es = 0 := by
  unfold cntD
  rw [List.countP_eq_zero]
  intro e he hc
  exact h (by rw [← of_decide_eq_true hc]; exact he)
theorem Fed.mem {es : List ByteArray} {ids : List Id} (F : Fed es ids l) (d : ByteArray) : d ∈ es ↔ ∃ c ∈ l, c.data = d := by
  rw [← mem_uniq, ← F.datas, List.mem_map]
theorem Fed.step {es : List ByteArray} {ids : List Id} (F : Fed es ids l) (ok : CtsOk width l) {d : ByteArray} {l' : List Ct} {p : Id} (S : PutStep width l d l' p) : Fed (es ++ [d]) (ids ++ [p]) l' := by
  refine ⟨by rw [List.length_append, List.length_append, F.len]; rfl, ?_, ?_, fun k q e hq he => ?_⟩
  · rw [uniq_snoc]
    cases S with
    | old i c hi hd =>
      rw [(withC_data hi (by omega)).1, F.datas, if_pos]
      rw [mem_uniq, F.mem]
      exact ⟨c, List.mem_of_getElem? hi, hd⟩
    | new n hd =>
      rw [List.map_append, F.datas, if_neg]
      · rfl
      · rw [mem_uniq, F.mem]
        rintro ⟨c, hc, e⟩
        exact hd c hc e
  · intro c hc
    rw [cntD_snoc]
    cases S with
    | old i c' hi hd =>
      rcases withC_mem hi (by omega) ok hc with rfl | ⟨h1, h2, _⟩
      · show c'.refs + 1 = cntD c'.data es + _
        rw [F.refs c' (List.mem_of_getElem? hi), if_pos hd.symm]
      · rw [F.refs c h1, if_neg (fun e => h2 (by rw [hd]; exact e.symm))]; omega
    | new n hd =>
      rcases List.mem_append.1 hc with hc | hc
      · rw [F.refs c hc, if_neg (fun e => hd c hc e.symm)]; omega
      · rw [List.mem_singleton.1 hc]
        show 1 = cntD d es + _
        rw [cntD_zero fun hm => by
          obtain ⟨c, hc, e⟩ := (F.mem d).1 hm
          exact hd c hc e]
        rw [if_pos rfl]
  · by_cases hk : k < es.length
    · rw [List.getElem?_append_left hk] at he
      rw [List.getElem?_append_left (by rw [F.len]; exact hk)] at hq
      obtain ⟨c, hc, h1, h2⟩ := F.here k q e hq he
      obtain ⟨c', hc', g1, g2⟩ := S.mono hc
      exact ⟨c', hc', by rw [g1, h1], by rw [g2, h2]⟩
    · have hk2 := (List.getElem?_eq_some_iff.1 he).1
      rw [List.length_append, List.length_singleton] at hk2
      obtain rfl : k = es.length := by omega
      rw [List.getElem?_append_right (Nat.le_refl _), Nat.sub_self] at he
      rw [List.getElem?_append_right (by rw [F.len]; exact Nat.le_refl _), F.len, Nat.sub_self] at hq
      simp at he hq
      subst he; subst hq
      exact S.here
theorem Fed.same {es : List ByteArray} {ids : List Id} (F : Fed es ids l) (ok : CtsOk width l) {j k : Nat} {p q : Id} {d e : ByteArray} (hp : ids[j]? = some p) (hd : es[j]? = some d) (hq : ids[k]? = some q) (he : es[k]? = some e) : p = q ↔ d = e := by
  obtain ⟨c, hc, rfl, rfl⟩ := F.here j p d hp hd
  obtain ⟨c', hc', rfl, rfl⟩ := F.here k q e hq he
  constructor
  · intro h
    have : c = c' := id_unique ok hc hc' ⟨congrArg Prod.fst h, by have := congrArg Prod.snd h; unfold Ct.id at this; simp at this; omega⟩
    rw [this]
  · intro h
    have : c = c' := data_unique ok hc hc' h
    rw [this]
theorem uniq_le (n : Nat) : ∀ (es : List ByteArray), es.length = n → (uniq es).length ≤ n := by
  induction n with
  | zero => intro es h; rw [List.length_eq_zero_iff.1 h]; exact Nat.le_refl _
  | succ n ih =>
    intro es h
    obtain ⟨fs, x, rfl⟩ := snoc_ex h
    have := ih fs (by simpa using h)
    rw [uniq_snoc]
    split
    · omega
    · rw [List.length_append, List.length_singleton]; omega
theorem Fed.count {es : List ByteArray} {ids : List Id} (F : Fed es ids l) : l.length = (uniq es).length ∧ l.length ≤ es.length ∧ sizes l = sizesU (uniq es) := by
  have h := congrArg List.length F.datas
  rw [List.length_map] at h
  refine ⟨h, by rw [h]; exact uniq_le _ es rfl, ?_⟩
  unfold sizesU
  rw [← F.datas, List.map_map]; rfl
theorem Fed.refs_le {es : List ByteArray} {ids : List Id} (F : Fed es ids l) : ∀ c ∈ l, c.refs ≤ es.length := fun c hc => by rw [F.refs c hc]; exact cntD_le _ _

/-! ### memory -/
def strC (s : ByteArray) : List Value := [.string s]
theorem strC_len (s : ByteArray) : (strC s).length = 1 := rfl
theorem idEq (a b : ByteArray) (m n : Int) : (beqS a b && (hb (m == n) && true)) = decide ((a, m) = (b, n)) := by
  rw [beqS_val, hb_eq, Bool.and_true]
  by_cases h1 : a = b
  · by_cases h2 : m = n
    · subst h1; subst h2; simp
    · simp [h1, h2]
  · simp [h1]
theorem ids_types {x : Hp} {a : Option Addr} {c : Nat} {ids : List Id} (O : OwnR idC 2 x tID a c ids) : ∀ c' t vs, blkOf a c' → Blk x c' t vs → t ≠ tTable ∧ t ≠ tPair ∧ t ≠ tStore := by
  intro c' t vs hc hb'
  obtain ⟨us, hu⟩ := own_blk O hc
  have := (hu.inj hb').1
  subst this
  exact ⟨by decide, by decide, by decide⟩
/-- A store with contents, and their IDs in a row, all made behind the heap 'h'. -/
structure Run (h x : Hp) (sb tb w : Nat) (full : Int) (X : List KV) (cts : List Ct) (a : Option Addr) (c : Nat) (ids : List Id) : Prop where
  sub : Sub h x
  tb0 : h tb = none
  cas : CasAt x sb tb w full X cts
  row : OwnR idC 2 x tID a c ids
  new : ∀ b, blkOf a b → h b = none ∧ b ≠ tb
variable {x : Hp} {w : Nat} {cts : List Ct} {a : Option Addr} {c : Nat} {ids : List Id}
theorem Run.look (R : Run h x sb tb w full X cts a c ids) {x' : Hp} (s : Sub x x') : Run h x' sb tb w full X cts a c ids :=
  ⟨R.sub.trans s, R.tb0, R.cas.sub s, R.row.sub s, R.new⟩
theorem Run.change (R : Run h x sb tb w full X cts a c ids) {x' : Hp} {cts' : List Ct} (k : Keep (fun b => b = tb) x x') (C : CasAt x' sb tb w full X cts') : Run h x' sb tb w full X cts' a c ids :=
  ⟨k.sub R.sub (fun b hb => by rw [hb]; exact R.tb0), R.tb0, C, R.row.keep k (fun b hb => (R.new b hb).2), R.new⟩
theorem Run.append (R : Run h x sb tb w full X cts a c ids) {L M : List Id} (hL : OwnR idC 2 x tID a c L) (hb : L.length + M.length ≤ 1000) {l n : Nat} {ys : List Value} (hl : l = L.length) (hn : n = M.length) (hy : ys = rowC idC M) {J : Option Addr → Nat → Hp → Prop}
    (hJ : ∀ a' c' x', Run h x' sb tb w full X cts a' c' (L ++ M) → J a' c' x') : appendC Try.prog tID a l c x ys n J := by
  refine append_ownR appTI idC_len idC_plain hL hl hn hy (by omega) fun a' c' x' o k n => hJ a' c' x' ⟨?_, R.tb0, ?_, o, fun b hb => ?_⟩
  · exact k.sub R.sub fun b hb => (R.new b hb).1
  · exact R.cas.keep k (ids_types R.row)
  · rcases n b hb with hb | hb
    · exact R.new b hb
    · refine ⟨R.sub.none hb, fun e => ?_⟩
      obtain ⟨⟨L, S, _⟩, _, _⟩ := R.cas
      obtain ⟨_, _, h1, _⟩ := S.table
      rw [e, h1.get] at hb; cases hb
theorem Run.start {x : Hp} (s : Sub h x) (t : h tb = none) (C : CasAt x sb tb w full X cts) : Run h x sb tb w full X cts none 0 [] :=
  ⟨s, t, C, OwnR.nil _ _, fun b ⟨o, s, e⟩ => by cases e⟩

theorem once_core (width : Int) (la : Option Addr) (lc : Nat) (ds : List ByteArray) (hr : RowAt strC 1 h la ds) :
    CallsH Try.prog 3 #[.int .i64 width, .slice la ds.length lc] h fun v h' => v = .bool true ∧ Sub h h' := by
  have str : ∀ {x : Hp} {i : Nat} {s : ByteArray}, Sub h x → ds[i]? = some s → ∃ b o, la = some ⟨b, o, none⟩ ∧ x.cell b (o + i * 1) = some (.string s) := fun s hs => by
    obtain ⟨b, o, e, hc⟩ := (hr.sub s).get strC_len (by decide) hs
    exact ⟨b, o, e, hc 0 _ rfl⟩
  apply law09_CasOnce.calls
  unfold law09_CasOnce.W
  intro k hk
  refine casNew0_spec hk (-1) width (fun e h1 s1 => ⟨_, _, rfl, split_ne (fun _ => split_cond (fun _ => lives_spec fun h2 s2 => ⟨_, rfl, rfl, s1.trans s2⟩) fun e => by cases e) fun e => by cases e⟩) fun w ew w1 w2 sb h1 s1 C => ⟨_, _, rfl, split_ne (fun e => absurd rfl e) fun _ => ?_⟩
  refine ⟨fun a l c x => ∃ cts ids, l = ids.length ∧ l ≤ 40 ∧ l ≤ ds.length ∧ Run h x sb k w (-1) [] cts a c ids ∧ Fed (ds.take l) ids cts, ?_,
    fun a l c n x m => ∃ cts ids, l = ids.length ∧ l ≤ 40 ∧ l ≤ ds.length ∧ Run h x sb k w (-1) [] cts a c ids ∧ Fed (ds.take l) ids cts ∧ n = (l : Int) ∧ m = 40 - l,
    ⟨_, [], [], rfl, by decide, by omega, Run.start s1 hk C, Fed.nil, rfl, rfl⟩, ?_⟩
  · -- looking
    rintro a l c x ⟨cts, ids, rfl, hl40, hll, R, F⟩
    have hlen : (ds.take ids.length).length = ids.length := by rw [List.length_take]; omega
    obtain ⟨cl1, cl2, cl3⟩ := F.count
    rw [hlen] at cl2
    refine ⟨fun u b n y m => ∃ j : Nat, n = (j : Int) ∧ j ≤ ids.length ∧ m = ids.length - j ∧ u = ((uniq (ds.take j)).length : Nat) ∧ b = (sizesU (uniq (ds.take j)) : Nat) ∧ Sub x y, ⟨_, 0, rfl, by omega, rfl, rfl, rfl, Sub.refl _⟩, ?_⟩
    rintro u b n y m ⟨j, rfl, hj, rfl, rfl, rfl, sy⟩
    refine split_dec (fun g => ?_) (fun g => ?_)
    · have g1 : j < ids.length := by have : (j : Int) < (ids.length : Int) := g; omega
      have hp : ids[j]? = some ids[j] := List.getElem?_eq_getElem g1
      generalize ids[j] = p at hp
      have hd : ds[j]? = some (ds[j]'(by omega)) := List.getElem?_eq_getElem (by omega)
      generalize ds[j]'(by omega) = d at hd
      have hd' : (ds.take ids.length)[j]? = some d := by rw [List.getElem?_take, if_pos g1]; exact hd
      obtain ⟨ct, hct, e1, e2⟩ := F.here j p d hp hd'
      have hf : findC cts p.1 p.2 = some ct := by
        have := findC_some R.cas.ok hct
        rw [← e1]; exact this
      obtain ⟨bb, o, ea, hc⟩ := ((R.look sy).row.row).get idC_len (by decide) hp
      refine ⟨by omega, g, bb, o, ea, _, hc 0 _ rfl, _, hc 1 _ rfl, get_spec (R.look sy).cas (by simp; omega) _ _ fun z sz => ⟨_, _, rfl, ?_⟩⟩
      rw [hf]
      refine split_not (fun e => by cases e) fun _ => ?_
      obtain ⟨b1, o1, ea1, hc1⟩ := str (x := z) (((R.sub.trans sy).trans sz)) hd
      refine ⟨by omega, by show (j : Int) < (ds.length : Int); omega, b1, o1, ea1, _, hc1, split_not (fun e => ?_) (fun _ => ?_)⟩
      · rw [beqS_val] at e
        exact absurd e2 (of_decide_eq_false e)
      rename_i ee
      have ht : ds.take (j + 1) = ds.take j ++ [d] := by rw [List.take_add_one, hd]; rfl
      have sxz : Sub x z := sy.trans sz
      refine ⟨fun f r n v m => v = z ∧ ∃ q : Nat, n = (q : Int) ∧ q ≤ ids.length ∧ m = ids.length - q ∧ f = decide (d ∉ ds.take (min q j)) ∧ r = (cntD d (ds.take q) : Nat), ⟨_, rfl, 0, rfl, by omega, rfl, by simp, rfl⟩, ?_⟩
      rintro f r n v m ⟨rfl, q, rfl, hq, rfl, rfl, rfl⟩
      have hcd := cntD_le d (ds.take q)
      rw [List.length_take] at hcd
      refine split_dec (fun g2 => ?_) (fun g2 => ?_)
      · have g3 : q < ids.length := by have : (q : Int) < (ids.length : Int) := g2; omega
        have he : ds[q]? = some (ds[q]'(by omega)) := List.getElem?_eq_getElem (by omega)
        generalize ds[q]'(by omega) = e at he
        have htq : ds.take (q + 1) = ds.take q ++ [e] := by rw [List.take_add_one, he]; rfl
        obtain ⟨b2, o2, ea2, hc2⟩ := str (x := v) (R.sub.trans sxz) he
        refine ⟨fun f' v' => v' = v ∧ f' = decide (d ∉ ds.take (min (q + 1) j)), ?_, ?_⟩
        · rintro f' v' ⟨rfl, rfl⟩
          refine ⟨by omega, by show (q : Int) < (ds.length : Int); omega, b2, o2, ea2, _, hc2, by omega, by show (j : Int) < (ds.length : Int); omega, b1, o1, ea1, _, hc1, ?_⟩
          refine split_beqS (fun e3 => ⟨_, ?_, rfl, q + 1, by rw [wid (by omega) (by omega)]; omega, by omega, rfl, rfl, ?_⟩) (fun e3 => ⟨_, ?_, rfl, q + 1, by rw [wid (by omega) (by omega)]; omega, by omega, rfl, rfl, ?_⟩)
          · omega
          · rw [htq, cntD_snoc, if_pos e3, wid (by omega) (by omega)]; omega
          · omega
          · rw [htq, cntD_snoc, if_neg e3, Nat.add_zero]
        · refine split_cond (fun e3 => ?_) (fun e3 => ⟨rfl, ?_⟩)
          · have e3 := of_decide_eq_true e3
            refine split_dec (fun g4 => ?_) (fun g4 => ⟨rfl, ?_⟩)
            · have g4 : q < j := by omega
              refine ⟨by omega, by show (q : Int) < (ds.length : Int); omega, b2, o2, ea2, _, hc2, by omega, by show (j : Int) < (ds.length : Int); omega, b1, o1, ea1, _, hc1, rfl, ?_⟩
              rw [Nat.min_eq_left (by omega)] at e3 ⊢
              rw [htq, beqS_val]
              have hiff : d ∈ ds.take q ++ [e] ↔ e = d := by
                rw [List.mem_append, List.mem_singleton]
                exact ⟨fun hm => hm.elim (fun hm => absurd hm e3) Eq.symm, fun e4 => .inr e4.symm⟩
              rw [decide_not, decide_eq_decide.2 hiff]
            · rw [Nat.min_eq_right (by omega)] at e3 ⊢
              rw [decide_eq_true e3]; rfl
          · have e3 := of_decide_eq_false e3
            rw [decide_eq_false]
            intro hn
            apply e3
            intro hm
            apply hn
            have : ds.take (min q j) = (ds.take (min (q + 1) j)).take (min q j) := by rw [List.take_take]; congr 1; omega
            rw [this] at hm
            exact List.mem_of_mem_take hm
      · have : q = ids.length := by
          have : ¬ (q : Int) < (ids.length : Int) := g2
          omega
        subst this
        rw [Nat.min_eq_right hj]
        have hu := uniq_snoc (ds.take j) d
        rw [← ht] at hu
        have hu2 : ∀ us : List ByteArray, sizesU (us ++ [d]) = sizesU us + d.size := fun us => by unfold sizesU; simp
        have hb2 : (uniq (ds.take j)).length ≤ 40 := by
          have := uniq_le _ (ds.take j) rfl
          rw [List.length_take] at this
          omega
        have hb1 : sizesU (uniq (ds.take j)) ≤ 128 * 40 := by
          have := sum_le ByteArray.size 128 (uniq (ds.take j)) fun y hy => by
            have hy := (mem_uniq _ _).1 hy
            have e : ds.take j = (ds.take ids.length).take j := by rw [List.take_take, Nat.min_eq_left hj]
            rw [e] at hy
            obtain ⟨c2, hc2, e2⟩ := (F.mem y).1 (List.mem_of_mem_take hy)
            rw [← e2]; exact R.cas.ok.size c2 hc2
          exact Nat.le_trans this (Nat.mul_le_mul_left _ hb2)
        have hds : d.size ≤ 128 := by rw [← e2]; exact R.cas.ok.size ct hct
        refine ⟨fun u b z2 => z2 = v ∧ u = ((uniq (ds.take (j + 1))).length : Nat) ∧ b = (sizesU (uniq (ds.take (j + 1))) : Nat), ?_, ?_⟩
        · rintro u b z2 ⟨rfl, rfl, rfl⟩
          obtain ⟨b3, o3, ea3, hc3⟩ := ((R.look sxz).row.row).get idC_len (by decide) hp
          refine ⟨by omega, by show (j : Int) < (ids.length : Int); omega, b3, o3, ea3, _, hc3 0 _ rfl, _, hc3 1 _ rfl, refsS_spec (R.look sxz).cas (by simp; omega) _ _ fun z3 s3 => ⟨_, rfl, ?_⟩⟩
          rw [hf]
          refine split_ne (fun e => ?_) (fun _ => ⟨_, ?_, j + 1, by rw [wid (by omega) (by omega)]; omega, by omega, rfl, rfl, rfl, sxz.trans s3⟩)
          · exfalso; apply e
            show (ct.refs : Int) = _
            rw [F.refs ct hct, e2]
          · omega
        · refine split_cond (fun e => ?_) (fun e => ⟨rfl, ?_, ?_⟩)
          · have e := of_decide_eq_true e
            rw [if_neg (fun hm => e ((mem_uniq _ _).1 hm))] at hu
            refine ⟨by omega, by show (j : Int) < (ds.length : Int); omega, b1, o1, ea1, _, hc1, rfl, ?_, ?_⟩
            · rw [hu, wid (by omega) (by omega), List.length_append]; rfl
            · rw [hu, hu2]
              show IntKind.i64.wrap (_ + ((d.size : Nat) : Int)) = _
              rw [wid (by omega) (by omega)]; omega
          · have e := of_decide_eq_false e
            rw [if_pos ((mem_uniq _ _).2 (Classical.not_not.1 e))] at hu
            rw [hu]
          · have e := of_decide_eq_false e
            rw [if_pos ((mem_uniq _ _).2 (Classical.not_not.1 e))] at hu
            rw [hu]
    · have : j = ids.length := by
        have : ¬ (j : Int) < (ids.length : Int) := g
        omega
      subst this
      refine count_spec (R.look sy).cas (by simp; omega) fun z sz => ⟨_, _, rfl, ?_⟩
      rw [cl1, cl3]
      refine split_eq (fun _ => split_eq (fun _ => lives_spec fun z2 s2 => ⟨_, rfl, rfl, ((R.sub.trans sy).trans sz).trans s2⟩) fun e => absurd rfl e) fun e => absurd rfl e
  · -- putting
    rintro a l c n x m ⟨cts, ids, rfl, hl40, hll, R, F, rfl, rfl⟩
    have hlen : (ds.take ids.length).length = ids.length := by rw [List.length_take]; omega
    obtain ⟨cl1, cl2, cl3⟩ := F.count
    rw [hlen] at cl2
    refine split_dec (fun g => split_dec (fun g2 => ?_) fun g2 => ⟨cts, ids, rfl, hl40, hll, R, F⟩) fun g => ⟨cts, ids, rfl, hl40, hll, R, F⟩
    have g : ids.length < ds.length := by have : (ids.length : Int) < (ds.length : Int) := g; omega
    have hd : ds[ids.length]? = some ds[ids.length] := List.getElem?_eq_getElem g
    generalize ds[ids.length] = d at hd
    obtain ⟨b1, o1, ea1, hc1⟩ := str (x := x) R.sub hd
    refine ⟨by omega, by show (ids.length : Int) < (ds.length : Int); omega, b1, o1, ea1, _, hc1, split_dec (fun _ => lives_spec fun z2 s2 => ⟨_, rfl, rfl, R.sub.trans s2⟩) fun gs => ?_⟩
    have gs : d.size ≤ 128 := by have : ¬ ((d.size : Nat) : Int) > 128 := gs; omega
    refine ⟨by omega, by show (ids.length : Int) < (ds.length : Int); omega, b1, o1, ea1, _, hc1, put_ok R.cas (by decide) (by omega) (fun c hc => ?_) (by decide) d gs fun l' p x2 S k2 C2 => ⟨_, _, _, rfl, split_ne (fun e => absurd rfl e) fun _ => ?_⟩⟩
    · have := F.refs_le c hc
      rw [hlen] at this; omega
    have R2 := R.change k2 C2
    have F2 := F.step R.cas.ok S
    have ht : ds.take (ids.length + 1) = ds.take ids.length ++ [d] := by rw [List.take_add_one, hd]; rfl
    rw [← ht] at F2
    refine ⟨fun n y m => y = x2 ∧ ∃ q : Nat, n = (q : Int) ∧ q ≤ ids.length ∧ m = ids.length - q, ⟨_, rfl, 0, rfl, by omega, rfl⟩, ?_⟩
    rintro n y m ⟨rfl, q, rfl, hq, rfl⟩
    refine split_dec (fun g3 => ?_) (fun g3 => ?_)
    · have g3 : q < ids.length := by have : (q : Int) < (ids.length : Int) := g3; omega
      have hp : ids[q]? = some ids[q] := List.getElem?_eq_getElem g3
      generalize ids[q] = p2 at hp
      have he : ds[q]? = some (ds[q]'(by omega)) := List.getElem?_eq_getElem (by omega)
      generalize ds[q]'(by omega) = e at he
      obtain ⟨b2, o2, ea2, hc2⟩ := str (x := y) R2.sub he
      obtain ⟨b3, o3, ea3, hc3⟩ := str (x := y) R2.sub hd
      obtain ⟨bb, o, ea, hc⟩ := R2.row.row.get idC_len (by decide) hp
      refine ⟨by omega, by show (q : Int) < (ids.length : Int); omega, bb, o, ea, _, hc 0 _ rfl, _, hc 1 _ rfl, by omega, by show (q : Int) < (ds.length : Int); omega, b2, o2, ea2, _, hc2, by omega, by show (ids.length : Int) < (ds.length : Int); omega, b3, o3, ea3, _, hc3, ?_⟩
      rw [idEq, beqS_val]
      have hsame := F2.same C2.ok (j := q) (k := ids.length) (p := p2) (q := p) (d := e) (e := d) (by rw [List.getElem?_append_left g3]; exact hp) (by rw [List.getElem?_take, if_pos (by omega)]; exact he)
        (by rw [List.getElem?_append_right (Nat.le_refl _), Nat.sub_self]; rfl) (by rw [List.getElem?_take, if_pos (by omega)]; exact hd)
      have : decide ((p2.1, p2.2) = (p.1, p.2)) = decide (e = d) := by rw [decide_eq_decide]; exact hsame
      rw [this]
      refine split_cond (fun e5 => ?_) (fun _ => ⟨_, ?_, rfl, q + 1, by rw [wid (by omega) (by omega)]; omega, by omega, rfl⟩)
      · cases hde : decide (e = d) <;> rw [hde] at e5 <;> cases e5
      · omega
    · intro k2' hk2'
      have R3 := R2.look (Sub.upd hk2' (.cells #[.string p.1, .int .i64 p.2] 34 (0, 0)))
      refine ⟨idC p, (Blk.new _ _ _ (idC p)).slice rfl, fun a' c' z => Run h z sb k w (-1) [] l' a' c' (ids ++ [p]), fun a' c' z R4 => ⟨_, ?_, l', ids ++ [p], by simp, by simp; omega, by omega, R4, F2, by rw [wid (by omega) (by omega)]; omega, rfl⟩, R3.append R3.row (M := [p]) (by simp; omega) rfl rfl (rowC_one _).symm fun a' c' z R4 => R4⟩
      omega
end Go.Proofs.Ytpokejaglmkphaa
