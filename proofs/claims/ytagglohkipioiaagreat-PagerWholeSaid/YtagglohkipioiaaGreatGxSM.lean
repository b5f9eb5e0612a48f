/- Maps: that the model's operations do what the executor says. Conditions: none (no statement of the seat is claimed here). -/
import Derived.Test.YtagglohkipioiaaGreatGxS6
import Derived.WideKeyRuns
import Derived.Laws.StructEq
namespace Go.Gx
open Go.Instr Go.MapKept
variable {P : Program}
theorem keyOk1_isKey {t : TypeId} {v : Value} (h : keyOk1 P t v = true) : ∃ d, P.underlying t = some d ∧ IsKey d v := by
  unfold keyOk1 at h
  split at h
  · rename_i e
    have := ikEq_spec h
    subst this
    exact ⟨_, tdesc_some e (by simp), rfl⟩
  · rename_i e; exact ⟨_, tdesc_some e (by simp), trivial⟩
  · rename_i e; exact ⟨_, tdesc_some e (by simp), trivial⟩
  · cases h
theorem keyOk1_agg {t : TypeId} {v : Value} (h : keyOk1 P t v = true) : aggT P t = false ∧ okU P t = true := by
  obtain ⟨d, h1, h2⟩ := keyOk1_isKey h
  have ht : tdesc P t = d := by unfold tdesc; rw [h1]; rfl
  refine ⟨?_, by unfold okU; rw [h1]; rfl⟩
  unfold aggT
  rw [ht]
  cases d <;> first | rfl | exact h2.elim
theorem run_eq1 {t : TypeId} {x y : Value} (hx : keyOk1 P t x = true) (hy : keyOk1 P t y = true) (d : Nat) (w : World) : ∃ r, (Op.equalIn (d + 1) t x y).run P w = .ok r w ∧ (r = true ↔ x = y) := by
  obtain ⟨dx, h1, h2⟩ := keyOk1_isKey hx
  obtain ⟨dy, h3, h4⟩ := keyOk1_isKey hy
  rw [h1] at h3
  cases h3
  cases dx <;> cases x <;> first | exact h2.elim | skip
  · cases y <;> first | exact h4.elim | skip
    refine ⟨_, run_equalIn_bool w d t _ _ h1, by simp⟩
  · cases y <;> first | exact h4.elim | skip
    have e1 : _ = _ := h2
    have e2 : _ = _ := h4
    subst e1
    subst e2
    refine ⟨_, run_equalIn_int w d t _ _ _ _ h1, by simp⟩
  · cases y <;> first | exact h4.elim | skip
    rename_i a b
    refine ⟨_, run_equalIn_string w d t _ _ h1, ?_⟩
    constructor
    · intro h
      have h := beq_iff_eq.1 h
      congr 1
      have e1 : ∀ s : ByteArray, s.toList = s.toList := fun _ => rfl
      exact ByteArray.ext (by
        have k : ∀ s : ByteArray, s.toList = s.data.toList := by
          intro s
          have key : ∀ (n i : Nat) (r : List UInt8), s.size - i = n → ByteArray.toList.loop s i r = r.reverse ++ s.data.toList.drop i := by
            intro n
            induction n with
            | zero =>
              intro i r h
              rw [ByteArray.toList.loop.eq_def, if_neg (by omega)]
              have : s.data.toList.drop i = [] := List.drop_eq_nil_of_le (by show s.data.toList.length ≤ i; rw [Array.length_toList]; show s.size ≤ i; omega)
              rw [this, List.append_nil]
            | succ n ih =>
              intro i r h
              rw [ByteArray.toList.loop.eq_def, if_pos (by omega)]
              have hi : i < s.data.toList.length := by rw [Array.length_toList]; show i < s.size; omega
              rw [ih (i + 1) (s.get! i :: r) (by omega), List.drop_eq_getElem_cons hi]
              have e : s.get! i = s.data.toList[i] := by
                unfold ByteArray.get!
                have : i < s.data.size := by simpa using hi
                rw [Array.getElem_toList]
                exact getElem!_pos s.data i this
              rw [e]; simp
          unfold ByteArray.toList
          rw [key _ 0 [] rfl]; simp
        rw [k, k] at h
        exact Array.ext' h)
    · intro h
      cases h
      exact beq_iff_eq.2 rfl
theorem run_part1 {t : TypeId} {cs : List Value} {o : Nat} {v : Value} (h : keyOk1 P t v = true) (hv : cs[o]? = some v) (w : World) : (part t cs.toArray o).run P w = .ok v w := by
  obtain ⟨h1, h2⟩ := keyOk1_agg h
  have : loadL P t cs o fun u => u = v := by
    unfold loadL
    rw [h1, h2, hv]; rfl
  obtain ⟨u, rfl, hr⟩ := part_spec this
  exact hr w
theorem run_eqs : ∀ (fs : List Field) (xs ys px py : List Value) (d : Nat) (w : World), keyFs P fs px.length = true → keyOks P fs xs = true → keyOks P fs ys = true → px.length = py.length →
    ∃ r, (Op.eqFields (d + 1) (px ++ xs).toArray (py ++ ys).toArray fs).run P w = .ok r w ∧ (r = true ↔ xs = ys)
  | [], xs, ys, px, py, d, w, _, hx, hy, _ => by
    cases xs with
    | cons a b => cases hx
    | nil =>
      cases ys with
      | cons a b => cases hy
      | nil => exact ⟨true, by simp [Op.eqFields], by simp⟩
  | f :: fs, xs, ys, px, py, d, w, hf, hx, hy, hl => by
    cases xs with
    | nil => cases hx
    | cons x xs =>
      cases ys with
      | nil => cases hy
      | cons y ys =>
        simp only [keyFs, Bool.and_eq_true, Bool.not_eq_true'] at hf
        obtain ⟨⟨⟨hn, ht⟩, ho⟩, hf⟩ := hf
        simp only [keyOks, Bool.and_eq_true] at hx hy
        have ho := Nat.eq_of_beq_eq_true ho
        have p1 := run_part1 (cs := px ++ x :: xs) (o := f.offset) hx.1 (by rw [ho, List.getElem?_append_right (Nat.le_refl _), Nat.sub_self]; rfl) w
        have p2 := run_part1 (cs := py ++ y :: ys) (o := f.offset) hy.1 (by rw [ho, hl, List.getElem?_append_right (Nat.le_refl _), Nat.sub_self]; rfl) w
        obtain ⟨r, r1, r2⟩ := run_eq1 hx.1 hy.1 d w
        obtain ⟨s, s1, s2⟩ := run_eqs fs xs ys (px ++ [x]) (py ++ [y]) d w (by simpa using hf) hx.2 hy.2 (by simp [hl])
        rw [List.append_assoc, List.append_assoc] at s1
        refine ⟨r && s, ?_, ?_⟩
        · simp only [Op.eqFields, bne_of f hn, ne_eq, not_false_eq_true, if_true, Sem.run_bind, p1, p2, r1, Result.andThen_ok]
          cases r
          · simp
          · simpa using s1
        · rw [Bool.and_eq_true, r2, s2, List.cons.injEq]
theorem keyOk_struct {t : TypeId} {fs : Array Field} (ht : tdesc P t = .struct fs) {v : Value} (h : keyOk P t v = true) : ∃ cs : List Value, v = .agg cs.toArray ∧ keyOks P fs.toList cs = true := by
  unfold keyOk at h
  rw [ht] at h
  simp only [] at h
  split at h
  · rename_i cs; exact ⟨cs.toList, by simp, h⟩
  · cases h
theorem keyOk_plain {t : TypeId} (ht : ∀ fs, tdesc P t ≠ .struct fs) {v : Value} (h : keyOk P t v = true) : keyOk1 P t v = true := by
  unfold keyOk at h
  split at h
  · rename_i fs e; exact absurd e (ht fs)
  · exact h
theorem keyT_struct {t : TypeId} {fs : Array Field} (ht : tdesc P t = .struct fs) (h : keyT P t = true) : P.stoodInHeld t = false ∧ keyFs P fs.toList 0 = true := by
  unfold keyT at h
  rw [ht] at h
  simpa using h
theorem run_keyEq {t : TypeId} (ht : keyT P t = true) {x y : Value} (hx : keyOk P t x = true) (hy : keyOk P t y = true) (w : World) : ∃ r, (Op.equal t x y).run P w = .ok r w ∧ (r = true ↔ x = y) := by
  obtain ⟨n, hn⟩ : ∃ n, Op.maxDepth = n + 2 := ⟨Op.maxDepth - 2, by decide⟩
  unfold Op.equal
  rw [hn]
  by_cases hs : ∃ fs, tdesc P t = .struct fs
  · obtain ⟨fs, hs⟩ := hs
    obtain ⟨xs, rfl, hx'⟩ := keyOk_struct hs hx
    obtain ⟨ys, rfl, hy'⟩ := keyOk_struct hs hy
    obtain ⟨h1, h2⟩ := keyT_struct hs ht
    have hu := tdesc_some hs (by simp)
    have hf : P.fieldsOf t = fs := by unfold Program.fieldsOf; rw [hu]
    obtain ⟨r, r1, r2⟩ := run_eqs fs.toList xs ys [] [] n w h2 hx' hy' rfl
    refine ⟨r, ?_, ?_⟩
    · rw [run_equalIn_struct w (n + 1) t xs.toArray ys.toArray (by rw [hf]; exact hu) h1, hf]
      exact r1
    · rw [r2]
      constructor
      · rintro rfl; rfl
      · intro h
        have : xs.toArray = ys.toArray := by injection h
        have := congrArg Array.toList this
        simpa using this
  · have hs : ∀ fs, tdesc P t ≠ .struct fs := fun fs e => hs ⟨fs, e⟩
    exact run_eq1 (keyOk_plain hs hx) (keyOk_plain hs hy) (n + 1) w
theorem run_check {t : TypeId} (ht : keyT P t = true) {x : Value} (hx : keyOk P t x = true) (em : Bool) (w : World) : (Instr.checkKey em 10000 t x).run P w = .ok () w := by
  by_cases hs : ∃ fs, tdesc P t = .struct fs
  · obtain ⟨fs, hs⟩ := hs
    obtain ⟨xs, rfl, hx'⟩ := keyOk_struct hs hx
    obtain ⟨h1, h2⟩ := keyT_struct hs ht
    have hu := tdesc_some hs (by simp)
    rw [show (10000 : Nat) = 9999 + 1 from rfl, Instr.checkKey]
    simp only [Sem.run_bind, run_underlying hu, Result.andThen_ok]
    rw [← Array.forIn_toList]
    have hgen : ∃ px ys, xs = px ++ ys ∧ keyFs P fs.toList px.length = true ∧ keyOks P fs.toList ys = true := ⟨[], xs, rfl, h2, hx'⟩
    clear h2 hx' hu hs hx
    generalize fs.toList = L at hgen
    induction L with
    | nil => simp
    | cons f L ih =>
      obtain ⟨px, ys, rfl, hf, hy⟩ := hgen
      cases ys with
      | nil => cases hy
      | cons x ys =>
        simp only [keyFs, Bool.and_eq_true, Bool.not_eq_true'] at hf
        obtain ⟨⟨⟨hn, ht⟩, ho⟩, hf⟩ := hf
        simp only [keyOks, Bool.and_eq_true] at hy
        have ho := Nat.eq_of_beq_eq_true ho
        have p1 := run_part1 (cs := px ++ x :: ys) (o := f.offset) hy.1 (by rw [ho, List.getElem?_append_right (Nat.le_refl _), Nat.sub_self]; rfl) w
        obtain ⟨dd, k1, k2⟩ := keyOk1_isKey hy.1
        have p2 := run_checkKey (w := w) k1 k2 em 9998
        simp only [List.forIn_cons, Sem.run_bind, bne_of f hn, ne_eq, not_false_eq_true, if_true, Result.andThen_ok, p1, p2, Sem.run_pure]
        exact ih ⟨px ++ [x], ys, by simp, by simpa using hf, hy.2⟩
  · have hs : ∀ fs, tdesc P t ≠ .struct fs := fun fs e => hs ⟨fs, e⟩
    obtain ⟨d, h1, h2⟩ := keyOk1_isKey (keyOk_plain hs hx)
    exact run_checkKey h1 h2 em 9999
/-- Where a key stands. -/
theorem run_find {t : TypeId} (ht : keyT P t = true) {x : Value} (hx : keyOk P t x = true) (w : World) (es : List MapEntry) (hes : ∀ e ∈ es, keyOk P t e.key = true) :
    ((Instr.findKey t x es).run P w = .ok none w ∧ ∀ e ∈ es, e.key ≠ x) ∨ ∃ j e, (Instr.findKey t x es).run P w = .ok (some (j, e.val)) w ∧ es[j]? = some e ∧ e.key = x := by
  by_cases hs : ∃ fs, tdesc P t = .struct fs
  · obtain ⟨fs, hs⟩ := hs
    have hu := tdesc_some hs (by simp)
    rw [run_findKey_eq w (by rw [hu]) x es]
    have key : ∀ (es : List MapEntry) (i : Nat), (∀ e ∈ es, keyOk P t e.key = true) → ((Instr.findAsking t x es i).run P w = .ok none w ∧ ∀ e ∈ es, e.key ≠ x) ∨ ∃ j e, (Instr.findAsking t x es i).run P w = .ok (some (i + j, e.val)) w ∧ es[j]? = some e ∧ e.key = x := by
      intro es
      induction es with
      | nil => intro i _; exact .inl ⟨by simp [Instr.findAsking], by simp⟩
      | cons e es ih =>
        intro i hes
        obtain ⟨r, r1, r2⟩ := run_keyEq ht hx (hes e (by simp)) w
        cases r with
        | true => exact .inr ⟨0, e, by simp [Instr.findAsking, r1], rfl, (r2.1 rfl).symm⟩
        | false =>
          have hne : e.key ≠ x := fun h => by have := r2.2 h.symm; cases this
          rcases ih (i + 1) (fun y hy => hes y (by simp [hy])) with ⟨h1, h2⟩ | ⟨j, e', h1, h2, h3⟩
          · left
            refine ⟨by simp [Instr.findAsking, r1, h1], fun y hy => ?_⟩
            rcases List.mem_cons.1 hy with rfl | hy
            · exact hne
            · exact h2 y hy
          · exact .inr ⟨j + 1, e', by simp [Instr.findAsking, r1, h1, Nat.add_assoc, Nat.add_comm 1 j], by simpa using h2, h3⟩
    rcases key es 0 hes with h | ⟨j, e, h1, h2, h3⟩
    · exact .inl h
    · exact .inr ⟨j, e, by simpa using h1, h2, h3⟩
  · have hs : ∀ fs, tdesc P t ≠ .struct fs := fun fs e => hs ⟨fs, e⟩
    obtain ⟨d, h1, h2⟩ := keyOk1_isKey (keyOk_plain hs hx)
    have hks : ∀ e ∈ es, IsKey d e.key := fun e he => by
      obtain ⟨d', g1, g2⟩ := keyOk1_isKey (keyOk_plain hs (hes e he))
      rw [h1] at g1; cases g1; exact g2
    rcases findNow_spec h2 es 0 hks with ⟨g1, g2⟩ | ⟨j, e, g1, g2, g3⟩
    · exact .inl ⟨run_findKey h1 g1, g2⟩
    · exact .inr ⟨j, e, by simpa using run_findKey h1 g1, g2, g3⟩
theorem sameBits_refl {t : TypeId} {x : Value} (hx : keyOk P t x = true) (n : Nat) : Instr.sameBits (n + 2) x x = true := by
  by_cases hs : ∃ fs, tdesc P t = .struct fs
  · obtain ⟨fs, hs⟩ := hs
    obtain ⟨xs, rfl, hx'⟩ := keyOk_struct hs hx
    have : ∀ (fs : List Field) (xs : List Value), keyOks P fs xs = true → (xs.zip xs).all (fun (x, y) => Instr.sameBits (n + 1) x y) = true := by
      intro fs
      induction fs with
      | nil => intro xs h; cases xs with | nil => rfl | cons a b => cases h
      | cons f fs ih =>
        intro xs h
        cases xs with
        | nil => rfl
        | cons x xs =>
          simp only [keyOks, Bool.and_eq_true] at h
          obtain ⟨d, h1, h2⟩ := keyOk1_isKey h.1
          simp only [List.zip_cons_cons, List.all_cons, sameBits_self h2, Bool.true_and]
          exact ih xs h.2
    unfold Instr.sameBits
    simp only [beq_self_eq_true, Bool.true_and]
    exact this _ _ hx'
  · have hs : ∀ fs, tdesc P t ≠ .struct fs := fun fs e => hs ⟨fs, e⟩
    obtain ⟨d, h1, h2⟩ := keyOk1_isKey (keyOk_plain hs hx)
    exact sameBits_self h2 _
theorem run_stays {t : TypeId} {x : Value} (hx : keyOk P t x = true) (w : World) : (Instr.keyThatStays x x).run P w = .ok x w := by
  simp [Instr.keyThatStays, sameBits_refl hx 9998]

/-! ### entries -/
theorem mget_none {m : List (Value × Value)} {k : Value} (h : ∀ e ∈ m, e.1 ≠ k) : mget m k = none := by
  unfold mget
  rw [Option.map_eq_none_iff, List.find?_eq_none]
  intro e he
  simpa using h e he
theorem mget_at {es : List MapEntry} (hs : (es.map (·.key)).Nodup) {j : Nat} {e : MapEntry} (h : es[j]? = some e) : mget (es.map fun e => (e.key, e.val)) e.key = some e.val := by
  unfold mget
  have : ∀ (es : List MapEntry) (j : Nat), (es.map (·.key)).Nodup → es[j]? = some e → (es.map fun e => (e.key, e.val)).find? (fun x => @decide (x.1 = e.key) (Classical.propDecidable _)) = some (e.key, e.val) := by
    intro es
    induction es with
    | nil => intro j _ h; simp at h
    | cons a es ih =>
      intro j hs h
      rw [List.map_cons, List.nodup_cons] at hs
      rw [List.map_cons, List.find?_cons]
      by_cases ha : a.key = e.key
      · have : a = e := by
          cases j with
          | zero => simpa using h
          | succ j =>
            exfalso
            apply hs.1
            rw [ha]
            exact List.mem_map.2 ⟨e, List.mem_of_getElem? (by simpa using h), rfl⟩
        subst this
        simp
      · have hd : @decide (a.key = e.key) (Classical.propDecidable _) = false := by simpa using ha
        rw [hd]
        cases j with
        | zero => exact absurd (by simp at h; rw [h]) ha
        | succ j => exact ih j hs.2 (by simpa using h)
  rw [this es j hs h]; rfl
theorem stamped_key {es : Array MapEntry} {clock : Nat} (h : Stamped es clock) : (es.toList.map (·.key)).Nodup := h.2.2
theorem mset_at {es : List MapEntry} (hs : (es.map (·.key)).Nodup) {j : Nat} {e : MapEntry} (h : es[j]? = some e) (v : Value) : (es.modify j fun e => { e with val := v }).map (fun e => (e.key, e.val)) = mset (es.map fun e => (e.key, e.val)) e.key v := by
  unfold mset
  rw [mget_at hs h]
  simp only []
  have : ∀ (es : List MapEntry) (j : Nat), (es.map (·.key)).Nodup → es[j]? = some e → (es.modify j fun e => { e with val := v }).map (fun e => (e.key, e.val)) = (es.map fun e => (e.key, e.val)).map fun x => @ite _ (x.1 = e.key) (Classical.propDecidable _) (e.key, v) x := by
    intro es
    induction es with
    | nil => intro j _ h; simp at h
    | cons a es ih =>
      intro j hs h
      rw [List.map_cons, List.nodup_cons] at hs
      cases j with
      | zero =>
        simp at h
        subst h
        have hrest : (es.map fun e => (e.key, e.val)).map (fun x => @ite _ (x.1 = a.key) (Classical.propDecidable _) (a.key, v) x) = es.map fun e => (e.key, e.val) := by
          rw [List.map_map]
          refine List.map_congr_left fun x hx => ?_
          have : x.key ≠ a.key := fun e => hs.1 (by rw [← e]; exact List.mem_map.2 ⟨x, hx, rfl⟩)
          simp [this]
        rw [List.map_cons, List.map_cons, hrest]
        simp
      | succ j =>
        have hne : a.key ≠ e.key := fun e2 => hs.1 (by rw [e2]; exact List.mem_map.2 ⟨e, List.mem_of_getElem? (by simpa using h), rfl⟩)
        have := ih j hs.2 (by simpa using h)
        rw [List.map_cons, List.map_cons, ← this]
        simp [hne]
  exact this es j hs h
theorem mset_new {es : List MapEntry} {k : Value} (h : ∀ e ∈ es, e.key ≠ k) (v : Value) (b : Nat) : (es ++ [({ key := k, val := v, born := b } : MapEntry)]).map (fun e => (e.key, e.val)) = mset (es.map fun e => (e.key, e.val)) k v := by
  unfold mset
  rw [mget_none (by intro e he; obtain ⟨x, hx, rfl⟩ := List.mem_map.1 he; exact h x hx)]
  simp
theorem mdel_none {es : List MapEntry} {k : Value} (h : ∀ e ∈ es, e.key ≠ k) : es.map (fun e => (e.key, e.val)) = mdel (es.map fun e => (e.key, e.val)) k := by
  unfold mdel
  rw [List.filter_eq_self.2]
  intro e he
  obtain ⟨x, hx, rfl⟩ := List.mem_map.1 he
  simpa using h x hx
theorem mdel_at {es : List MapEntry} (hs : (es.map (·.key)).Nodup) {j : Nat} {e : MapEntry} (h : es[j]? = some e) : (es.eraseIdx j).map (fun e => (e.key, e.val)) = mdel (es.map fun e => (e.key, e.val)) e.key := by
  unfold mdel
  have : ∀ (es : List MapEntry) (j : Nat), (es.map (·.key)).Nodup → es[j]? = some e → (es.eraseIdx j).map (fun e => (e.key, e.val)) = (es.map fun e => (e.key, e.val)).filter fun x => @decide (x.1 ≠ e.key) (Classical.propDecidable _) := by
    intro es
    induction es with
    | nil => intro j _ h; simp at h
    | cons a es ih =>
      intro j hs h
      rw [List.map_cons, List.nodup_cons] at hs
      cases j with
      | zero =>
        simp at h
        subst h
        have hd : @decide (a.key ≠ a.key) (Classical.propDecidable _) = false := by simp
        rw [List.map_cons, List.filter_cons_of_neg (by simp), List.eraseIdx_cons_zero, List.filter_eq_self.2]
        intro x hx
        obtain ⟨y, hy, rfl⟩ := List.mem_map.1 hx
        have : y.key ≠ a.key := fun e => hs.1 (by rw [← e]; exact List.mem_map.2 ⟨y, hy, rfl⟩)
        simpa using this
      | succ j =>
        have hne : a.key ≠ e.key := fun e2 => hs.1 (by rw [e2]; exact List.mem_map.2 ⟨e, List.mem_of_getElem? (by simpa using h), rfl⟩)
        rw [List.map_cons, List.filter_cons_of_pos (by simpa using hne), List.eraseIdx_cons_succ, List.map_cons, ih j hs.2 (by simpa using h)]
  exact this es j hs h

/-! ### the operations -/
theorem holdsMap {w : World} {h : Hp} (H : Holds h w) {b : Nat} {es : Array MapEntry} {clock : Nat} (e : h b = some (.map es clock)) : w.heap[b]? = some (.map es clock) := H b _ e
theorem run_lookup {t kt et : TypeId} (hm : P.underlying t = some (.map kt et)) (ht : keyT P kt = true) {kv z v : Value} (hk : keyOk P kt kv = true) (hz : zeroT P et = some z) {w : World} {b : Nat} {o : Obj} {m : List (Value × Value)} (hb : w.heap[b]? = some o) (M : MapObj P kt o m) {c : Bool} (hl : LookOk m kv z v c) (ok : Bool) :
    (Instr.lookup t (.map (some b)) kv ok).run P w = .ok (cond ok (.tuple #[v, .bool c]) v) w := by
  obtain ⟨es, clock, rfl, rfl, hs, hes⟩ := M
  unfold Instr.lookup
  simp only [Sem.run_bind, run_underlying hm, Result.andThen_ok, MapKept.run_getObj_map hb, Sem.run_pure, run_check ht hk]
  rcases run_find ht hk w es.toList hes with ⟨h1, h2⟩ | ⟨j, e, h1, h2, h3⟩
  · have hn := mget_none (m := es.toList.map fun e => (e.key, e.val)) (k := kv) (fun e he => by obtain ⟨x, hx, rfl⟩ := List.mem_map.1 he; exact h2 x hx)
    rcases hl with ⟨_, hl⟩ | ⟨rfl, _, rfl⟩
    · rw [hn] at hl; cases hl
    · simp only [h1, Result.andThen_ok, Sem.run_bind, run_zero hz, Sem.run_pure]
      cases ok <;> rfl
  · subst h3
    have hn := mget_at (stamped_key hs) h2
    rcases hl with ⟨rfl, hl⟩ | ⟨_, hl, _⟩
    · rw [hn] at hl
      cases hl
      simp only [h1, Result.andThen_ok, Sem.run_bind, Sem.run_pure]
      cases ok <;> rfl
    · rw [hn] at hl; cases hl
theorem run_update {t kt et : TypeId} (hm : P.underlying t = some (.map kt et)) (ht : keyT P kt = true) {kv v : Value} (hk : keyOk P kt kv = true) {w : World} {b : Nat} {o : Obj} {m : List (Value × Value)} (hb : w.heap[b]? = some o) (M : MapObj P kt o m) :
    ∃ o', (Instr.mapUpdate t (.map (some b)) kv v).run P w = .ok () (w.setB b o') ∧ MapObj P kt o' (mset m kv v) := by
  obtain ⟨es, clock, rfl, rfl, hs, hes⟩ := M
  unfold Instr.mapUpdate
  simp only [Sem.run_bind, run_underlying hm, Result.andThen_ok, MapKept.run_getObj_map hb, run_check ht hk]
  rcases run_find ht hk w es.toList hes with ⟨h1, h2⟩ | ⟨j, e, h1, h2, h3⟩
  · refine ⟨.map (es.push { key := kv, val := v, born := clock }) (clock + 1), ?_, ⟨_, _, rfl, ?_, stamped_push hs h2, ?_⟩⟩
    · simp only [h1, Result.andThen_ok, MapKept.run_setObj_map _ hb]; rfl
    · rw [Array.toList_push]; exact mset_new h2 v clock
    · intro x hx
      rw [Array.toList_push, List.mem_append, List.mem_singleton] at hx
      rcases hx with hx | rfl
      · exact hes x hx
      · exact hk
  · subst h3
    have hj : es[j]? = some e := by rw [← Array.getElem?_toList]; exact h2
    have hkey : ((es[j]?).map (·.key)).getD e.key = e.key := by rw [hj]; rfl
    have hmod : (es.modify j fun x => { x with key := e.key, val := v }) = es.modify j fun x => { x with val := v } := by
      apply Array.ext
      · simp
      · intro i h1 h2
        rw [Array.getElem_modify, Array.getElem_modify]
        split
        · rename_i hij
          have : es[i]'(by simpa using h1) = e := by
            have := (Array.getElem?_eq_some_iff.1 hj).2
            subst hij; exact this
          rw [this]
        · rfl
    refine ⟨.map (es.modify j fun x => { x with val := v }) clock, ?_, ⟨_, _, rfl, ?_, ?_, ?_⟩⟩
    · simp only [h1, Result.andThen_ok, hkey, Sem.run_bind, run_stays hk, MapKept.run_setObj_map _ hb, hmod]; rfl
    · rw [Array.toList_modify]; exact mset_at (stamped_key hs) h2 v
    · obtain ⟨s1, s2, s3⟩ := hs
      have ek : ∀ (l : List MapEntry) (j : Nat), (l.modify j fun x => { x with val := v }).map (·.key) = l.map (·.key) := by
        intro l
        induction l with
        | nil => intro j; cases j <;> rfl
        | cons a l ih => intro j; cases j with
          | zero => rfl
          | succ j => simp [ih]
      have eb : ∀ (l : List MapEntry) (j : Nat), (l.modify j fun x => { x with val := v }).map (·.born) = l.map (·.born) := by
        intro l
        induction l with
        | nil => intro j; cases j <;> rfl
        | cons a l ih => intro j; cases j with
          | zero => rfl
          | succ j => simp [ih]
      refine ⟨fun x hx => ?_, ?_, ?_⟩
      · rw [Array.toList_modify] at hx
        have : x.born ∈ es.toList.map (·.born) := by rw [← eb _ j]; exact List.mem_map.2 ⟨x, hx, rfl⟩
        obtain ⟨y, hy, e⟩ := List.mem_map.1 this
        rw [← e]; exact s1 y hy
      · rw [Array.toList_modify, eb]; exact s2
      · rw [Array.toList_modify, ek]; exact s3
    · intro x hx
      rw [Array.toList_modify] at hx
      obtain ⟨i, hi⟩ := List.mem_iff_getElem?.1 hx
      rw [List.getElem?_modify] at hi
      cases hx' : es.toList[i]? with
      | none => rw [hx'] at hi; simp at hi
      | some y =>
        rw [hx'] at hi
        have hy := hes y (List.mem_of_getElem? hx')
        simp at hi
        split at hi
        · rw [← hi]; exact hy
        · rw [← hi]; exact hy
theorem run_delete {t kt et : TypeId} (hm : P.underlying t = some (.map kt et)) (ht : keyT P kt = true) {kv : Value} (hk : keyOk P kt kv = true) {w : World} {b : Nat} {o : Obj} {m : List (Value × Value)} (hb : w.heap[b]? = some o) (M : MapObj P kt o m) (ats : List TypeId) (args : List Value) (ty : TypeId) :
    ∃ o', (Builtin.delete_ (t :: ats).toArray ty (.map (some b) :: kv :: args).toArray).run P w = .ok (.tuple #[]) (w.setB b o') ∧ MapObj P kt o' (mdel m kv) := by
  obtain ⟨es, clock, rfl, rfl, hs, hes⟩ := M
  unfold Builtin.delete_
  simp only [List.getElem?_toArray, List.getElem?_cons_zero, List.getElem?_cons_succ, Sem.run_bind, run_underlying hm, Result.andThen_ok, MapKept.run_getObj_map hb, run_check ht hk]
  rcases run_find ht hk w es.toList hes with ⟨h1, h2⟩ | ⟨j, e, h1, h2, h3⟩
  · refine ⟨.map es clock, ?_, ⟨_, _, rfl, mdel_none h2, hs, hes⟩⟩
    simp only [h1, Result.andThen_ok, Sem.run_bind, MapKept.run_setObj_map _ hb, Sem.run_pure]; rfl
  · subst h3
    have hlt : j < es.size := by have := (List.getElem?_eq_some_iff.1 h2).1; simpa using this
    have ee : (es.eraseIdxIfInBounds j).toList = es.toList.eraseIdx j := by
      unfold Array.eraseIdxIfInBounds
      rw [dif_pos hlt, Array.toList_eraseIdx]
    obtain ⟨s1, s2, s3⟩ := hs
    have hsub : (es.toList.eraseIdx j).Sublist es.toList := List.eraseIdx_sublist _ _
    refine ⟨.map (es.eraseIdxIfInBounds j) clock, ?_, ⟨_, _, rfl, by rw [ee]; exact mdel_at s3 h2, ⟨fun x hx => s1 x ?_, ?_, ?_⟩, fun x hx => hes x ?_⟩⟩
    · simp only [h1, Result.andThen_ok, Sem.run_bind, MapKept.run_setObj_map _ hb, Sem.run_pure]; rfl
    · rw [ee] at hx; exact hsub.subset hx
    · rw [ee]; exact (hsub.map _).nodup s2
    · rw [ee]; exact (hsub.map _).nodup s3
    · rw [ee] at hx; exact hsub.subset hx
end Go.Gx
