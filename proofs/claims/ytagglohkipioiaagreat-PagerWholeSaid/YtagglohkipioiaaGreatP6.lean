/- What a commit leaves where nothing fails: its pages. Conditions: the power is on, no failure is set, nothing waits. Maps from pages to texts, as lists. Conditions: none beyond each law's own. -/
import Derived.Test.YtagglohkipioiaaGreatP4
namespace Go.Proofs.YtagglohkipioiaaGreat
open Go.Gx
set_option maxRecDepth 100000
set_option linter.unusedVariables false

theorem wrs_on : ∀ (W : List (Nat × ByteArray)) (D : Dk), D.down = false → D.fuse = 0 → wrs D W = ({ D with ws := D.ws ++ W }, 0)
  | [], D, _, _ => by show (D, (0 : Int)) = _; rw [List.append_nil]
  | w :: W, D, hd, hf => by
    have e : D.write w.1 w.2 = { D with ws := D.ws ++ [w] } := by
      unfold Dk.write
      rw [hf, if_neg (by decide)]
    rw [wrs_cons, if_neg (by rw [hd]; decide), e, wrs_on W { D with ws := D.ws ++ [w] } (by exact hd) (by exact hf)]
    simp only [List.append_assoc, List.singleton_append]
theorem flD_on {D : Dk} (hd : D.down = false) : flD (D, 0) = (D.flush, 0) := by
  unfold flD
  rw [if_neg (fun h => h rfl)]
  show (if D.down = true then (D, (10 : Int)) else (D.flush, 0)) = _
  rw [hd, if_neg (by decide)]
theorem step_on {D : Dk} (hd : D.down = false) (hf : D.fuse = 0) (hw : D.ws = []) (W : List (Nat × ByteArray)) : flD (wrs D W) = (⟨settleL D.l W, [], 0, false⟩, 0) := by
  rw [wrs_on W D hd hf, flD_on (by exact hd)]
  unfold Dk.flush
  simp only [hw, hf, hd, List.nil_append]
theorem commit_on {D : Dk} (hd : D.down = false) (hf : D.fuse = 0) (hw : D.ws = []) (n : Nat) (ds : List Ch) :
    commitD n D ds = (⟨settleL (settleL (settleL (settleL D.l (logW ds)) [(0, markB ds)]) (ownW n ds)) [(0, zeroB 256)], [], 0, false⟩, 0) := by
  have st : ∀ (l : List ByteArray) (W : List (Nat × ByteArray)), flD (wrs ⟨l, [], 0, false⟩ W) = (⟨settleL l W, [], 0, false⟩, 0) := fun l W => step_on rfl rfl rfl W
  unfold commitD andD
  rw [step_on hd hf hw]
  simp only [st, if_true]
/-! ### pages of sectors -/
def secs (l : List ByteArray) (at_ : Nat) : List UInt8 := (l.getD at_ (bytesL [])).data.toList ++ (l.getD (at_ + 1) (bytesL [])).data.toList ++ (l.getD (at_ + 2) (bytesL [])).data.toList ++ (l.getD (at_ + 3) (bytesL [])).data.toList
def pageL (l : List ByteArray) (at_ : Nat) : ByteArray := ⟨(secs l at_).toArray⟩
theorem page_L {D : Dk} (hw : D.ws = []) (at_ : Nat) : D.page at_ = pageL D.l at_ := by
  unfold Dk.page pageL secs
  unfold Dk.look Dk.look Dk.look Dk.look Dk.look Dk.read
  rw [hw, List.nil_append]; rfl
theorem settle_other : ∀ (W : List (Nat × ByteArray)) (l : List ByteArray) (i : Nat), (∀ w ∈ W, w.1 ≠ i) → (settleL l W)[i]? = l[i]?
  | [], _, _, _ => rfl
  | w :: W, l, i, h => by
    show (settleL (l.set w.1 w.2) W)[i]? = _
    rw [settle_other W _ i fun w' hw' => h w' (List.mem_cons_of_mem _ hw'), List.getElem?_set_ne (h w List.mem_cons_self)]
theorem settle_append (l : List ByteArray) (A B : List (Nat × ByteArray)) : settleL l (A ++ B) = settleL (settleL l A) B := List.foldl_append ..
theorem parts_eq (at_ : Nat) (s : ByteArray) : parts at_ s = [(at_ + 0, s.extract 0 256), (at_ + 1, s.extract 256 512), (at_ + 2, s.extract 512 768), (at_ + 3, s.extract 768 1024)] := rfl
theorem getD_of {l : List ByteArray} {i : Nat} {s : ByteArray} (h : l[i]? = some s) : l.getD i (bytesL []) = s := by rw [List.getD_eq_getElem?_getD, h]; rfl
theorem getD_eq {l m : List ByteArray} {i : Nat} (h : l[i]? = m[i]?) : l.getD i (bytesL []) = m.getD i (bytesL []) := by rw [List.getD_eq_getElem?_getD, List.getD_eq_getElem?_getD, h]
theorem four_parts {s : ByteArray} (hs : s.size = 1024) : (s.extract 0 256).data.toList ++ (s.extract 256 512).data.toList ++ (s.extract 512 768).data.toList ++ (s.extract 768 1024).data.toList = s.data.toList := by
  have hl : s.data.toList.length = 1024 := by rw [size_len, hs]
  simp only [ByteArray.data_extract, Array.toList_extract, List.extract_eq_take_drop]
  generalize s.data.toList = L at hl
  rw [List.drop_zero]
  have e : ∀ a : Nat, (L.drop a).take 256 ++ L.drop (a + 256) = L.drop a := fun a => by
    rw [← List.drop_drop, List.take_append_drop]
  have e3 : (L.drop 768).take 256 = L.drop 768 := List.take_of_length_le (by rw [List.length_drop]; omega)
  show L.take 256 ++ (L.drop 256).take 256 ++ (L.drop 512).take 256 ++ (L.drop 768).take 256 = L
  rw [e3, List.append_assoc, e 512, List.append_assoc, e 256, List.take_append_drop]
theorem page_parts {l : List ByteArray} {at_ : Nat} {s : ByteArray} (hs : s.size = 1024) (hat : at_ + 4 ≤ l.length) : pageL (settleL l (parts at_ s)) at_ = s := by
  unfold pageL secs
  rw [parts_eq]
  have g : ∀ (k : Nat) (t : ByteArray), (settleL l [(at_ + 0, s.extract 0 256), (at_ + 1, s.extract 256 512), (at_ + 2, s.extract 512 768), (at_ + 3, s.extract 768 1024)])[at_ + k]? = some t → (settleL l [(at_ + 0, s.extract 0 256), (at_ + 1, s.extract 256 512), (at_ + 2, s.extract 512 768), (at_ + 3, s.extract 768 1024)]).getD (at_ + k) (bytesL []) = t := fun k t h => getD_of h
  have w : settleL l [(at_ + 0, s.extract 0 256), (at_ + 1, s.extract 256 512), (at_ + 2, s.extract 512 768), (at_ + 3, s.extract 768 1024)] = (((l.set (at_ + 0) (s.extract 0 256)).set (at_ + 1) (s.extract 256 512)).set (at_ + 2) (s.extract 512 768)).set (at_ + 3) (s.extract 768 1024) := rfl
  rw [w] at g ⊢
  have g0 := g 0 (s.extract 0 256) (by rw [List.getElem?_set_ne (by omega), List.getElem?_set_ne (by omega), List.getElem?_set_ne (by omega), List.getElem?_set_self (by omega)])
  have g1 := g 1 (s.extract 256 512) (by rw [List.getElem?_set_ne (by omega), List.getElem?_set_ne (by omega), List.getElem?_set_self (by rw [List.length_set]; omega)])
  have g2 := g 2 (s.extract 512 768) (by rw [List.getElem?_set_ne (by omega), List.getElem?_set_self (by rw [List.length_set, List.length_set]; omega)])
  have g3 := g 3 (s.extract 768 1024) (by rw [List.getElem?_set_self (by rw [List.length_set, List.length_set, List.length_set]; omega)])
  rw [Nat.add_zero] at g0
  rw [show at_ + 0 = at_ from rfl] at *
  rw [g0, g1, g2, g3, four_parts hs]
theorem page_other {l : List ByteArray} {W : List (Nat × ByteArray)} {at_ : Nat} (h : ∀ w ∈ W, w.1 < at_ ∨ at_ + 4 ≤ w.1) : pageL (settleL l W) at_ = pageL l at_ := by
  unfold pageL secs
  rw [getD_eq (settle_other W l at_ fun w hw => by have := h w hw; omega), getD_eq (settle_other W l (at_ + 1) fun w hw => by have := h w hw; omega),
    getD_eq (settle_other W l (at_ + 2) fun w hw => by have := h w hw; omega), getD_eq (settle_other W l (at_ + 3) fun w hw => by have := h w hw; omega)]
theorem parts_mem {at_ : Nat} {s : ByteArray} {w : Nat × ByteArray} (h : w ∈ parts at_ s) : at_ ≤ w.1 ∧ w.1 < at_ + 4 := by
  unfold parts at h
  obtain ⟨i, hi, rfl⟩ := List.mem_map.1 h
  have := List.mem_range.1 hi
  constructor
  · show at_ ≤ at_ + i; omega
  · show at_ + i < at_ + 4; omega
/-- A page behind changes. -/
def updP (ds : List Ch) (p : Nat) (x : ByteArray) : ByteArray := ds.foldl (fun a c => if c.1 = p then c.2 else a) x
theorem page_own (n p : Nat) : ∀ (ds : List Ch) (l : List ByteArray), (∀ c ∈ ds, c.2.size = 1024 ∧ c.1 < n) → 8 * n + 1 ≤ l.length → pageL (settleL l (ownW n ds)) (1 + 4 * (n + p)) = updP ds p (pageL l (1 + 4 * (n + p)))
  | [], _, _, _ => rfl
  | c :: ds, l, h, hl => by
    obtain ⟨hc1, hc2⟩ := h c List.mem_cons_self
    have e : settleL l (ownW n (c :: ds)) = settleL (settleL l (parts (1 + 4 * (n + c.1)) c.2)) (ownW n ds) := by
      show settleL l (parts (1 + 4 * (n + c.1)) c.2 ++ ownW n ds) = _
      exact settle_append _ _ _
    rw [e, page_own n p ds _ (fun d hd => h d (List.mem_cons_of_mem _ hd)) (by rw [settleL_len]; exact hl)]
    show updP ds p _ = updP ds p (if c.1 = p then c.2 else _)
    by_cases ec : c.1 = p
    · rw [if_pos ec, ← ec, page_parts hc1 (by omega)]
    · rw [if_neg ec, page_other fun w hw => by have := parts_mem hw; omega]
theorem log_mem {ds : List Ch} {n : Nat} (h : ∀ c ∈ ds, c.1 < n) {w : Nat × ByteArray} (hw : w ∈ logW ds) : 1 ≤ w.1 ∧ w.1 < 1 + 4 * n := by
  unfold logW at hw
  obtain ⟨c, hc, hw⟩ := List.mem_flatMap.1 hw
  have := parts_mem hw
  have := h c hc
  omega
theorem own_mem {ds : List Ch} {n : Nat} {w : Nat × ByteArray} (hw : w ∈ ownW n ds) : 1 + 4 * n ≤ w.1 := by
  unfold ownW at hw
  obtain ⟨c, hc, hw⟩ := List.mem_flatMap.1 hw
  have := parts_mem hw
  omega
theorem commit_own {D : Dk} (hd : D.down = false) (hf : D.fuse = 0) (hw : D.ws = []) {n : Nat} {ds : List Ch} (hds : ∀ c ∈ ds, c.2.size = 1024 ∧ c.1 < n) (hl : 8 * n + 1 ≤ D.l.length) :
    (commitD n D ds).2 = 0 ∧ (commitD n D ds).1.down = false ∧ (commitD n D ds).1.fuse = 0 ∧ (commitD n D ds).1.ws = [] ∧ (commitD n D ds).1.l.length = D.l.length ∧ (1 ≤ D.l.length → (commitD n D ds).1.read 0 = zeroB 256) ∧ ∀ p, (commitD n D ds).1.own n p = updP ds p (D.own n p) := by
  rw [commit_on hd hf hw]
  refine ⟨rfl, rfl, rfl, rfl, ?_, fun h1 => ?_, fun p => ?_⟩
  · simp only [settleL_len]
  · unfold Dk.read
    simp only [List.foldl_nil]
    apply getD_of
    show (List.set _ 0 _)[0]? = _
    rw [List.getElem?_set_self]
    simp only [settleL_len]; omega
  · unfold Dk.own
    rw [page_L rfl, page_L hw]
    show pageL (settleL (settleL (settleL (settleL D.l (logW ds)) [(0, markB ds)]) (ownW n ds)) [(0, zeroB 256)]) _ = _
    rw [page_other fun w hw => by rw [List.mem_singleton.1 hw]; show 0 < _ ∨ _; omega, page_own n p ds _ hds (by simp only [settleL_len]; exact hl),
      page_other fun w hw => by rw [List.mem_singleton.1 hw]; show 0 < _ ∨ _; omega, page_other fun w hw => by have := log_mem (fun c hc => (hds c hc).2) hw; omega]
theorem updP_none : ∀ {ds : List Ch} {p : Nat} {x : ByteArray}, (∀ c ∈ ds, c.1 ≠ p) → updP ds p x = x
  | [], _, _, _ => rfl
  | c :: ds, p, x, h => by
    show updP ds p (if c.1 = p then c.2 else x) = x
    rw [if_neg (h c List.mem_cons_self)]
    exact updP_none fun d hd => h d (List.mem_cons_of_mem _ hd)
theorem updP_mem : ∀ {ds : List Ch} {p : Nat} {s x : ByteArray}, (p, s) ∈ ds → (ds.map (·.1)).Nodup → updP ds p x = s
  | c :: ds, p, s, x, h, hn => by
    rw [List.map_cons, List.nodup_cons] at hn
    show updP ds p (if c.1 = p then c.2 else x) = s
    rcases List.mem_cons.1 h with rfl | h
    · rw [if_pos rfl]
      exact updP_none fun d hd e => hn.1 (List.mem_map.2 ⟨d, hd, e⟩)
    · exact updP_mem h hn.2
end Go.Proofs.YtagglohkipioiaaGreat
namespace Go.Proofs.YtagglohkipioiaaGreat
open Go.Gx
set_option maxRecDepth 100000
set_option linter.unusedVariables false

def mapD (L : List Ch) : List (Value × Value) := L.map fun e => (.int .i64 (e.1 : Nat), .string e.2)
def dget (L : List Ch) (i : Nat) : Option ByteArray := (L.find? fun e => e.1 == i).map (·.2)
def dset (L : List Ch) (i : Nat) (s : ByteArray) : List Ch :=
  match dget L i with
  | some _ => L.map fun e => if e.1 = i then (i, s) else e
  | none => L ++ [(i, s)]
def ddel (L : List Ch) (i : Nat) : List Ch := L.filter fun e => e.1 != i
theorem key_eq {a b : Nat} : (Value.int .i64 (a : Nat) = Value.int .i64 (b : Nat)) ↔ a = b := by
  constructor
  · intro h; cases h with
    | refl => rfl
  · rintro rfl; rfl
theorem mapD_get (L : List Ch) (i : Nat) : mget (mapD L) (.int .i64 (i : Nat)) = (dget L i).map .string := by
  unfold mget mapD dget
  induction L with
  | nil => rfl
  | cons e L ih =>
    rw [List.map_cons]
    by_cases h : e.1 = i
    · rw [List.find?_cons_of_pos (by simpa using congrArg (fun n : Nat => (n : Int)) h), List.find?_cons_of_pos (by simpa using h)]; rfl
    · rw [List.find?_cons_of_neg (by simpa using fun e' => h (by omega)), List.find?_cons_of_neg (by simpa using h)]; exact ih
theorem mapD_set (L : List Ch) (i : Nat) (s : ByteArray) : mset (mapD L) (.int .i64 (i : Nat)) (.string s) = mapD (dset L i s) := by
  unfold mset dset
  rw [mapD_get]
  cases h : dget L i with
  | none =>
    show mapD L ++ _ = mapD (L ++ _)
    unfold mapD
    rw [List.map_append]; rfl
  | some t =>
    show (mapD L).map _ = mapD (L.map _)
    unfold mapD
    rw [List.map_map, List.map_map]
    refine List.map_congr_left fun e _ => ?_
    simp only [Function.comp]
    by_cases he : e.1 = i
    · rw [if_pos (by rw [he]), if_pos he]
    · rw [if_neg (fun h => he (key_eq.1 h)), if_neg he]
theorem mapD_del (L : List Ch) (i : Nat) : mdel (mapD L) (.int .i64 (i : Nat)) = mapD (ddel L i) := by
  unfold mdel mapD ddel
  rw [List.filter_map]
  congr 1
  refine List.filter_congr fun e _ => ?_
  simp only [Function.comp]
  by_cases he : e.1 = i
  · have h1 : (e.1 != i) = false := by simpa using he
    rw [h1]
    simpa using congrArg (fun n : Nat => (n : Int)) he
  · have h1 : (e.1 != i) = true := by simpa using he
    rw [h1]
    simpa using fun e' => he (by omega)
theorem dget_set (L : List Ch) (i j : Nat) (s : ByteArray) : dget (dset L i s) j = if j = i then some s else dget L j := by
  have h1 := mget_mset (mapD L) (.int .i64 (i : Nat)) (.string s) (.int .i64 (j : Nat))
  rw [mapD_set, mapD_get, mapD_get] at h1
  by_cases e : j = i
  · rw [if_pos e]
    have := h1.1 (key_eq.2 e)
    cases hd : dget (dset L i s) j with
    | none => rw [hd] at this; cases this
    | some t => rw [hd] at this; cases this; rfl
  · rw [if_neg e]
    have := h1.2 fun h => e (key_eq.1 h)
    cases hd : dget (dset L i s) j with
    | none =>
      rw [hd] at this
      cases hd2 : dget L j with
      | none => rfl
      | some t => rw [hd2] at this; cases this
    | some t =>
      rw [hd] at this
      cases hd2 : dget L j with
      | none => rw [hd2] at this; cases this
      | some t2 => rw [hd2] at this; cases this; rfl
theorem dget_del (L : List Ch) (i j : Nat) : dget (ddel L i) j = if j = i then none else dget L j := by
  unfold dget ddel
  induction L with
  | nil => split <;> rfl
  | cons e L ih =>
    by_cases h : e.1 = i
    · rw [List.filter_cons_of_neg (by simpa using h), ih]
      by_cases hj : j = i
      · rw [if_pos hj, if_pos hj]
      · rw [if_neg hj, if_neg hj, List.find?_cons_of_neg (by simpa using fun e' => hj (by omega))]
    · rw [List.filter_cons_of_pos (by simpa using h)]
      by_cases hj : e.1 = j
      · rw [List.find?_cons_of_pos (by simpa using hj), List.find?_cons_of_pos (by simpa using hj), if_neg (by omega)]
      · rw [List.find?_cons_of_neg (by simpa using hj), List.find?_cons_of_neg (by simpa using hj)]; exact ih
/-- Keys once each, small pages, whole pages. -/
structure DOk (n : Nat) (L : List Ch) : Prop where
  nd : (L.map (·.1)).Nodup
  mem : ∀ e ∈ L, e.1 < n ∧ e.2.size = 1024
  pos : ∀ e ∈ L, 1 ≤ e.1
theorem DOk.nil (n : Nat) : DOk n [] := ⟨List.nodup_nil, (fun e h => by cases h), fun e h => by cases h⟩
theorem dget_mem {L : List Ch} {i : Nat} {s : ByteArray} (h : dget L i = some s) : (i, s) ∈ L := by
  unfold dget at h
  obtain ⟨e, he, hs⟩ := Option.map_eq_some_iff.1 h
  have h1 := List.mem_of_find?_eq_some he
  have h2 : e.1 = i := by simpa using List.find?_some he
  obtain ⟨a, b⟩ := e
  cases hs; cases h2; exact h1
theorem dget_none {L : List Ch} {i : Nat} (h : dget L i = none) : ∀ e ∈ L, e.1 ≠ i := fun e he h2 => by
  unfold dget at h
  rw [Option.map_eq_none_iff, List.find?_eq_none] at h
  exact h e he (by simpa using h2)
theorem mem_dget {L : List Ch} (hn : (L.map (·.1)).Nodup) {i : Nat} {s : ByteArray} (h : (i, s) ∈ L) : dget L i = some s := by
  induction L with
  | nil => cases h
  | cons e L ih =>
    rw [List.map_cons, List.nodup_cons] at hn
    unfold dget
    rcases List.mem_cons.1 h with rfl | h
    · rw [List.find?_cons_of_pos (by simp)]; rfl
    · rw [List.find?_cons_of_neg (by
        have : e.1 ≠ i := fun e' => hn.1 (List.mem_map.2 ⟨_, h, e'.symm⟩)
        simpa using this)]
      exact ih hn.2 h
theorem DOk.set {n : Nat} {L : List Ch} (H : DOk n L) {i : Nat} {s : ByteArray} (h1 : 1 ≤ i) (hi : i < n) (hs : s.size = 1024) : DOk n (dset L i s) := by
  unfold dset
  cases h : dget L i with
  | none =>
    refine ⟨?_, fun e he => ?_, fun e he => ?_⟩
    rotate_left 2
    · rcases List.mem_append.1 he with he | he
      · exact H.pos e he
      · rw [List.mem_singleton.1 he]; exact h1
    · rw [List.map_append, List.nodup_append]
      refine ⟨H.nd, by simp, fun a ha b hb => ?_⟩
      obtain ⟨e, he, rfl⟩ := List.mem_map.1 ha
      have : b = i := by simpa using hb
      rw [this]; exact dget_none h e he
    · rcases List.mem_append.1 he with he | he
      · exact H.mem e he
      · rw [List.mem_singleton.1 he]; exact ⟨hi, hs⟩
  | some t =>
    refine ⟨?_, fun e he => ?_, fun e he => ?_⟩
    rotate_left 2
    · obtain ⟨e', he', rfl⟩ := List.mem_map.1 he
      by_cases h2 : e'.1 = i
      · rw [if_pos h2]; exact h1
      · rw [if_neg h2]; exact H.pos e' he'
    · show ((L.map _).map _).Nodup
      rw [List.map_map]
      have : (L.map ((fun x : Ch => x.1) ∘ fun e => if e.1 = i then (i, s) else e)) = L.map (·.1) := List.map_congr_left fun e _ => by
        simp only [Function.comp]
        by_cases he : e.1 = i
        · rw [if_pos he, he]
        · rw [if_neg he]
      rw [this]; exact H.nd
    · obtain ⟨e', he', rfl⟩ := List.mem_map.1 he
      by_cases h2 : e'.1 = i
      · rw [if_pos h2]; exact ⟨hi, hs⟩
      · rw [if_neg h2]; exact H.mem e' he'
theorem DOk.del {n : Nat} {L : List Ch} (H : DOk n L) (i : Nat) : DOk n (ddel L i) :=
  ⟨H.nd.sublist (List.filter_sublist.map _), (fun e he => H.mem e (List.mem_filter.1 he).1), fun e he => H.pos e (List.mem_filter.1 he).1⟩
theorem nodup_below : ∀ (n : Nat) (l : List Nat), l.Nodup → (∀ x ∈ l, x < n) → l.length ≤ n
  | 0, l, _, h => by
    cases l with
    | nil => exact Nat.le_refl _
    | cons x l => exact absurd (h x List.mem_cons_self) (Nat.not_lt_zero _)
  | n + 1, l, hn, h => by
    by_cases hm : n ∈ l
    · have h1 := nodup_below n (l.erase n) (hn.erase n) fun x hx => by
        have h2 := h x (List.mem_of_mem_erase hx)
        have h3 : x ≠ n := fun e => by rw [e] at hx; exact (List.Nodup.not_mem_erase hn) hx
        omega
      rw [List.length_erase_of_mem hm] at h1
      omega
    · have := nodup_below n l hn fun x hx => by
        have h2 := h x hx
        have h3 : x ≠ n := fun e => hm (e ▸ hx)
        omega
      omega
theorem DOk.len {n : Nat} {L : List Ch} (H : DOk n L) : L.length ≤ n := by
  have := nodup_below n (L.map (·.1)) H.nd fun x hx => by
    obtain ⟨e, he, rfl⟩ := List.mem_map.1 hx
    exact (H.mem e he).1
  rw [List.length_map] at this; exact this
end Go.Proofs.YtagglohkipioiaaGreat
