/- What a commit leaves where nothing fails: its pages. Conditions: the power is on, no failure is set, nothing waits. -/
import Derived.Test.YtagglohkipioiaaP5
namespace Go.Proofs.Ytagglohkipioiaa
open Go.Gx
set_option maxRecDepth 100000
set_option linter.unusedVariables false

theorem wrs_on : ∀ (W : List (Nat × ByteArray)) (D : Dk), D.down = false → D.fuse = 0 → wrs D W = ({ D with ws := D.ws ++ W }, 0)
  | [], D, _, _ => by show (D, (0 : Int)) = _; rw [List.append_nil]
  | w :: W, D, hd, hf => by
    have e : D.write w.1 w.2 = { D with ws := D.ws ++ [w] } := by
      unfold Dk.write
      rw [hf, if_neg (by decide)]
    rw [wrs_cons, if_neg (by rw [hd]; decide), e, wrs_on W { D with ws := D.ws ++ [w] } (by exact hd) (by exact hf)]
    simp only [List.append_assoc, List.singleton_append]
theorem flD_on {D : Dk} (hd : D.down = false) : flD (D, 0) = (D.flush, 0) := by
  unfold flD
  rw [if_neg (fun h => h rfl)]
  show (if D.down = true then (D, (10 : Int)) else (D.flush, 0)) = _
  rw [hd, if_neg (by decide)]
theorem step_on {D : Dk} (hd : D.down = false) (hf : D.fuse = 0) (hw : D.ws = []) (W : List (Nat × ByteArray)) : flD (wrs D W) = (⟨settleL D.l W, [], 0, false⟩, 0) := by
  rw [wrs_on W D hd hf, flD_on (by exact hd)]
  unfold Dk.flush
  simp only [hw, hf, hd, List.nil_append]
theorem commit_on {D : Dk} (hd : D.down = false) (hf : D.fuse = 0) (hw : D.ws = []) (n : Nat) (ds : List Ch) :
    commitD n D ds = (⟨settleL (settleL (settleL (settleL D.l (logW ds)) [(0, markB ds)]) (ownW n ds)) [(0, zeroB 256)], [], 0, false⟩, 0) := by
  have st : ∀ (l : List ByteArray) (W : List (Nat × ByteArray)), flD (wrs ⟨l, [], 0, false⟩ W) = (⟨settleL l W, [], 0, false⟩, 0) := fun l W => step_on rfl rfl rfl W
  unfold commitD andD
  rw [step_on hd hf hw]
  simp only [st, if_true]
/-! ### pages of sectors -/
def secs (l : List ByteArray) (at_ : Nat) : List UInt8 := (l.getD at_ (bytesL [])).data.toList ++ (l.getD (at_ + 1) (bytesL [])).data.toList ++ (l.getD (at_ + 2) (bytesL [])).data.toList ++ (l.getD (at_ + 3) (bytesL [])).data.toList
def pageL (l : List ByteArray) (at_ : Nat) : ByteArray := ⟨(secs l at_).toArray⟩
theorem page_L {D : Dk} (hw : D.ws = []) (at_ : Nat) : D.page at_ = pageL D.l at_ := by
  unfold Dk.page pageL secs
  unfold Dk.look Dk.look Dk.look Dk.look Dk.look Dk.read
  rw [hw, List.nil_append]; rfl
theorem settle_other : ∀ (W : List (Nat × ByteArray)) (l : List ByteArray) (i : Nat), (∀ w ∈ W, w.1 ≠ i) → (settleL l W)[i]? = l[i]?
  | [], _, _, _ => rfl
  | w :: W, l, i, h => by
    show (settleL (l.set w.1 w.2) W)[i]? = _
    rw [settle_other W _ i fun w' hw' => h w' (List.mem_cons_of_mem _ hw'), List.getElem?_set_ne (h w List.mem_cons_self)]
theorem settle_append (l : List ByteArray) (A B : List (Nat × ByteArray)) : settleL l (A ++ B) = settleL (settleL l A) B := List.foldl_append ..
theorem parts_eq (at_ : Nat) (s : ByteArray) : parts at_ s = [(at_ + 0, s.extract 0 256), (at_ + 1, s.extract 256 512), (at_ + 2, s.extract 512 768), (at_ + 3, s.extract 768 1024)] := rfl
theorem getD_of {l : List ByteArray} {i : Nat} {s : ByteArray} (h : l[i]? = some s) : l.getD i (bytesL []) = s := by rw [List.getD_eq_getElem?_getD, h]; rfl
theorem getD_eq {l m : List ByteArray} {i : Nat} (h : l[i]? = m[i]?) : l.getD i (bytesL []) = m.getD i (bytesL []) := by rw [List.getD_eq_getElem?_getD, List.getD_eq_getElem?_getD, h]
theorem four_parts {s : ByteArray} (hs : s.size = 1024) : (s.extract 0 256).data.toList ++ (s.extract 256 512).data.toList ++ (s.extract 512 768).data.toList ++ (s.extract 768 1024).data.toList = s.data.toList := by
  have hl : s.data.toList.length = 1024 := by rw [size_len, hs]
  simp only [ByteArray.data_extract, Array.toList_extract, List.extract_eq_take_drop]
  generalize s.data.toList = L at hl
  rw [List.drop_zero]
  have e : ∀ a : Nat, (L.drop a).take 256 ++ L.drop (a + 256) = L.drop a := fun a => by
    rw [← List.drop_drop, List.take_append_drop]
  have e3 : (L.drop 768).take 256 = L.drop 768 := List.take_of_length_le (by rw [List.length_drop]; omega)
  show L.take 256 ++ (L.drop 256).take 256 ++ (L.drop 512).take 256 ++ (L.drop 768).take 256 = L
  rw [e3, List.append_assoc, e 512, List.append_assoc, e 256, List.take_append_drop]
theorem page_parts {l : List ByteArray} {at_ : Nat} {s : ByteArray} (hs : s.size = 1024) (hat : at_ + 4 ≤ l.length) : pageL (settleL l (parts at_ s)) at_ = s := by
  unfold pageL secs
  rw [parts_eq]
  have g : ∀ (k : Nat) (t : ByteArray), (settleL l [(at_ + 0, s.extract 0 256), (at_ + 1, s.extract 256 512), (at_ + 2, s.extract 512 768), (at_ + 3, s.extract 768 1024)])[at_ + k]? = some t → (settleL l [(at_ + 0, s.extract 0 256), (at_ + 1, s.extract 256 512), (at_ + 2, s.extract 512 768), (at_ + 3, s.extract 768 1024)]).getD (at_ + k) (bytesL []) = t := fun k t h => getD_of h
  have w : settleL l [(at_ + 0, s.extract 0 256), (at_ + 1, s.extract 256 512), (at_ + 2, s.extract 512 768), (at_ + 3, s.extract 768 1024)] = (((l.set (at_ + 0) (s.extract 0 256)).set (at_ + 1) (s.extract 256 512)).set (at_ + 2) (s.extract 512 768)).set (at_ + 3) (s.extract 768 1024) := rfl
  rw [w] at g ⊢
  have g0 := g 0 (s.extract 0 256) (by rw [List.getElem?_set_ne (by omega), List.getElem?_set_ne (by omega), List.getElem?_set_ne (by omega), List.getElem?_set_self (by omega)])
  have g1 := g 1 (s.extract 256 512) (by rw [List.getElem?_set_ne (by omega), List.getElem?_set_ne (by omega), List.getElem?_set_self (by rw [List.length_set]; omega)])
  have g2 := g 2 (s.extract 512 768) (by rw [List.getElem?_set_ne (by omega), List.getElem?_set_self (by rw [List.length_set, List.length_set]; omega)])
  have g3 := g 3 (s.extract 768 1024) (by rw [List.getElem?_set_self (by rw [List.length_set, List.length_set, List.length_set]; omega)])
  rw [Nat.add_zero] at g0
  rw [show at_ + 0 = at_ from rfl] at *
  rw [g0, g1, g2, g3, four_parts hs]
theorem page_other {l : List ByteArray} {W : List (Nat × ByteArray)} {at_ : Nat} (h : ∀ w ∈ W, w.1 < at_ ∨ at_ + 4 ≤ w.1) : pageL (settleL l W) at_ = pageL l at_ := by
  unfold pageL secs
  rw [getD_eq (settle_other W l at_ fun w hw => by have := h w hw; omega), getD_eq (settle_other W l (at_ + 1) fun w hw => by have := h w hw; omega),
    getD_eq (settle_other W l (at_ + 2) fun w hw => by have := h w hw; omega), getD_eq (settle_other W l (at_ + 3) fun w hw => by have := h w hw; omega)]
theorem parts_mem {at_ : Nat} {s : ByteArray} {w : Nat × ByteArray} (h : w ∈ parts at_ s) : at_ ≤ w.1 ∧ w.1 < at_ + 4 := by
  unfold parts at h
  obtain ⟨i, hi, rfl⟩ := List.mem_map.1 h
  have := List.mem_range.1 hi
  constructor
  · show at_ ≤ at_ + i; omega
  · show at_ + i < at_ + 4; omega
/-- A page behind changes. -/
def updP (ds : List Ch) (p : Nat) (x : ByteArray) : ByteArray := ds.foldl (fun a c => if c.1 = p then c.2 else a) x
theorem page_own (n p : Nat) : ∀ (ds : List Ch) (l : List ByteArray), (∀ c ∈ ds, c.2.size = 1024 ∧ c.1 < n) → 8 * n + 1 ≤ l.length → pageL (settleL l (ownW n ds)) (1 + 4 * (n + p)) = updP ds p (pageL l (1 + 4 * (n + p)))
  | [], _, _, _ => rfl
  | c :: ds, l, h, hl => by
    obtain ⟨hc1, hc2⟩ := h c List.mem_cons_self
    have e : settleL l (ownW n (c :: ds)) = settleL (settleL l (parts (1 + 4 * (n + c.1)) c.2)) (ownW n ds) := by
      show settleL l (parts (1 + 4 * (n + c.1)) c.2 ++ ownW n ds) = _
      exact settle_append _ _ _
    rw [e, page_own n p ds _ (fun d hd => h d (List.mem_cons_of_mem _ hd)) (by rw [settleL_len]; exact hl)]
    show updP ds p _ = updP ds p (if c.1 = p then c.2 else _)
    by_cases ec : c.1 = p
    · rw [if_pos ec, ← ec, page_parts hc1 (by omega)]
    · rw [if_neg ec, page_other fun w hw => by have := parts_mem hw; omega]
theorem log_mem {ds : List Ch} {n : Nat} (h : ∀ c ∈ ds, c.1 < n) {w : Nat × ByteArray} (hw : w ∈ logW ds) : 1 ≤ w.1 ∧ w.1 < 1 + 4 * n := by
  unfold logW at hw
  obtain ⟨c, hc, hw⟩ := List.mem_flatMap.1 hw
  have := parts_mem hw
  have := h c hc
  omega
theorem own_mem {ds : List Ch} {n : Nat} {w : Nat × ByteArray} (hw : w ∈ ownW n ds) : 1 + 4 * n ≤ w.1 := by
  unfold ownW at hw
  obtain ⟨c, hc, hw⟩ := List.mem_flatMap.1 hw
  have := parts_mem hw
  omega
theorem commit_own {D : Dk} (hd : D.down = false) (hf : D.fuse = 0) (hw : D.ws = []) {n : Nat} {ds : List Ch} (hds : ∀ c ∈ ds, c.2.size = 1024 ∧ c.1 < n) (hl : 8 * n + 1 ≤ D.l.length) :
    (commitD n D ds).2 = 0 ∧ (commitD n D ds).1.down = false ∧ (commitD n D ds).1.fuse = 0 ∧ (commitD n D ds).1.ws = [] ∧ (commitD n D ds).1.l.length = D.l.length ∧ (1 ≤ D.l.length → (commitD n D ds).1.read 0 = zeroB 256) ∧ ∀ p, (commitD n D ds).1.own n p = updP ds p (D.own n p) := by
  rw [commit_on hd hf hw]
  refine ⟨rfl, rfl, rfl, rfl, ?_, fun h1 => ?_, fun p => ?_⟩
  · simp only [settleL_len]
  · unfold Dk.read
    simp only [List.foldl_nil]
    apply getD_of
    show (List.set _ 0 _)[0]? = _
    rw [List.getElem?_set_self]
    simp only [settleL_len]; omega
  · unfold Dk.own
    rw [page_L rfl, page_L hw]
    show pageL (settleL (settleL (settleL (settleL D.l (logW ds)) [(0, markB ds)]) (ownW n ds)) [(0, zeroB 256)]) _ = _
    rw [page_other fun w hw => by rw [List.mem_singleton.1 hw]; show 0 < _ ∨ _; omega, page_own n p ds _ hds (by simp only [settleL_len]; exact hl),
      page_other fun w hw => by rw [List.mem_singleton.1 hw]; show 0 < _ ∨ _; omega, page_other fun w hw => by have := log_mem (fun c hc => (hds c hc).2) hw; omega]
theorem updP_none : ∀ {ds : List Ch} {p : Nat} {x : ByteArray}, (∀ c ∈ ds, c.1 ≠ p) → updP ds p x = x
  | [], _, _, _ => rfl
  | c :: ds, p, x, h => by
    show updP ds p (if c.1 = p then c.2 else x) = x
    rw [if_neg (h c List.mem_cons_self)]
    exact updP_none fun d hd => h d (List.mem_cons_of_mem _ hd)
theorem updP_mem : ∀ {ds : List Ch} {p : Nat} {s x : ByteArray}, (p, s) ∈ ds → (ds.map (·.1)).Nodup → updP ds p x = s
  | c :: ds, p, s, x, h, hn => by
    rw [List.map_cons, List.nodup_cons] at hn
    show updP ds p (if c.1 = p then c.2 else x) = s
    rcases List.mem_cons.1 h with rfl | h
    · rw [if_pos rfl]
      exact updP_none fun d hd e => hn.1 (List.mem_map.2 ⟨d, hd, e⟩)
    · exact updP_mem h hn.2
end Go.Proofs.Ytagglohkipioiaa
