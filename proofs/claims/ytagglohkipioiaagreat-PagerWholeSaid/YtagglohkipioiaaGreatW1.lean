/- What a commit leaves when the power fails amid it, and what is recovered of it. Conditions: nothing waits ahead of it, the mark tells nothing. What the mark tells, and what is recovered behind a failure. Conditions: right changes, one of a page, in the pages' order. -/
import Derived.Test.YtagglohkipioiaaGreatP17
namespace Go.Proofs.YtagglohkipioiaaGreat
open Go.Gx
set_option maxRecDepth 100000
set_option linter.unusedVariables false

/-- Writes with a fuse: all of them, or those ahead of the failure. -/
theorem wrs_cut : ∀ (W : List (Nat × ByteArray)) (D : Dk), D.down = false → (D.fuse = 0 ∨ W.length < D.fuse) → wrs D W = ({ D with ws := D.ws ++ W, fuse := D.fuse - W.length }, 0)
  | [], D, _, _ => by show (D, (0 : Int)) = _; rw [List.append_nil]; rfl
  | w :: W, D, hd, hf => by
    have e : D.write w.1 w.2 = { D with ws := D.ws ++ [w], fuse := D.fuse - 1 } := by
      unfold Dk.write
      rw [hd]
      by_cases h0 : D.fuse > 0
      · have : ¬ D.fuse = 1 := by
          rcases hf with h | h
          · omega
          · rw [List.length_cons] at h; omega
        rw [if_pos h0, decide_eq_false this]
      · rw [if_neg h0]
    rw [wrs_cons, if_neg (by rw [hd]; decide), e, wrs_cut W { D with ws := D.ws ++ [w], fuse := D.fuse - 1 } (by exact hd) (by
      rcases hf with h | h
      · exact .inl (by show D.fuse - 1 = 0; omega)
      · exact .inr (by show W.length < D.fuse - 1; rw [List.length_cons] at h; omega))]
    show ({ D with ws := D.ws ++ [w] ++ W, fuse := D.fuse - 1 - W.length }, (0 : Int)) = _
    rw [List.append_assoc, List.length_cons, Nat.sub_sub, Nat.add_comm 1]; rfl
theorem wrs_trip : ∀ (W : List (Nat × ByteArray)) (D : Dk), D.down = false → 1 ≤ D.fuse → D.fuse ≤ W.length → (wrs D W).1 = { D with ws := D.ws ++ W.take D.fuse, fuse := 0, down := true }
  | [], D, _, h1, h2 => by simp at h2; omega
  | w :: W, D, hd, h1, h2 => by
    rw [wrs_cons, if_neg (by rw [hd]; decide)]
    by_cases hf : D.fuse = 1
    · have e : D.write w.1 w.2 = { D with ws := D.ws ++ [w], fuse := 0, down := true } := by
        unfold Dk.write
        rw [hf, if_pos (by decide)]; rfl
      rw [e, hf]
      cases W with
      | nil => rfl
      | cons v W => rw [wrs_cons, if_pos rfl]; rfl
    · have e : D.write w.1 w.2 = { D with ws := D.ws ++ [w], fuse := D.fuse - 1 } := by
        unfold Dk.write
        rw [if_pos (by omega), decide_eq_false hf, hd]
      rw [e, wrs_trip W { D with ws := D.ws ++ [w], fuse := D.fuse - 1 } (by exact hd) (by show 1 ≤ D.fuse - 1; omega) (by show D.fuse - 1 ≤ W.length; rw [List.length_cons] at h2; omega)]
      show { D with ws := D.ws ++ [w] ++ W.take (D.fuse - 1), fuse := 0, down := true } = _
      have : D.fuse = (D.fuse - 1) + 1 := by omega
      conv => rhs; rw [this, List.take_succ_cons]
      rw [List.append_assoc]; rfl
/-- One phase of a commit: all is there, or the power fails and some waits. -/
theorem phase {D : Dk} (hd : D.down = false) (hw : D.ws = []) (W : List (Nat × ByteArray)) : (∃ f, flD (wrs D W) = (⟨settleL D.l W, [], f, false⟩, 0)) ∨ ∃ k, (flD (wrs D W)).1 = ⟨D.l, W.take k, 0, true⟩ ∧ (flD (wrs D W)).2 ≠ 0 ∧ 1 ≤ k := by
  by_cases h : D.fuse = 0 ∨ W.length < D.fuse
  · left
    rw [wrs_cut W D hd h, flD_on (by exact hd)]
    unfold Dk.flush
    simp only [hw, hd, List.nil_append]
    exact ⟨_, rfl⟩
  · right
    have h1 : 1 ≤ D.fuse ∧ D.fuse ≤ W.length := by omega
    have e := wrs_trip W D hd h1.1 h1.2
    refine ⟨D.fuse, ?_⟩
    unfold flD
    by_cases h2 : (wrs D W).2 ≠ 0
    · rw [if_pos h2]
      exact ⟨by rw [e, hw, List.nil_append], h2, h1.1⟩
    · rw [if_neg h2, if_pos (by rw [e])]
      exact ⟨by rw [e, hw, List.nil_append], by show (10 : Int) ≠ 0; decide, h1.1⟩
/-- How a commit ends. -/
inductive Ends (n : Nat) (l : List ByteArray) (ds : List Ch) : Dk → Int → Prop
  | log (k : Nat) (e : Int) (he : e ≠ 0) : Ends n l ds ⟨l, (logW ds).take k, 0, true⟩ e
  | mark (e : Int) (he : e ≠ 0) : Ends n l ds ⟨settleL l (logW ds), [(0, markB ds)], 0, true⟩ e
  | own (k : Nat) (e : Int) (he : e ≠ 0) : Ends n l ds ⟨settleL (settleL l (logW ds)) [(0, markB ds)], (ownW n ds).take k, 0, true⟩ e
  | done (e : Int) (he : e ≠ 0) : Ends n l ds ⟨settleL (settleL (settleL l (logW ds)) [(0, markB ds)]) (ownW n ds), [(0, zeroB 256)], 0, true⟩ e
  | all (f : Nat) : Ends n l ds ⟨settleL (settleL (settleL (settleL l (logW ds)) [(0, markB ds)]) (ownW n ds)) [(0, zeroB 256)], [], f, false⟩ 0
theorem take_one {w : Nat × ByteArray} {k : Nat} (h : 1 ≤ k) : [w].take k = [w] := List.take_of_length_le h
theorem commit_ends {D : Dk} (hd : D.down = false) (hw : D.ws = []) (n : Nat) (ds : List Ch) : Ends n D.l ds (commitD n D ds).1 (commitD n D ds).2 := by
  have stop : ∀ {r : Dk × Int} {f : Dk → Dk × Int}, r.2 ≠ 0 → andD r f = r := fun h => if_neg h
  have on : ∀ {r : Dk × Int} {f : Dk → Dk × Int}, r.2 = 0 → andD r f = f r.1 := fun h => if_pos h
  unfold commitD
  rcases phase hd hw (logW ds) with ⟨f1, e1⟩ | ⟨k, e1, he, hk⟩
  · rw [e1, on rfl]
    dsimp only
    rcases phase (D := ⟨settleL D.l (logW ds), [], f1, false⟩) rfl rfl [(0, markB ds)] with ⟨f2, e2⟩ | ⟨k, e2, he, hk⟩
    · rw [e2, on rfl]
      dsimp only
      rcases phase (D := ⟨settleL (settleL D.l (logW ds)) [(0, markB ds)], [], f2, false⟩) rfl rfl (ownW n ds) with ⟨f3, e3⟩ | ⟨k, e3, he, hk⟩
      · rw [e3, on rfl]
        dsimp only
        rcases phase (D := ⟨settleL (settleL (settleL D.l (logW ds)) [(0, markB ds)]) (ownW n ds), [], f3, false⟩) rfl rfl [(0, zeroB 256)] with ⟨f4, e4⟩ | ⟨k, e4, he, hk⟩
        · rw [e4]; exact Ends.all f4
        · rw [e4, take_one hk]; exact Ends.done _ he
      · rw [stop he, e3]; exact Ends.own k _ he
    · rw [stop he, e2, take_one hk]; exact Ends.mark _ he
  · rw [stop he, e1]; exact Ends.log k _ he
/-- Of blocks that a step may touch, the others. -/
theorem step_rest2 (S : Nat → Prop) (x : Hp) : ∃ hl, Sub hl x ∧ (∀ S' x', Step S x S' x' → Sub hl x') ∧ Keep S x hl := by
  refine ⟨fun c => @ite _ (S c) (Classical.propDecidable _) none (x c), fun c o e => ?_, fun S' x' st c o e => ?_, fun c o e hn => ?_⟩
  · by_cases hs : S c
    · simp only [hs, if_true] at e; cases e
    · simp only [hs, if_false] at e; exact e
  · by_cases hs : S c
    · simp only [hs, if_true] at e; cases e
    · simp only [hs, if_false] at e; exact st.1 c o e hs
  · simp only [hn, if_false]; exact e
end Go.Proofs.YtagglohkipioiaaGreat
namespace Go.Proofs.YtagglohkipioiaaGreat
open Go.Gx
set_option maxRecDepth 100000
set_option linter.unusedVariables false

/-! ### the mark's bits -/
theorem orBit_nat (b : UInt8) {k : Nat} (hk : k < 8) : (orBit b k).toNat = b.toNat ||| 2 ^ k := by
  have hb : b.toNat < 256 := UInt8.toNat_lt b
  have hp : 2 ^ k < 256 := by have := pow_lt8 hk; omega
  have e1 : IntKind.u8.wrap (ishl IntKind.u8 1 ((k : Nat) : Int)) = ((2 ^ k : Nat) : Int) := shl1 ⟨k, hk⟩
  have e2 : ior IntKind.u8 ((b.toNat : Nat) : Int) ((2 ^ k : Nat) : Int) = ((b.toNat ||| 2 ^ k : Nat) : Int) := by
    show (((BitVec.ofInt 8 ((b.toNat : Nat) : Int) ||| BitVec.ofInt 8 ((2 ^ k : Nat) : Int)).toNat : Nat) : Int) = _
    rw [BitVec.ofInt_natCast, BitVec.ofInt_natCast, BitVec.toNat_or, BitVec.toNat_ofNat, BitVec.toNat_ofNat, Nat.mod_eq_of_lt hb, Nat.mod_eq_of_lt hp]
  have hor : b.toNat ||| 2 ^ k < 256 := Nat.or_lt_two_pow (n := 8) hb hp
  unfold orBit
  rw [e1, e2, u8c, Int.toNat_natCast, Nat.mod_eq_of_lt hor]
  generalize b.toNat ||| 2 ^ k = m at hor ⊢
  simp; omega
def bitL (L : List UInt8) (i : Nat) : Bool := (L.getD (i / 8) 0).toNat.testBit (i % 8)
theorem bit_set {L : List UInt8} {p : Nat} (hp : p / 8 < L.length) (i : Nat) : bitL (setBit L p) i = (decide (i = p) || bitL L i) := by
  unfold bitL setBit
  rw [List.getD_eq_getElem?_getD, List.getD_eq_getElem?_getD]
  by_cases e : i / 8 = p / 8
  · rw [e, List.getElem?_set_self hp]
    show (orBit (L.getD (p / 8) 0) (p % 8)).toNat.testBit (i % 8) = _
    rw [orBit_nat _ (Nat.mod_lt _ (by decide)), Nat.testBit_or, Nat.testBit_two_pow, List.getD_eq_getElem?_getD, Bool.or_comm]
    congr 1
    by_cases h : i = p
    · rw [decide_eq_true h, decide_eq_true (by rw [h])]
    · rw [decide_eq_false h, decide_eq_false (by omega)]
  · rw [List.getElem?_set_ne (Ne.symm e), decide_eq_false (fun h => e (by rw [h])), Bool.false_or, List.getD_eq_getElem?_getD]
theorem bit_fold : ∀ (ds : List Ch) (L : List UInt8), L.length = 256 → (∀ c ∈ ds, c.1 < 2048) → ∀ i, bitL (ds.foldl (fun L c => setBit L c.1) L) i = (bitL L i || ds.any fun c => c.1 == i)
  | [], L, _, _, i => by rw [List.foldl_nil, List.any_nil, Bool.or_false]
  | c :: ds, L, hl, hc, i => by
    have h1 := hc c List.mem_cons_self
    rw [List.foldl_cons, bit_fold ds (setBit L c.1) (by rw [setBit_len]; exact hl) (fun d hd => hc d (List.mem_cons_of_mem _ hd)) i, bit_set (by omega), List.any_cons]
    have : (c.1 == i) = decide (i = c.1) := by
      by_cases h : i = c.1
      · rw [decide_eq_true h, h]; simp
      · rw [decide_eq_false h]; simpa using fun e => h e.symm
    rw [this]
    cases decide (i = c.1) <;> cases bitL L i <;> simp
theorem bitT_nat (s : ByteArray) (i : Nat) : bitT s i = (byteN s (i / 8)).testBit (i % 8) := by
  unfold bitT
  have hb := byteN_lt s (i / 8)
  rw [byteAt_N, shrN _ _ _ (by show i % 8 ≤ 8; omega), and1 _ (Nat.lt_of_le_of_lt (Nat.div_le_self _ _) hb), u8c, Nat.testBit_eq_decide_div_mod_eq]
  generalize byteN s (i / 8) / 2 ^ (i % 8) = m
  rcases Nat.mod_two_eq_zero_or_one m with h | h <;> rw [h] <;> rfl
theorem bit_mark {ds : List Ch} (hc : ∀ c ∈ ds, c.1 < 128) (i : Nat) : bitT (markB ds) i = ds.any fun c => c.1 == i := by
  rw [bitT_nat]
  have e : (byteN (markB ds) (i / 8)).testBit (i % 8) = bitL (markL ds) i := by
    unfold bitL byteN
    rw [List.getD_eq_getElem?_getD]; rfl
  rw [e]
  unfold markL
  rw [bit_fold ds _ (List.length_replicate ..) (fun c h => by have := hc c h; omega) i]
  have : bitL (List.replicate 256 0) i = false := by
    unfold bitL
    rw [List.getD_eq_getElem?_getD, List.getElem?_replicate]
    split <;> simp
  rw [this, Bool.false_or]
theorem told_mark {n : Nat} {ds : List Ch} (hn : n ≤ 128) (hc : ∀ c ∈ ds, c.1 < n) (hs : ds.Pairwise fun a b => a.1 < b.1) : (bitsOf (markB ds)).filter (fun i => decide (i < n)) = ds.map (·.1) := by
  have h1 : ((bitsOf (markB ds)).filter fun i => decide (i < n)).Pairwise (fun x y => x < y) := (List.pairwise_lt_range.sublist List.filter_sublist).sublist List.filter_sublist
  have h2 : (ds.map (·.1)).Pairwise (fun x y => x < y) := by rw [List.pairwise_map]; exact hs
  have nd : ∀ {l : List Nat}, l.Pairwise (fun x y => x < y) → l.Nodup := fun h => by rw [List.nodup_iff_pairwise_ne]; exact h.imp fun h => Nat.ne_of_lt h
  refine List.Perm.eq_of_pairwise (le := fun x y => x < y) (fun a b _ _ h1 h2 => absurd h1 (Nat.lt_asymm h2)) h1 h2 ?_
  refine (List.perm_ext_iff_of_nodup (nd h1) (nd h2)).2 fun a => ?_
  unfold bitsOf
  rw [List.mem_filter, List.mem_filter, List.mem_range, bit_mark fun c h => by have := hc c h; omega]
  rw [List.any_eq_true, List.mem_map]
  constructor
  · rintro ⟨⟨_, c, hc1, hc2⟩, _⟩
    exact ⟨c, hc1, by simpa using hc2⟩
  · rintro ⟨c, hc1, rfl⟩
    have := hc c hc1
    exact ⟨⟨by omega, c, hc1, by simp⟩, decide_eq_true this⟩
/-! ### what is recovered -/
def logC (D : Dk) (is : List Nat) : List Ch := is.map fun i => (i, D.page (1 + 4 * i))
def told (n : Nat) (D : Dk) : List Nat := (bitsOf (D.read 0)).filter fun i => decide (i < n)
def recov (n : Nat) (D : Dk) : Dk := if told n D = [] then D else ⟨settleL (settleL D.l (ownW n (logC D (told n D)))) [(0, zeroB 256)], [], 0, false⟩
theorem page_log (p : Nat) : ∀ (ds : List Ch) (l : List ByteArray), (∀ c ∈ ds, c.2.size = 1024 ∧ 1 + 4 * c.1 + 4 ≤ l.length) → pageL (settleL l (logW ds)) (1 + 4 * p) = updP ds p (pageL l (1 + 4 * p))
  | [], _, _ => rfl
  | c :: ds, l, h => by
    obtain ⟨hc1, hc2⟩ := h c List.mem_cons_self
    have e : settleL l (logW (c :: ds)) = settleL (settleL l (parts (1 + 4 * c.1) c.2)) (logW ds) := by
      show settleL l (parts (1 + 4 * c.1) c.2 ++ logW ds) = _
      exact settle_append _ _ _
    rw [e, page_log p ds _ (fun d hd => ⟨(h d (List.mem_cons_of_mem _ hd)).1, by rw [settleL_len]; exact (h d (List.mem_cons_of_mem _ hd)).2⟩)]
    show updP ds p _ = updP ds p (if c.1 = p then c.2 else _)
    by_cases ec : c.1 = p
    · rw [if_pos ec, ← ec, page_parts hc1 hc2]
    · rw [if_neg ec, page_other fun w hw => by have := parts_mem hw; omega]
theorem read_L {D : Dk} (hw : D.ws = []) (i : Nat) : D.read i = D.l.getD i (bytesL []) := by unfold Dk.read; rw [hw]; rfl
/-- Right changes on a disk where nothing waits. -/
structure Chs (n : Nat) (l : List ByteArray) (ds : List Ch) : Prop where
  ok : ∀ c ∈ ds, c.1 < n ∧ c.2.size = 1024
  nd : (ds.map (·.1)).Nodup
  inc : ds.Pairwise fun a b => a.1 < b.1
  ne : ds ≠ []
  n1 : n ≤ 128
  len : 8 * n + 1 ≤ l.length
  mark : l.getD 0 (bytesL []) = zeroB 256
variable {n : Nat} {l : List ByteArray} {ds : List Ch}
/-- Behind a mark that is there: all is recovered, whatever of the pages themselves was written. -/
theorem recov_mark (C : Chs n l ds) {W : List (Nat × ByteArray)} (hW : ∀ w ∈ W, w ∈ ownW n ds) (f : Nat) (d : Bool) (p : Nat) :
    (recov n ⟨settleL (settleL (settleL l (logW ds)) [(0, markB ds)]) W, [], f, d⟩).own n p = updP ds p (pageL l (1 + 4 * (n + p))) := by
  have n1 := C.n1
  have len := C.len
  have hge : ∀ w ∈ W, 1 + 4 * n ≤ w.1 := fun w hw => own_mem (hW w hw)
  have hrd : (Dk.mk (settleL (settleL (settleL l (logW ds)) [(0, markB ds)]) W) [] f d).read 0 = markB ds := by
    rw [read_L rfl]
    apply getD_of
    show (settleL (settleL (settleL l (logW ds)) [(0, markB ds)]) W)[0]? = _
    rw [settle_other W _ 0 fun w hw => by have := hge w hw; omega]
    show (List.set _ 0 _)[0]? = _
    rw [List.getElem?_set_self]
    rw [settleL_len]; omega
  have ht : told n ⟨settleL (settleL (settleL l (logW ds)) [(0, markB ds)]) W, [], f, d⟩ = ds.map (·.1) := by
    unfold told
    rw [hrd]
    exact told_mark n1 (fun c hc => (C.ok c hc).1) C.inc
  have hne : ds.map (·.1) ≠ [] := by simpa using C.ne
  unfold recov
  rw [ht, if_neg hne]
  have hlog : logC ⟨settleL (settleL (settleL l (logW ds)) [(0, markB ds)]) W, [], f, d⟩ (ds.map (·.1)) = ds := by
    unfold logC
    rw [List.map_map]
    conv => rhs; rw [← List.map_id ds]
    refine List.map_congr_left fun c hc => ?_
    show (c.1, Dk.page _ (1 + 4 * c.1)) = c
    have hc1 := (C.ok c hc).1
    rw [page_L rfl]
    show (c.1, pageL (settleL (settleL (settleL l (logW ds)) [(0, markB ds)]) W) (1 + 4 * c.1)) = c
    rw [page_other fun w hw => by have := hge w hw; omega, page_other fun w hw => by rw [List.mem_singleton.1 hw]; show 0 < _ ∨ _; omega,
      page_log c.1 ds l fun e he => ⟨(C.ok e he).2, by have := (C.ok e he).1; omega⟩, updP_mem (s := c.2) hc C.nd]
  rw [hlog]
  unfold Dk.own
  rw [page_L rfl]
  show pageL (settleL (settleL (settleL (settleL (settleL l (logW ds)) [(0, markB ds)]) W) (ownW n ds)) [(0, zeroB 256)]) (1 + 4 * (n + p)) = _
  rw [page_other fun w hw => by rw [List.mem_singleton.1 hw]; show 0 < _ ∨ _; omega, page_own n p ds _ (fun c hc => ⟨(C.ok c hc).2, (C.ok c hc).1⟩) (by simp only [settleL_len]; exact len)]
  by_cases hp : ∃ s, (p, s) ∈ ds
  · obtain ⟨s, hs⟩ := hp
    rw [updP_mem hs C.nd, updP_mem hs C.nd]
  · have hno : ∀ c ∈ ds, c.1 ≠ p := fun c hc e => hp ⟨c.2, by rw [← e]; exact hc⟩
    rw [updP_none hno, updP_none hno]
    have hoth : ∀ w ∈ W, w.1 < 1 + 4 * (n + p) ∨ 1 + 4 * (n + p) + 4 ≤ w.1 := fun w hw => by
      have h1 := hW w hw
      unfold ownW at h1
      obtain ⟨c, hc, hw2⟩ := List.mem_flatMap.1 h1
      have := parts_mem hw2
      have := hno c hc
      omega
    rw [page_other hoth, page_other fun w hw => by rw [List.mem_singleton.1 hw]; show 0 < _ ∨ _; omega, page_other fun w hw => by have := log_mem (fun c hc => (C.ok c hc).1) hw; omega]
theorem recov_none {l2 : List ByteArray} (hm : l2.getD 0 (bytesL []) = zeroB 256) (f : Nat) (d : Bool) : recov n ⟨l2, [], f, d⟩ = ⟨l2, [], f, d⟩ := by
  unfold recov
  rw [if_pos]
  unfold told
  rw [read_L rfl]
  show (bitsOf (l2.getD 0 (bytesL []))).filter _ = []
  rw [hm, bits_zero]; rfl
theorem sub_one {α : Type} {w : α} {W : List α} (h : W.Sublist [w]) : W = [] ∨ W = [w] := by
  cases W with
  | nil => exact .inl rfl
  | cons v W =>
    have := h.length_le
    have h2 : W = [] := List.eq_nil_of_length_eq_zero (by simp at this ⊢; omega)
    subst h2
    have h3 := h.subset List.mem_cons_self
    rw [List.mem_singleton.1 h3]; exact .inr rfl
/-- Behind a failure amid a commit: all pages are the new ones, or (where it wasn't told that it went well) all are the old ones. -/
theorem torn (C : Chs n l ds) {D' : Dk} {e : Int} (E : Ends n l ds D' e) {W : List (Nat × ByteArray)} (hW : W.Sublist D'.ws) (f : Nat) (d : Bool) :
    (∀ p, (recov n ⟨settleL D'.l W, [], f, d⟩).own n p = updP ds p (pageL l (1 + 4 * (n + p)))) ∨ (e ≠ 0 ∧ ∀ p, (recov n ⟨settleL D'.l W, [], f, d⟩).own n p = pageL l (1 + 4 * (n + p))) := by
  have len := C.len
  have n1 := C.n1
  have own : ∀ {l2 : List ByteArray} {p : Nat}, (Dk.mk l2 [] f d).own n p = pageL l2 (1 + 4 * (n + p)) := fun {l2 p} => page_L rfl _
  have lgm : ∀ {w : Nat × ByteArray}, w ∈ logW ds → 1 ≤ w.1 ∧ w.1 < 1 + 4 * n := fun hw => log_mem (fun c hc => (C.ok c hc).1) hw
  cases E with
  | log k _ he =>
    have hs : ∀ w ∈ W, 1 ≤ w.1 ∧ w.1 < 1 + 4 * n := fun w hw => lgm (List.mem_of_mem_take (hW.subset hw))
    right
    refine ⟨he, fun p => ?_⟩
    show (recov n ⟨settleL l W, [], f, d⟩).own n p = _
    rw [recov_none (by rw [getD_eq (settle_other W l 0 fun w hw => by have := hs w hw; omega)]; exact C.mark), own, page_other fun w hw => by have := hs w hw; omega]
  | mark _ he =>
    have hW : W.Sublist [(0, markB ds)] := hW
    rcases sub_one hW with rfl | rfl
    · right
      refine ⟨he, fun p => ?_⟩
      show (recov n ⟨settleL l (logW ds), [], f, d⟩).own n p = _
      rw [recov_none (by rw [getD_eq (settle_other (logW ds) l 0 fun w hw => by have := lgm hw; omega)]; exact C.mark), own, page_other fun w hw => by have := lgm hw; omega]
    · left
      exact fun p => recov_mark C (W := []) (fun w hw => by cases hw) f d p
  | own k _ he =>
    left
    exact fun p => recov_mark C (fun w hw => List.mem_of_mem_take (hW.subset hw)) f d p
  | done _ he =>
    have hW : W.Sublist [(0, zeroB 256)] := hW
    left
    rcases sub_one hW with rfl | rfl
    · exact fun p => recov_mark C (W := ownW n ds) (fun w hw => hw) f d p
    · intro p
      show (recov n ⟨settleL (settleL (settleL (settleL l (logW ds)) [(0, markB ds)]) (ownW n ds)) [(0, zeroB 256)], [], f, d⟩).own n p = _
      rw [recov_none (by
        apply getD_of
        show (List.set _ 0 _)[0]? = _
        rw [List.getElem?_set_self]
        simp only [settleL_len]; omega), own]
      rw [page_other fun w hw => by rw [List.mem_singleton.1 hw]; show 0 < _ ∨ _; omega, page_own n p ds _ (fun c hc => ⟨(C.ok c hc).2, (C.ok c hc).1⟩) (by simp only [settleL_len]; exact len),
        page_other fun w hw => by rw [List.mem_singleton.1 hw]; show 0 < _ ∨ _; omega, page_other fun w hw => by have := lgm hw; omega]
  | all g =>
    have hW : W.Sublist [] := hW
    have := List.sublist_nil.1 hW
    subst this
    left
    intro p
    show (recov n ⟨settleL (settleL (settleL (settleL l (logW ds)) [(0, markB ds)]) (ownW n ds)) [(0, zeroB 256)], [], f, d⟩).own n p = _
    rw [recov_none (by
      apply getD_of
      show (List.set _ 0 _)[0]? = _
      rw [List.getElem?_set_self]
      simp only [settleL_len]; omega), own]
    rw [page_other fun w hw => by rw [List.mem_singleton.1 hw]; show 0 < _ ∨ _; omega, page_own n p ds _ (fun c hc => ⟨(C.ok c hc).2, (C.ok c hc).1⟩) (by simp only [settleL_len]; exact len),
      page_other fun w hw => by rw [List.mem_singleton.1 hw]; show 0 < _ ∨ _; omega, page_other fun w hw => by have := lgm hw; omega]
end Go.Proofs.YtagglohkipioiaaGreat
