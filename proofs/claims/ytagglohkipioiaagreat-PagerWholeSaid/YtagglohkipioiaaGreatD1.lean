/- A disk in memory, and what its functions do to it. Conditions: it stands as it is named; the power is on where it says so. -/
import Derived.Test.YtagglohkipioiaaGreatGA
import Derived.Test.YtagglohkipioiaaGreatGxR
import Derived.Test.YtagglohkipioiaaGreatGxK
import Derived.KernelRfl
namespace Go.Proofs.YtagglohkipioiaaGreat
open Go.Gx
set_option maxRecDepth 100000
set_option linter.unusedVariables false

/-! ### what is owned -/
/-- Only blocks of S are others, and what is owned then was owned, or is new. -/
def Step (S : Nat → Prop) (h : Hp) (S' : Nat → Prop) (h' : Hp) : Prop := Keep S h h' ∧ ∀ c, S' c → S c ∨ h c = none
theorem Step.refl (S : Nat → Prop) (h : Hp) : Step S h S h := ⟨Keep.refl S h, fun _ h => .inl h⟩
theorem Step.trans {S S1 S2 : Nat → Prop} {h h1 h2 : Hp} (a : Step S h S1 h1) (b : Step S1 h1 S2 h2) : Step S h S2 h2 := by
  refine ⟨fun c o hc hn => b.1 c o (a.1 c o hc hn) fun h1 => ?_, fun c hc => ?_⟩
  · rcases a.2 c h1 with h | h
    · exact hn h
    · rw [h] at hc; cases hc
  · rcases b.2 c hc with h | h
    · exact a.2 c h
    · by_cases hS : S c
      · exact .inl hS
      · exact .inr (Option.eq_none_iff_forall_ne_some.2 fun o e4 => by rw [a.1 c o e4 hS] at h; cases h)
theorem Step.sub {S : Nat → Prop} {h h' : Hp} (s : Sub h h') : Step S h S h' := ⟨s.keep S, fun _ h => .inl h⟩
theorem Step.out {S S' : Nat → Prop} {h h' : Hp} (s : Step S h S' h') {c : Nat} {o : Obj} (hc : h c = some o) (hn : ¬ S c) : h' c = some o ∧ ¬ S' c := ⟨s.1 c o hc hn, fun h => by
  rcases s.2 c h with h | h
  · exact hn h
  · rw [h] at hc; cases hc⟩
/-! ### the disk -/
def strC (s : ByteArray) : List Value := [.string s]
theorem strC_len (s : ByteArray) : (strC s).length = 1 := rfl
theorem strC_plain (s : ByteArray) : plainP (strC s) := plainP_of rfl
def wrC (w : Nat × ByteArray) : List Value := [.int .i64 (w.1 : Nat), .string w.2]
theorem wrC_len (w : Nat × ByteArray) : (wrC w).length = 2 := rfl
theorem wrC_plain (w : Nat × ByteArray) : plainP (wrC w) := plainP_of rfl
theorem appTStr : AppT Tryz.prog 9 1 16 := AppT.of (by kernel_rfl)
theorem appTWr : AppT Tryz.prog 130 2 24 := AppT.of (by kernel_rfl)
theorem appTByte : AppT Tryz.prog 5 1 1 := AppT.of (by kernel_rfl)
def byteC (b : UInt8) : List Value := [.int .u8 (b.toNat : Nat)]
theorem byteC_len (b : UInt8) : (byteC b).length = 1 := rfl
theorem byteC_plain (b : UInt8) : plainP (byteC b) := plainP_of rfl
theorem rowC_bytes (s : ByteArray) : rowC byteC s.data.toList = bytesV s := by
  unfold rowC bytesV byteC
  generalize s.data.toList = l
  induction l with
  | nil => rfl
  | cons b l ih => rw [List.flatMap_cons, ih]; rfl
theorem size_len (s : ByteArray) : s.data.toList.length = s.size := by rw [Array.length_toList]; rfl
structure Dk where
  l : List ByteArray
  ws : List (Nat × ByteArray)
  fuse : Nat
  down : Bool
def Dk.use (D : Dk) (at_ : Int) : Int := if D.down then 10 else if at_ < 0 then 9 else if at_ ≥ (D.l.length : Int) then 9 else 0
theorem Dk.use_ok {D : Dk} {i : Nat} (hd : D.down = false) (hi : i < D.l.length) : D.use (i : Nat) = 0 := by
  unfold Dk.use
  rw [hd, if_neg (by simp), if_neg (by omega), if_neg (by omega)]
def pick (i : Nat) (s : ByteArray) (w : Nat × ByteArray) : ByteArray := if w.1 = i then w.2 else s
def Dk.read (D : Dk) (i : Nat) : ByteArray := D.ws.foldl (pick i) (D.l.getD i (bytesL []))
def Dk.write (D : Dk) (i : Nat) (s : ByteArray) : Dk := { D with ws := D.ws ++ [(i, s)], fuse := D.fuse - 1, down := if D.fuse > 0 then decide (D.fuse = 1) else D.down }
def settleL (l : List ByteArray) (ws : List (Nat × ByteArray)) : List ByteArray := ws.foldl (fun l w => l.set w.1 w.2) l
theorem settleL_len : ∀ (ws : List (Nat × ByteArray)) (l : List ByteArray), (settleL l ws).length = l.length
  | [], _ => rfl
  | w :: ws, l => by
    show (settleL (l.set w.1 w.2) ws).length = _
    rw [settleL_len ws, List.length_set]
theorem settleL_sz : ∀ (ws : List (Nat × ByteArray)) (l : List ByteArray), (∀ s ∈ l, s.size = 256) → (∀ w ∈ ws, w.2.size = 256) → ∀ s ∈ settleL l ws, s.size = 256
  | [], _, h, _ => h
  | w :: ws, l, h, hw => settleL_sz ws (l.set w.1 w.2) (fun s hs => by
    rcases List.mem_or_eq_of_mem_set hs with h' | h'
    · exact h s h'
    · rw [h']; exact hw w List.mem_cons_self) fun w' hw' => hw w' (List.mem_cons_of_mem _ hw')
def Dk.flush (D : Dk) : Dk := { D with l := settleL D.l D.ws, ws := [] }
structure DkAt (h : Hp) (db : Nat) (S : Nat → Prop) (D : Dk) : Prop where
  at_ : ∃ la lc wa wc, ∃ n : Int, Blk h db 108 [.slice la D.l.length lc, .slice wa D.ws.length wc, .int .i64 (D.fuse : Nat), .int .i64 n, .bool D.down] ∧ OwnR strC 1 h 9 la lc D.l ∧ OwnR wrC 2 h 130 wa wc D.ws ∧
    (∀ c, blkOf la c → c ≠ db ∧ ¬ blkOf wa c) ∧ (∀ c, blkOf wa c → c ≠ db) ∧ ∀ c, S c ↔ (c = db ∨ blkOf la c ∨ blkOf wa c)
  idx : ∀ w ∈ D.ws, w.1 < D.l.length ∧ w.2.size = 256
  len : D.l.length ≤ 2048
  lsz : ∀ s ∈ D.l, s.size = 256
  wlen : D.ws.length ≤ 4096
  fuse : D.fuse < 9223372036854775808
variable {h : Hp} {db : Nat} {S : Nat → Prop} {D : Dk} {K : Value → Hp → Prop}
theorem DkAt.out {S' : Nat → Prop} {h' : Hp} (H : DkAt h db S D) (s : Keep S' h h') (hn : ∀ c, S c → ¬ S' c) : DkAt h' db S D := by
  obtain ⟨la, lc, wa, wc, n, h1, h2, h3, h4, h5, h6⟩ := H.at_
  exact ⟨⟨la, lc, wa, wc, n, h1.keep s (hn _ ((h6 _).2 (.inl rfl))), h2.keep s fun c hc => hn c ((h6 c).2 (.inr (.inl hc))), h3.keep s fun c hc => hn c ((h6 c).2 (.inr (.inr hc))), h4, h5, h6⟩, H.idx, H.len, H.lsz, H.wlen, H.fuse⟩
theorem DkAt.sub {h' : Hp} (H : DkAt h db S D) (s : Sub h h') : DkAt h' db S D := H.out (S' := fun _ => False) (s.keep _) fun _ _ h => h
theorem DkAt.in_heap (H : DkAt h db S D) {c : Nat} (hc : S c) : h c ≠ none := by
  obtain ⟨la, lc, wa, wc, n, h1, h2, h3, h4, h5, h6⟩ := H.at_
  rcases (h6 c).1 hc with rfl | hc | hc
  · intro e; unfold Blk at h1; rw [h1] at e; cases e
  · exact Own.in_heap h2 hc
  · exact Own.in_heap h3 hc
theorem DkAt.read_sz (H : DkAt h db S D) {i : Nat} (hi : i < D.l.length) : (D.read i).size = 256 := by
  unfold Dk.read
  have : ∀ (ws : List (Nat × ByteArray)) (s : ByteArray), s.size = 256 → (∀ w ∈ ws, w.2.size = 256) → (ws.foldl (pick i) s).size = 256 := by
    intro ws
    induction ws with
    | nil => intro s h _; exact h
    | cons w ws ih =>
      intro s h hw
      refine ih _ ?_ fun w' h' => hw w' (List.mem_cons_of_mem _ h')
      unfold pick
      split
      · exact hw w List.mem_cons_self
      · exact h
  refine this _ _ ?_ fun w hw => (H.idx w hw).2
  rw [List.getD_eq_getElem?_getD, List.getElem?_eq_getElem hi]
  exact H.lsz _ (List.getElem_mem hi)
theorem use_spec (H : DkAt h db S D) (at_ : Int) (hK : K (.int .i64 (D.use at_)) h) : CallsH Tryz.prog disk_Disk_use.id #[.pointer (some ⟨db, 0, none⟩), .int .i64 at_] h K := by
  obtain ⟨la, lc, wa, wc, n, h1, h2, h3, h4, h5, h6⟩ := H.at_
  apply disk_Disk_use.calls
  unfold disk_Disk_use.W
  unfold Dk.use at hK
  refine ⟨_, h1.cell' 4 rfl, split_cond (fun e1 => ?_) fun e1 => split_dec (fun e2 => ?_) fun e2 => ⟨_, _, _, h1.cell' 0 rfl, split_dec (fun e3 => ?_) fun e3 => ?_⟩⟩
  · rw [e1, if_pos rfl] at hK; exact hK
  · rw [e1, if_neg (by simp), if_pos e2] at hK; exact hK
  · have e3 : at_ ≥ (D.l.length : Int) := e3
    rw [e1, if_neg (by simp), if_neg e2, if_pos e3] at hK; exact hK
  · have e3 : ¬ at_ ≥ (D.l.length : Int) := e3
    rw [e1, if_neg (by simp), if_neg e2, if_neg e3] at hK; exact hK
theorem size_spec (H : DkAt h db S D) (hK : K (.int .i64 (D.l.length : Nat)) h) : CallsH Tryz.prog disk_Disk_Size.id #[.pointer (some ⟨db, 0, none⟩)] h K := by
  obtain ⟨la, lc, wa, wc, n, h1, h2, h3, h4, h5, h6⟩ := H.at_
  apply disk_Disk_Size.calls
  unfold disk_Disk_Size.W
  exact ⟨_, _, _, h1.cell' 0 rfl, hK⟩
theorem up_spec (H : DkAt h db S D) (hK : K (.bool !D.down) h) : CallsH Tryz.prog disk_Disk_Up.id #[.pointer (some ⟨db, 0, none⟩)] h K := by
  obtain ⟨la, lc, wa, wc, n, h1, h2, h3, h4, h5, h6⟩ := H.at_
  apply disk_Disk_Up.calls
  unfold disk_Disk_Up.W
  exact ⟨_, h1.cell' 4 rfl, hK⟩
theorem read_bad (H : DkAt h db S D) (at_ : Int) (hu : D.use at_ ≠ 0) (hK : K (.tuple #[.string (bytesL []), .int .i64 (D.use at_)]) h) : CallsH Tryz.prog disk_Disk_Read.id #[.pointer (some ⟨db, 0, none⟩), .int .i64 at_] h K := by
  apply disk_Disk_Read.calls
  unfold disk_Disk_Read.W
  exact use_spec H at_ ⟨_, rfl, split_ne (fun _ => hK) fun e => absurd e hu⟩
theorem read_spec (H : DkAt h db S D) {i : Nat} (hi : i < D.l.length) (hd : D.down = false) (hK : K (.tuple #[.string (D.read i), .int .i64 0]) h) : CallsH Tryz.prog disk_Disk_Read.id #[.pointer (some ⟨db, 0, none⟩), .int .i64 (i : Nat)] h K := by
  apply disk_Disk_Read.calls
  unfold disk_Disk_Read.W
  have hw := H.wlen
  have hll := H.len
  refine use_spec H _ ⟨_, rfl, split_ne (fun e => absurd (Dk.use_ok hd hi) e) fun _ => ?_⟩
  obtain ⟨la, lc, wa, wc, n, h1, h2, h3, h4, h5, h6⟩ := H.at_
  have hq : D.l[i]? = some D.l[i] := List.getElem?_eq_getElem hi
  obtain ⟨b, o, ea, hc⟩ := h2.row.get strC_len (by decide) hq
  refine ⟨_, _, _, h1.cell' 0 rfl, by omega, by show (i : Int) < (D.l.length : Int); omega, b, o, ea, _, hc 0 _ rfl, _, _, _, h1.cell' 1 rfl, ?_⟩
  refine ⟨fun s k x m => ∃ j : Nat, k = (j : Int) ∧ j ≤ D.ws.length ∧ m = D.ws.length - j ∧ x = h ∧ s = (D.ws.take j).foldl (pick i) (D.l.getD i (bytesL [])), ⟨_, 0, rfl, Nat.zero_le _, rfl, rfl, ?_⟩, ?_⟩
  · rw [List.take_zero, List.foldl_nil, List.getD_eq_getElem?_getD, hq]; rfl
  · rintro s k x m ⟨j, rfl, hj, rfl, rfl, rfl⟩
    refine split_dec (fun g => ?_) fun g => ?_
    · have g : j < D.ws.length := by have : (j : Int) < (D.ws.length : Int) := g; omega
      have hw2 : D.ws[j]? = some D.ws[j] := List.getElem?_eq_getElem g
      generalize D.ws[j] = w at hw2
      obtain ⟨b2, o2, ea2, hc2⟩ := h3.row.get wrC_len (by decide) hw2
      have ht : (D.ws.take (j + 1)).foldl (pick i) (D.l.getD i (bytesL [])) = pick i ((D.ws.take j).foldl (pick i) (D.l.getD i (bytesL []))) w := by
        rw [List.take_add_one, hw2, List.foldl_append]; rfl
      refine ⟨by omega, by show (j : Int) < (D.ws.length : Int); omega, b2, o2, ea2, _, hc2 0 _ rfl, _, hc2 1 _ rfl, ?_⟩
      have hb : beqS w.2 w.2 = true := by rw [beqS_val]; simp
      rw [hb, hb_eq]
      refine split_cond (fun e => ?_) fun e => ?_
      · have e : (w.1 : Int) = (i : Int) := by simpa using e
        refine ⟨D.ws.length - (j + 1), by omega, j + 1, by rw [wid (by omega) (by omega)]; omega, by omega, rfl, rfl, ?_⟩
        rw [ht]; unfold pick; rw [if_pos (by omega)]
      · have e : ¬ (w.1 : Int) = (i : Int) := by simpa using e
        refine ⟨D.ws.length - (j + 1), by omega, j + 1, by rw [wid (by omega) (by omega)]; omega, by omega, rfl, rfl, ?_⟩
        rw [ht]; unfold pick; rw [if_neg (by omega)]
    · have : j = D.ws.length := by
        have : ¬ (j : Int) < (D.ws.length : Int) := g
        omega
      subst this
      rw [List.take_length]
      exact hK
theorem write_bad (H : DkAt h db S D) (at_ : Int) (s : ByteArray) (hu : D.use at_ ≠ 0) (hK : K (.int .i64 (D.use at_)) h) : CallsH Tryz.prog disk_Disk_Write.id #[.pointer (some ⟨db, 0, none⟩), .int .i64 at_, .string s] h K := by
  apply disk_Disk_Write.calls
  unfold disk_Disk_Write.W
  exact use_spec H at_ ⟨_, rfl, split_ne (fun _ => hK) fun e => absurd e hu⟩
theorem write_spec (H : DkAt h db S D) {i : Nat} (hi : i < D.l.length) (hd : D.down = false) (s : ByteArray) (hs : s.size = 256) (hw : D.ws.length < 4096)
    (hK : ∀ h' S', DkAt h' db S' (D.write i s) → Step S h S' h' → K (.int .i64 0) h') : CallsH Tryz.prog disk_Disk_Write.id #[.pointer (some ⟨db, 0, none⟩), .int .i64 (i : Nat), .string s] h K := by
  apply disk_Disk_Write.calls
  unfold disk_Disk_Write.W
  have hll := H.len
  refine use_spec H _ ⟨_, rfl, split_ne (fun e => absurd (Dk.use_ok hd hi) e) fun _ => split_ne (fun e => absurd (by show (s.size : Int) = 256; omega) e) fun _ => ?_⟩
  obtain ⟨la, lc, wa, wc, n, h1, h2, h3, h4, h5, h6⟩ := H.at_
  refine ⟨_, _, _, h1.cell' 1 rfl, fun k7 hk7 => ?_⟩
  have s7 := Sub.upd hk7 (.cells #[.int .i64 (i : Nat), .string s] 130 (0, 0))
  have hx : SliceAt (h.upd k7 (.cells #[.int .i64 (i : Nat), .string s] 130 (0, 0))) (some ⟨k7, 0, none⟩) 2 (wrC (i, s)) := (Blk.new h k7 130 (wrC (i, s))).slice rfl
  refine ⟨_, hx, fun a' c' y => OwnR wrC 2 y 130 a' c' (D.ws ++ [(i, s)]) ∧ Keep (blkOf wa) h y ∧ ∀ b, blkOf a' b → blkOf wa b ∨ h b = none, ?_, ?_⟩
  · rintro a' c' y ⟨o1, o2, o3⟩
    have B0 := h1.keep o2 fun hc => h5 _ hc rfl
    have L0 := h2.keep o2 fun c hc => (h4 c hc).2
    have hdb : ∀ b, blkOf a' b → b ≠ db := fun b hb e => by
      rcases o3 b hb with h | h
      · exact h5 b h e
      · rw [e] at h; unfold Blk at h1; rw [h1] at h; cases h
    have hla : ∀ b, blkOf la b → ¬ blkOf a' b := fun b hb hb' => by
      rcases o3 b hb' with h | h
      · exact (h4 b hb).2 h
      · exact Own.in_heap h2 hb h
    have B1 : Blk (y.put db (0 + 1) [.slice a' (D.ws.length + 1) c']) db 108 [.slice la D.l.length lc, .slice a' (D.ws.length + 1) c', .int .i64 (D.fuse : Nat), .int .i64 n, .bool D.down] := B0.put 1 _
    have B2 : Blk ((y.put db (0 + 1) [.slice a' (D.ws.length + 1) c']).put db (0 + 3) [.int .i64 (IntKind.i64.wrap (n + 1))]) db 108 [.slice la D.l.length lc, .slice a' (D.ws.length + 1) c', .int .i64 (D.fuse : Nat), .int .i64 (IntKind.i64.wrap (n + 1)), .bool D.down] := B1.put 3 _
    have fin : ∀ (z : Hp) (f : Nat) (d : Bool), Keep (fun c => c = db) y z → Blk z db 108 [.slice la D.l.length lc, .slice a' (D.ws.length + 1) c', .int .i64 (f : Nat), .int .i64 (IntKind.i64.wrap (n + 1)), .bool d] → f = (D.write i s).fuse → d = (D.write i s).down → K (.int .i64 0) z := by
      intro z f d kz Bz ef ed
      have hlen : (D.ws ++ [(i, s)]).length = D.ws.length + 1 := by simp
      refine hK z (fun c => c = db ∨ blkOf la c ∨ blkOf a' c) ⟨⟨la, lc, a', c', _, by subst ef; subst ed; rw [show (D.write i s).ws.length = D.ws.length + 1 from hlen]; exact Bz, L0.keep kz fun c hc e => (h4 c hc).1 e, o1.keep kz fun c hc e => hdb c hc e, fun c hc => ⟨(h4 c hc).1, hla c hc⟩, hdb, fun c => Iff.rfl⟩, ?_, hll, H.lsz, by rw [show (D.write i s).ws.length = D.ws.length + 1 from hlen]; omega, ?_⟩ ⟨?_, ?_⟩
      · intro w hw'
        rcases List.mem_append.1 hw' with h | h
        · exact H.idx w h
        · rw [List.mem_singleton] at h; rw [h]; exact ⟨hi, hs⟩
      · have := H.fuse
        show D.fuse - 1 < _
        omega
      · exact ((o2.mono fun c hc => (h6 c).2 (.inr (.inr hc))).trans (kz.mono fun c hc => (h6 c).2 (.inl hc)))
      · rintro c (rfl | hc | hc)
        · exact .inl ((h6 _).2 (.inl rfl))
        · exact .inl ((h6 _).2 (.inr (.inl hc)))
        · rcases o3 c hc with h | h
          · exact .inl ((h6 _).2 (.inr (.inr h)))
          · exact .inr h
    have kp : ∀ (z : Hp) (o : Nat) (vs : List Value), Keep (fun c => c = db) z (z.put db o vs) := fun z o vs => Keep.put _ z o vs rfl
    have hf := H.fuse
    refine ⟨B0.store (by show 1 + 1 ≤ 5; omega), _, B1.cell' 3 rfl, B1.store (by show 3 + 1 ≤ 5; omega), _, B2.cell' 2 rfl, split_dec (fun g => ?_) fun g => ?_⟩
    · have g : 0 < D.fuse := by have : (D.fuse : Int) > 0 := g; omega
      have ew : IntKind.i64.wrap ((D.fuse : Int) - 1) = ((D.fuse - 1 : Nat) : Int) := by rw [wid (by omega) (by omega)]; omega
      refine ⟨_, B2.cell' 2 rfl, B2.store (by show 2 + 1 ≤ 5; omega), ?_⟩
      rw [ew]
      have B3 : Blk (((y.put db (0 + 1) [.slice a' (D.ws.length + 1) c']).put db (0 + 3) [.int .i64 (IntKind.i64.wrap (n + 1))]).put db (0 + 2) [.int .i64 ((D.fuse - 1 : Nat) : Int)]) db 108 [.slice la D.l.length lc, .slice a' (D.ws.length + 1) c', .int .i64 ((D.fuse - 1 : Nat) : Int), .int .i64 (IntKind.i64.wrap (n + 1)), .bool D.down] := B2.put 2 _
      refine ⟨_, B3.cell' 2 rfl, B3.store (by show 4 + 1 ≤ 5; omega), fin _ (D.fuse - 1) (hb (((D.fuse - 1 : Nat) : Int) == 0)) ((((kp _ _ _).trans (kp _ _ _)).trans (kp _ _ _)).trans (kp _ _ _)) (B3.put 4 _) rfl ?_⟩
      rw [hb_eq]
      show _ = if D.fuse > 0 then decide (D.fuse = 1) else D.down
      rw [if_pos g]
      by_cases e : D.fuse = 1
      · rw [e]; rfl
      · have h0 : ¬ ((D.fuse - 1 : Nat) : Int) = 0 := by omega
        rw [decide_eq_false e]
        exact beq_false_of_ne h0
    · have g : D.fuse = 0 := by have : ¬ (D.fuse : Int) > 0 := g; omega
      refine fin _ D.fuse D.down ((kp _ _ _).trans (kp _ _ _)) B2 ?_ ?_
      · show D.fuse = D.fuse - 1
        omega
      · show _ = if D.fuse > 0 then decide (D.fuse = 1) else D.down
        rw [if_neg (by omega)]
  · refine append_ownR appTWr wrC_len wrC_plain (M := [(i, s)]) (h3.sub s7) rfl rfl (rowC_one _).symm (by simp; omega) fun a' c' y o k nw => ⟨o, fun c o' hc hn => k c o' (s7 c o' hc) hn, fun b hb => ?_⟩
    rcases nw b hb with h | h
    · exact .inl h
    · exact .inr (s7.none h)
/-- What settles of writes all of which are picked. -/
theorem settle_spec (H : DkAt h db S D) (hK : ∀ h' S', DkAt h' db S' D.flush → Step S h S' h' → K (.tuple #[]) h') : CallsH Tryz.prog disk_Disk_settle.id #[.pointer (some ⟨db, 0, none⟩), .func (.func 88) #[] #[]] h K := by
  apply disk_Disk_settle_1f88.calls
  unfold disk_Disk_settle_1f88.W
  have hw := H.wlen
  obtain ⟨la, lc, wa, wc, n, h1, h2, h3, h4, h5, h6⟩ := H.at_
  refine ⟨_, _, _, h1.cell' 1 rfl, fun k x m => ∃ j : Nat, k = (j : Int) ∧ j ≤ D.ws.length ∧ m = D.ws.length - j ∧ Keep (blkOf la) h x ∧ OwnR strC 1 x 9 la lc (settleL D.l (D.ws.take j)), ⟨_, 0, rfl, Nat.zero_le _, rfl, Keep.refl _ _, h2⟩, ?_⟩
  rintro k x m ⟨j, rfl, hj, rfl, kx, ox⟩
  have Bx := h1.keep kx fun hc => (h4 _ hc).1 rfl
  have wx := h3.keep kx fun c hc hc' => (h4 c hc').2 hc
  refine split_dec (fun g => ?_) fun g => ?_
  · have g : j < D.ws.length := by have : (j : Int) < (D.ws.length : Int) := g; omega
    have hw2 : D.ws[j]? = some D.ws[j] := List.getElem?_eq_getElem g
    have hwi := (H.idx D.ws[j] (List.getElem_mem g)).1
    generalize D.ws[j] = w at hw2 hwi
    obtain ⟨b2, o2, ea2, hc2⟩ := wx.row.get wrC_len (by decide) hw2
    have ht : settleL D.l (D.ws.take (j + 1)) = (settleL D.l (D.ws.take j)).set w.1 w.2 := by
      unfold settleL
      rw [List.take_add_one, hw2, List.foldl_append]; rfl
    have hsl := settleL_len (D.ws.take j) D.l
    obtain ⟨b, eb, so, op⟩ := ox.put strC_len (i := w.1) (j := 0) (x := (settleL D.l (D.ws.take j))[w.1]'(by omega)) (y := w.2) (vs := [.string w.2]) (List.getElem?_eq_getElem (by omega)) (by decide) (Nat.le_refl 1) rfl
    refine ⟨by omega, by show (j : Int) < (D.ws.length : Int); omega, b2, o2, ea2, _, hc2 0 _ rfl, _, hc2 1 _ rfl, disk_Disk_Flush_1.calls _ ⟨_, rfl, ?_⟩⟩
    refine ⟨_, _, _, Bx.cell' 0 rfl, by omega, by show (w.1 : Int) < (D.l.length : Int); omega, b, 0, eb, ?_, ?_⟩
    · have e : 0 + w.1 * 1 + 0 = 0 + (w.1 : Int).toNat * 1 := by rw [Int.toNat_natCast]; omega
      rw [← e]; exact so
    · have e : 0 + w.1 * 1 + 0 = 0 + (w.1 : Int).toNat * 1 := by rw [Int.toNat_natCast]; omega
      rw [← e]
      refine ⟨D.ws.length - (j + 1), by omega, j + 1, by rw [wid (by omega) (by omega)]; omega, by omega, rfl, kx.trans (Keep.put _ _ _ _ ⟨0, none, eb⟩), ?_⟩
      rw [ht]; exact op
  · have : j = D.ws.length := by
      have : ¬ (j : Int) < (D.ws.length : Int) := g
      omega
    subst this
    rw [List.take_length] at ox
    have hl := settleL_len D.ws D.l
    have B2 : Blk (x.put db (0 + 1) [.slice none 0 0]) db 108 [.slice la D.l.length lc, .slice none 0 0, .int .i64 (D.fuse : Nat), .int .i64 n, .bool D.down] := Bx.put 1 _
    have kd : Keep (fun c => c = db) x (x.put db (0 + 1) [.slice none 0 0]) := Keep.put _ x _ _ rfl
    refine ⟨Bx.store (by show 1 + 1 ≤ 5; omega), hK _ (fun c => c = db ∨ blkOf la c) ⟨⟨la, lc, none, 0, n, ?_, ox.keep kd fun c hc e => (h4 c hc).1 e, OwnR.nil _ _, fun c hc => ⟨(h4 c hc).1, fun ⟨o, s, e⟩ => by cases e⟩, (fun c ⟨o, s, e⟩ => by cases e), fun c => ⟨fun hc => hc.imp id .inl, fun hc => hc.imp id fun hc => hc.elim id fun ⟨o, s, e⟩ => by cases e⟩⟩, (fun w hw => by cases hw), ?_, settleL_sz _ _ H.lsz (fun w hw => (H.idx w hw).2), Nat.zero_le _, H.fuse⟩ ⟨?_, fun c hc => .inl ((h6 c).2 (hc.imp id .inl))⟩⟩
    · show Blk _ db 108 [.slice la (settleL D.l D.ws).length lc, .slice none 0 0, .int .i64 (D.fuse : Nat), .int .i64 n, .bool D.down]
      rw [hl]; exact B2
    · show (settleL D.l D.ws).length ≤ 2048
      rw [hl]; exact H.len
    · exact (kx.mono fun c hc => (h6 c).2 (.inr (.inl hc))).trans (kd.mono fun c hc => (h6 c).2 (.inl hc))
theorem flush_bad (H : DkAt h db S D) (hu : D.use 0 ≠ 0) (hK : K (.int .i64 (D.use 0)) h) : CallsH Tryz.prog disk_Disk_Flush.id #[.pointer (some ⟨db, 0, none⟩)] h K := by
  apply disk_Disk_Flush.calls
  unfold disk_Disk_Flush.W
  exact use_spec H 0 ⟨_, rfl, split_ne (fun _ => hK) fun e => absurd e hu⟩
theorem flush_spec (H : DkAt h db S D) (hl : 0 < D.l.length) (hd : D.down = false) (hK : ∀ h' S', DkAt h' db S' D.flush → Step S h S' h' → K (.int .i64 0) h') : CallsH Tryz.prog disk_Disk_Flush.id #[.pointer (some ⟨db, 0, none⟩)] h K := by
  apply disk_Disk_Flush.calls
  unfold disk_Disk_Flush.W
  have hu : D.use 0 = 0 := Dk.use_ok (i := 0) hd hl
  exact use_spec H 0 ⟨_, rfl, split_ne (fun e => absurd hu e) fun _ => settle_spec H fun h' S' H' st => ⟨rfl, hK h' S' H' st⟩⟩
/-! ### a new disk -/
def zeroB (n : Nat) : ByteArray := ⟨(List.replicate n 0).toArray⟩
theorem zeroB_size (n : Nat) : (zeroB n).size = n := by show (List.replicate n (0 : UInt8)).toArray.size = n; simp
theorem zeroB_bytes (n : Nat) : bytesV (zeroB n) = repV n [.int .u8 0] := by
  unfold bytesV repV
  show (List.replicate n (0 : UInt8)).map _ = _
  induction n with
  | zero => rfl
  | succ n ih => rw [List.replicate_succ, List.map_cons, ih, List.replicate_succ, List.flatten_cons]; rfl
theorem zero_slice {h : Hp} {k : Nat} {t : TypeId} {n : Nat} (H : h k = some (.cells (repV n [.int .u8 0]).toArray t (0, 0))) : SliceAt h (some ⟨k, 0, none⟩) n (bytesV (zeroB n)) := by
  rw [zeroB_bytes]
  refine Blk.slice (t := t) H ?_
  unfold repV; simp
def Dk.new (n : Nat) : Dk := ⟨List.replicate n (zeroB 256), [], 0, false⟩
theorem dnew_bad (n : Int) (hn : n < 1 ∨ n > 2048) (hK : K (.tuple #[.pointer none, .int .i64 1]) h) : CallsH Tryz.prog disk_New.id #[.int .i64 n] h K := by
  apply disk_New.calls
  unfold disk_New.W
  exact split_dec (fun _ => hK) fun e1 => split_dec (fun _ => hK) fun e2 => by omega
theorem dnew_spec (n : Nat) (h1 : 1 ≤ n) (h2 : n ≤ 2048) (hK : ∀ h' db S, DkAt h' db S (Dk.new n) → Sub h h' → (∀ c, S c → h c = none) → K (.tuple #[.pointer (some ⟨db, 0, none⟩), .int .i64 0]) h') : CallsH Tryz.prog disk_New.id #[.int .i64 (n : Nat)] h K := by
  apply disk_New.calls
  unfold disk_New.W
  refine split_dec (fun e => by have e : (n : Int) < 1 := e; omega) fun _ => split_dec (fun e => by have e : (n : Int) > 2048 := e; omega) fun _ => ?_
  intro k1 hk1
  refine ⟨by decide, by decide, by decide, by decide, fun k2 hk2 => ⟨zeroB 256, zero_slice (Hp.upd_same _ _ _), ?_⟩⟩
  have hne : k2 ≠ k1 := fun e => by rw [e, Hp.upd_same] at hk2; cases hk2
  rw [Hp.upd_ne _ _ hne] at hk2
  have B0 : Blk ((h.upd k1 (.cells #[.slice none 0 0, .slice none 0 0, .int .i64 0, .int .i64 0, .bool false] 108 (0, 0))).upd k2 (.cells (repV 256 [.int .u8 0]).toArray 5 (0, 0))) k1 108 [.slice none 0 0, .slice none 0 0, .int .i64 0, .int .i64 0, .bool false] :=
    (Blk.new h k1 108 _).upd (by rw [Hp.upd_ne _ _ hne]; exact hk2) _
  have s0 : Sub h ((h.upd k1 (.cells #[.slice none 0 0, .slice none 0 0, .int .i64 0, .int .i64 0, .bool false] 108 (0, 0))).upd k2 (.cells (repV 256 [.int .u8 0]).toArray 5 (0, 0))) :=
    (Sub.upd hk1 _).trans (Sub.upd (by rw [Hp.upd_ne _ _ hne]; exact hk2) _)
  generalize (h.upd k1 (.cells #[.slice none 0 0, .slice none 0 0, .int .i64 0, .int .i64 0, .bool false] 108 (0, 0))).upd k2 (.cells (repV 256 [.int .u8 0]).toArray 5 (0, 0)) = h1' at B0 s0
  refine ⟨fun i x m => ∃ (j : Nat) (la : Option Addr) (lc : Nat), i = (j : Int) ∧ j ≤ n ∧ m = n - j ∧ Sub h x ∧ Blk x k1 108 [.slice la j lc, .slice none 0 0, .int .i64 0, .int .i64 0, .bool false] ∧ OwnR strC 1 x 9 la lc (List.replicate j (zeroB 256)) ∧ ∀ c, blkOf la c → c ≠ k1 ∧ h c = none,
    ⟨_, 0, none, 0, rfl, Nat.zero_le _, rfl, s0, B0, OwnR.nil _ _, fun c ⟨o, s, e⟩ => by cases e⟩, ?_⟩
  rintro i x m ⟨j, la, lc, rfl, hj, rfl, sx, Bx, ox, nx⟩
  refine split_dec (fun g => ?_) fun g => ?_
  · have g : j < n := by have : (j : Int) < (n : Int) := g; omega
    refine ⟨_, _, _, Bx.cell' 0 rfl, fun k hk => ⟨_, (Blk.new x k 9 (strC (zeroB 256))).slice rfl, fun a' c' y => OwnR strC 1 y 9 a' c' (List.replicate (j + 1) (zeroB 256)) ∧ Keep (blkOf la) x y ∧ ∀ b, blkOf a' b → blkOf la b ∨ x b = none, ?_, ?_⟩⟩
    · rintro a' c' y ⟨o1, o2, o3⟩
      have By := Bx.keep o2 fun hc => (nx _ hc).1 rfl
      have sy : Sub h y := o2.sub sx fun c hc => (nx c hc).2
      have hk1' : ∀ c, blkOf a' c → c ≠ k1 ∧ h c = none := fun c hc => by
        rcases o3 c hc with h' | h'
        · exact nx c h'
        · exact ⟨(fun e => by rw [e] at h'; unfold Blk at Bx; rw [Bx] at h'; cases h'), sx.none h'⟩
      have kp : Keep (fun c => c = k1) y (y.put k1 0 [.slice a' (j + 1) c']) := Keep.put _ y _ _ rfl
      exact ⟨By.store (by show 0 + 1 ≤ 5; omega), n - (j + 1), by omega, j + 1, a', c', by rw [wid (by omega) (by omega)]; omega, by omega, rfl, kp.sub sy (fun c e => by rw [e]; exact hk1), By.put 0 _, o1.keep kp fun c hc e => (hk1' c hc).1 e, hk1'⟩
    · refine append_ownR appTStr strC_len strC_plain (M := [zeroB 256]) (ox.sub (Sub.upd hk _)) (by simp) rfl (rowC_one _).symm (by simp; omega) fun a' c' y o k' nw => ⟨by rw [List.replicate_succ']; exact o, fun c o' hc hn => k' c o' (Sub.upd hk _ c o' hc) hn, fun b hb => ?_⟩
      rcases nw b hb with h | h
      · exact .inl h
      · exact .inr ((Sub.upd hk _).none h)
  · have : j = n := by
      have : ¬ (j : Int) < (n : Int) := g
      omega
    subst this
    refine hK x k1 (fun c => c = k1 ∨ blkOf la c) ⟨⟨la, lc, none, 0, 0, ?_, ox, OwnR.nil _ _, fun c hc => ⟨(nx c hc).1, fun ⟨o, s, e⟩ => by cases e⟩, (fun c ⟨o, s, e⟩ => by cases e), fun c => ⟨fun hc => hc.imp id .inl, fun hc => hc.imp id fun hc => hc.elim id fun ⟨o, s, e⟩ => by cases e⟩⟩, (fun w hw => by cases hw), ?_, (fun s hs => by rw [(List.mem_replicate.1 hs).2]; exact zeroB_size 256), Nat.zero_le _, (by show 0 < 9223372036854775808; omega)⟩ sx fun c hc => ?_
    · show Blk x k1 108 [.slice la (List.replicate j (zeroB 256)).length lc, .slice none 0 0, .int .i64 0, .int .i64 0, .bool false]
      rw [List.length_replicate]; exact Bx
    · show (List.replicate j (zeroB 256)).length ≤ 2048
      rw [List.length_replicate]; exact h2
    · rcases hc with rfl | hc
      · exact hk1
      · exact (nx c hc).2
end Go.Proofs.YtagglohkipioiaaGreat
