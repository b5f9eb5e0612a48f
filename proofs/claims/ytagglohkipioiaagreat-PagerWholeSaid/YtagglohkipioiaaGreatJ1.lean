/- A journal on a disk: what its reading and laying do. Conditions: it stands as it is named, with room. A journal on a disk: what its writing does. Conditions: it stands as it is named, with room. -/
import Derived.Test.YtagglohkipioiaaGreatD1
namespace Go.Proofs.YtagglohkipioiaaGreat
open Go.Gx
set_option maxRecDepth 100000
set_option linter.unusedVariables false

structure JAt (h : Hp) (jb db : Nat) (S : Nat → Prop) (n : Nat) (D : Dk) : Prop where
  ex : ∃ S0, Blk h jb 110 [.pointer (some ⟨db, 0, none⟩), .int .i64 (n : Nat)] ∧ DkAt h db S0 D ∧ ¬ S0 jb ∧ ∀ c, S c ↔ (c = jb ∨ S0 c)
  n1 : 1 ≤ n
  n2 : n ≤ 128
  len : 8 * n + 1 ≤ D.l.length
variable {h : Hp} {jb db n : Nat} {S : Nat → Prop} {D : Dk} {K : Value → Hp → Prop}
theorem JAt.out {S' : Nat → Prop} {h' : Hp} (J : JAt h jb db S n D) (s : Keep S' h h') (hn : ∀ c, S c → ¬ S' c) : JAt h' jb db S n D := by
  obtain ⟨S0, h1, h2, h3, h4⟩ := J.ex
  exact ⟨⟨S0, h1.keep s (hn _ ((h4 _).2 (.inl rfl))), h2.out s fun c hc => hn c ((h4 c).2 (.inr hc)), h3, h4⟩, J.n1, J.n2, J.len⟩
theorem JAt.sub {h' : Hp} (J : JAt h jb db S n D) (s : Sub h h') : JAt h' jb db S n D := J.out (S' := fun _ => False) (s.keep _) fun _ _ h => h
theorem JAt.in_heap (J : JAt h jb db S n D) {c : Nat} (hc : S c) : h c ≠ none := by
  obtain ⟨S0, h1, h2, h3, h4⟩ := J.ex
  rcases (h4 c).1 hc with rfl | hc
  · intro e; unfold Blk at h1; rw [h1] at e; cases e
  · exact h2.in_heap hc
theorem JAt.step (J : JAt h jb db S n D) : ∃ S0, DkAt h db S0 D ∧ Blk h jb 110 [.pointer (some ⟨db, 0, none⟩), .int .i64 (n : Nat)] ∧
    ∀ h' S1 D', DkAt h' db S1 D' → Step S0 h S1 h' → D'.l.length = D.l.length → ∃ S', JAt h' jb db S' n D' ∧ Step S h S' h' := by
  obtain ⟨S0, h1, h2, h3, h4⟩ := J.ex
  refine ⟨S0, h2, h1, fun h' S1 D' H' st hl => ⟨fun c => c = jb ∨ S1 c, ⟨⟨S1, h1.keep st.1 h3, H', ?_, fun c => Iff.rfl⟩, J.n1, J.n2, by rw [hl]; exact J.len⟩, ⟨st.1.mono fun c hc => (h4 c).2 (.inr hc), ?_⟩⟩⟩
  · exact (st.out h1 h3).2
  · rintro c (rfl | hc)
    · exact .inl ((h4 _).2 (.inl rfl))
    · rcases st.2 c hc with h | h
      · exact .inl ((h4 _).2 (.inr h))
      · exact .inr h
theorem jown_spec (J : JAt h jb db S n D) (i : Nat) (hi : i < 1000) (hK : K (.int .i64 ((1 + 4 * (n + i) : Nat) : Int)) h) : CallsH Tryz.prog journal_Journal_own.id #[.pointer (some ⟨jb, 0, none⟩), .int .i64 (i : Nat)] h K := by
  obtain ⟨S0, h1, h2, h3, h4⟩ := J.ex
  have := J.n2
  apply journal_Journal_own.calls
  unfold journal_Journal_own.W
  refine ⟨_, h1.cell' 1 rfl, ?_⟩
  have e : IntKind.i64.wrap (1 + IntKind.i64.wrap (4 * IntKind.i64.wrap ((n : Int) + (i : Int)))) = ((1 + 4 * (n + i) : Nat) : Int) := by
    rw [wid (x := (n : Int) + (i : Int)) (by omega) (by omega), wid (x := 4 * ((n : Int) + (i : Int))) (by omega) (by omega), wid (by omega) (by omega)]; omega
  rw [e]; exact hK
/-! ### reading a page -/
def Dk.look (D : Dk) (at_ : Nat) : Nat → List UInt8
  | 0 => []
  | i + 1 => D.look at_ i ++ (D.read (at_ + i)).data.toList
def Dk.page (D : Dk) (at_ : Nat) : ByteArray := ⟨(D.look at_ 4).toArray⟩
theorem look_len (H : DkAt h db S D) {at_ : Nat} : ∀ i, at_ + i ≤ D.l.length → (D.look at_ i).length = 256 * i
  | 0, _ => rfl
  | i + 1, hi => by
    unfold Dk.look
    rw [List.length_append, look_len H i (by omega), size_len, H.read_sz (by omega)]; omega
theorem look_spec (J : JAt h jb db S n D) (at_ : Nat) (hat : at_ + 4 ≤ D.l.length) (hd : D.down = false) (hK : ∀ h', Sub h h' → K (.tuple #[.string (D.page at_), .int .i64 0]) h') :
    CallsH Tryz.prog journal_Journal_look.id #[.pointer (some ⟨jb, 0, none⟩), .int .i64 (at_ : Nat)] h K := by
  obtain ⟨S0, h1, h2, h3, h4⟩ := J.ex
  have hll := h2.len
  apply journal_Journal_look.calls
  unfold journal_Journal_look.W
  refine ⟨fun a l c i x m => ∃ j : Nat, i = (j : Int) ∧ j ≤ 4 ∧ m = 4 - j ∧ l = (D.look at_ j).length ∧ NewR byteC 1 5 h x a c (D.look at_ j), ⟨_, 0, rfl, by decide, rfl, rfl, NewR.nil _ _⟩, ?_⟩
  rintro a l c i x m ⟨j, rfl, hj, rfl, rfl, N⟩
  refine split_dec (fun g => ?_) fun g => ?_
  · have g : j < 4 := by have : (j : Int) < 4 := g; omega
    have ew : IntKind.i64.wrap ((at_ : Int) + (j : Int)) = ((at_ + j : Nat) : Int) := by rw [wid (by omega) (by omega)]; omega
    rw [ew]
    have hsz := h2.read_sz (i := at_ + j) (by omega)
    have hlk := look_len h2 (at_ := at_) j (by omega)
    refine ⟨_, (h1.sub N.sub).cell' 0 rfl, read_spec (h2.sub N.sub) (by omega) hd ⟨_, _, rfl, split_ne (fun e => absurd rfl e) fun _ => ⟨fun a' c' y => NewR byteC 1 5 h y a' c' (D.look at_ (j + 1)), fun a' c' y hy => ⟨4 - (j + 1), by omega, j + 1, by rw [wid (by omega) (by omega)]; omega, by omega, rfl, ?_, hy⟩, ?_⟩⟩⟩
    · show (D.look at_ j).length + _ = (D.look at_ j ++ (D.read (at_ + j)).data.toList).length
      rw [List.length_append, size_len]
    · exact append_row appTByte byteC_len byteC_plain (M := (D.read (at_ + j)).data.toList) N rfl (size_len _).symm (rowC_bytes _).symm (by rw [size_len, hsz, hlk]; omega) fun a' c' y hy => hy
  · have : j = 4 := by
      have : ¬ (j : Int) < 4 := g
      omega
    subst this
    refine ⟨D.page at_, ?_, hK x N.sub⟩
    have := N.own.row
    unfold RowAt at this
    rw [Nat.mul_one] at this
    rw [← rowC_bytes]; exact this
theorem jread_bad (J : JAt h jb db S n D) (i : Int) (hi : i < 0 ∨ i ≥ (n : Int)) (hK : K (.tuple #[.string (bytesL []), .int .i64 9]) h) : CallsH Tryz.prog journal_Journal_Read.id #[.pointer (some ⟨jb, 0, none⟩), .int .i64 i] h K := by
  obtain ⟨S0, h1, h2, h3, h4⟩ := J.ex
  apply journal_Journal_Read.calls
  unfold journal_Journal_Read.W
  exact split_dec (fun _ => hK) fun e => ⟨_, h1.cell' 1 rfl, split_dec (fun _ => hK) fun e2 => by omega⟩
/-- A page itself. -/
def Dk.own (D : Dk) (n i : Nat) : ByteArray := D.page (1 + 4 * (n + i))
theorem jread_spec (J : JAt h jb db S n D) {i : Nat} (hi : i < n) (hd : D.down = false) (hK : ∀ h', Sub h h' → K (.tuple #[.string (D.own n i), .int .i64 0]) h') : CallsH Tryz.prog journal_Journal_Read.id #[.pointer (some ⟨jb, 0, none⟩), .int .i64 (i : Nat)] h K := by
  obtain ⟨S0, h1, h2, h3, h4⟩ := J.ex
  have := J.n2
  have := J.len
  apply journal_Journal_Read.calls
  unfold journal_Journal_Read.W
  refine split_dec (fun e => by have e : (i : Int) < 0 := e; omega) fun _ => ⟨_, h1.cell' 1 rfl, split_dec (fun e => by have e : (i : Int) ≥ (n : Int) := e; omega) fun _ => ?_⟩
  exact jown_spec J i (by omega) ⟨_, rfl, look_spec J _ (by omega) hd fun h' s => ⟨_, _, rfl, hK h' s⟩⟩
theorem jpages_spec (J : JAt h jb db S n D) (hK : K (.int .i64 (n : Nat)) h) : CallsH Tryz.prog journal_Journal_Pages.id #[.pointer (some ⟨jb, 0, none⟩)] h K := by
  obtain ⟨S0, h1, h2, h3, h4⟩ := J.ex
  apply journal_Journal_Pages.calls
  unfold journal_Journal_Pages.W
  exact ⟨_, h1.cell' 1 rfl, hK⟩
end Go.Proofs.YtagglohkipioiaaGreat
namespace Go.Proofs.YtagglohkipioiaaGreat
open Go.Gx
set_option maxRecDepth 100000
set_option linter.unusedVariables false

/-! ### writes one behind another -/
def wrs : Dk → List (Nat × ByteArray) → Dk × Int
  | D, [] => (D, 0)
  | D, w :: l => if D.down then (D, 10) else wrs (D.write w.1 w.2) l
theorem wrs_cons (D : Dk) (w : Nat × ByteArray) (l : List (Nat × ByteArray)) : wrs D (w :: l) = if D.down then (D, 10) else wrs (D.write w.1 w.2) l := rfl
theorem wrs_append : ∀ (a b : List (Nat × ByteArray)) (D : Dk), wrs D (a ++ b) = if (wrs D a).2 = 0 then wrs (wrs D a).1 b else wrs D a
  | [], b, D => by simp [wrs]
  | w :: a, b, D => by
    rw [List.cons_append, wrs_cons, wrs_cons]
    cases hd : D.down with
    | true => simp
    | false => simp only [Bool.false_eq_true, if_false]; exact wrs_append a b _
theorem wrs_l : ∀ (a : List (Nat × ByteArray)) (D : Dk), (wrs D a).1.l = D.l
  | [], D => rfl
  | w :: a, D => by
    unfold wrs
    cases hd : D.down with
    | true => rfl
    | false => simp only [Bool.false_eq_true, if_false]; exact wrs_l a _
theorem wrs_ws : ∀ (a : List (Nat × ByteArray)) (D : Dk), (wrs D a).1.ws.length ≤ D.ws.length + a.length
  | [], D => by simp [wrs]
  | w :: a, D => by
    unfold wrs
    cases hd : D.down with
    | true => simp
    | false =>
      simp only [Bool.false_eq_true, if_false]
      have := wrs_ws a (D.write w.1 w.2)
      have e : (D.write w.1 w.2).ws.length = D.ws.length + 1 := by show (D.ws ++ [_]).length = _; simp
      simp only [List.length_cons]; omega
theorem wrs_err : ∀ (a : List (Nat × ByteArray)) (D : Dk), (wrs D a).2 = 0 ∨ (wrs D a).2 = 10
  | [], D => .inl rfl
  | w :: a, D => by
    unfold wrs
    cases hd : D.down with
    | true => exact .inr rfl
    | false => simp only [Bool.false_eq_true, if_false]; exact wrs_err a _
/-- A page's parts, from a sector on. -/
def parts (at_ : Nat) (s : ByteArray) : List (Nat × ByteArray) := (List.range 4).map fun i => (at_ + i, s.extract (i * 256) ((i + 1) * 256))
theorem parts_len (at_ : Nat) (s : ByteArray) : (parts at_ s).length = 4 := by unfold parts; simp
theorem parts_get {at_ : Nat} {s : ByteArray} {j : Nat} (hj : j < 4) : (parts at_ s)[j]? = some (at_ + j, s.extract (j * 256) ((j + 1) * 256)) := by
  unfold parts
  rw [List.getElem?_map, List.getElem?_range hj]; rfl
def flD (r : Dk × Int) : Dk × Int := if r.2 ≠ 0 then r else if r.1.down then (r.1, 10) else (r.1.flush, 0)
variable {h : Hp} {jb db n : Nat} {S : Nat → Prop} {D : Dk} {K : Value → Hp → Prop}
theorem use_down {i : Nat} (hd : D.down = true) : D.use (i : Nat) = 10 := by unfold Dk.use; rw [hd, if_pos rfl]
/-- One write. -/
theorem jwrite_spec (J : JAt h jb db S n D) {i : Nat} (hi : i < D.l.length) (s : ByteArray) (hs : s.size = 256) (hw : D.ws.length < 4096)
    (hK : ∀ h' S', JAt h' jb db S' n (wrs D [(i, s)]).1 → Step S h S' h' → K (.int .i64 (wrs D [(i, s)]).2) h') : CallsH Tryz.prog disk_Disk_Write.id #[.pointer (some ⟨db, 0, none⟩), .int .i64 (i : Nat), .string s] h K := by
  obtain ⟨S0, h1, h2, h3⟩ := J.step
  cases hd : D.down with
  | true =>
    have e : wrs D [(i, s)] = (D, 10) := by unfold wrs; rw [hd, if_pos rfl]
    rw [e] at hK
    refine write_bad h1 _ _ (by rw [use_down hd]; decide) ?_
    rw [use_down hd]
    exact hK h S J (Step.refl _ _)
  | false =>
    have e : wrs D [(i, s)] = (D.write i s, 0) := by unfold wrs; rw [hd]; rfl
    rw [e] at hK
    refine write_spec h1 hi hd s hs hw fun h' S' H' st => ?_
    obtain ⟨S2, J2, st2⟩ := h3 h' S' _ H' st rfl
    exact hK h' S2 J2 st2
theorem lay_spec (J : JAt h jb db S n D) {at_ : Nat} (hat : at_ + 4 ≤ D.l.length) (s : ByteArray) (hs : s.size = 1024) (hw : D.ws.length + 4 ≤ 4096)
    (hK : ∀ h' S', JAt h' jb db S' n (wrs D (parts at_ s)).1 → Step S h S' h' → K (.int .i64 (wrs D (parts at_ s)).2) h') : CallsH Tryz.prog journal_Journal_lay.id #[.pointer (some ⟨jb, 0, none⟩), .int .i64 (at_ : Nat), .string s] h K := by
  apply journal_Journal_lay.calls
  unfold journal_Journal_lay.W
  have hll : D.l.length ≤ 2048 := by obtain ⟨S0, h1, h2, h3⟩ := J.step; exact h1.len
  refine ⟨fun i x m => ∃ (j : Nat) (S' : Nat → Prop), i = (j : Int) ∧ j ≤ 4 ∧ m = 4 - j ∧ JAt x jb db S' n (wrs D ((parts at_ s).take j)).1 ∧ Step S h S' x ∧ (wrs D ((parts at_ s).take j)).2 = 0, ⟨_, 0, S, rfl, by decide, rfl, J, Step.refl _ _, rfl⟩, ?_⟩
  rintro i x m ⟨j, S', rfl, hj, rfl, Jx, st, e0⟩
  refine split_dec (fun g => ?_) fun g => ?_
  · have g : j < 4 := by have : (j : Int) < 4 := g; omega
    have hp := parts_get (at_ := at_) (s := s) g
    have ht : (parts at_ s).take (j + 1) = (parts at_ s).take j ++ [(at_ + j, s.extract (j * 256) ((j + 1) * 256))] := by rw [List.take_add_one, hp]; rfl
    have hw1 : wrs D ((parts at_ s).take (j + 1)) = wrs (wrs D ((parts at_ s).take j)).1 [(at_ + j, s.extract (j * 256) ((j + 1) * 256))] := by rw [ht, wrs_append, if_pos e0]
    have hall : (parts at_ s) = (parts at_ s).take (j + 1) ++ (parts at_ s).drop (j + 1) := (List.take_append_drop _ _).symm
    obtain ⟨S0, h1, h2, h3⟩ := Jx.step
    have hl := wrs_l ((parts at_ s).take j) D
    have hws := wrs_ws ((parts at_ s).take j) D
    have hpl : ((parts at_ s).take j).length = j := by rw [List.length_take, parts_len]; omega
    have e1 : IntKind.i64.wrap ((j : Int) * 256) = ((j * 256 : Nat) : Int) := by rw [wid (by omega) (by omega)]; omega
    have e2 : IntKind.i64.wrap (IntKind.i64.wrap ((j : Int) + 1) * 256) = (((j + 1) * 256 : Nat) : Int) := by
      rw [wid (x := (j : Int) + 1) (by omega) (by omega), wid (by omega) (by omega)]; omega
    have e3 : IntKind.i64.wrap ((at_ : Int) + (j : Int)) = ((at_ + j : Nat) : Int) := by rw [wid (by omega) (by omega)]; omega
    rw [e1, e2, e3]
    refine ⟨_, h2.cell' 0 rfl, by omega, by show (((j + 1) * 256 : Nat) : Int) ≤ (s.size : Int); omega, by omega, by show ((j * 256 : Nat) : Int) ≤ ((((j + 1) * 256 : Nat) : Int).toNat : Int); omega, ?_⟩
    rw [Int.toNat_natCast, Int.toNat_natCast]
    refine jwrite_spec Jx (by rw [hl]; omega) _ (by rw [ByteArray.size_extract]; omega) (by omega) fun h' S2 J2 st2 => ⟨_, rfl, ?_⟩
    rw [← hw1] at J2 ⊢
    refine split_ne (fun e => ?_) fun e => ⟨4 - (j + 1), by omega, j + 1, S2, by rw [wid (by omega) (by omega)]; omega, by omega, rfl, J2, st.trans st2, e⟩
    have e' : wrs D (parts at_ s) = wrs D ((parts at_ s).take (j + 1)) := by
      conv => lhs; rw [hall, wrs_append, if_neg e]
    have := hK h' S2
    rw [e'] at this
    exact this J2 (st.trans st2)
  · have : j = 4 := by
      have : ¬ (j : Int) < 4 := g
      omega
    subst this
    rw [List.take_of_length_le (by rw [parts_len]; exact Nat.le_refl _)] at Jx e0
    have := hK x S' Jx st
    rw [e0] at this
    exact this
theorem flushed_spec (J : JAt h jb db S n D) (e : Int) (hK : ∀ h' S', JAt h' jb db S' n (flD (D, e)).1 → Step S h S' h' → K (.int .i64 (flD (D, e)).2) h') : CallsH Tryz.prog journal_Journal_flushed.id #[.pointer (some ⟨jb, 0, none⟩), .int .i64 e] h K := by
  obtain ⟨S0, h1, h2, h3⟩ := J.step
  have := J.len
  apply journal_Journal_flushed.calls
  unfold journal_Journal_flushed.W
  refine split_ne (fun he => ?_) fun he => ⟨_, h2.cell' 0 rfl, ?_⟩
  · have e1 : flD (D, e) = (D, e) := if_pos he
    rw [e1] at hK
    exact hK h S J (Step.refl _ _)
  · subst he
    cases hd : D.down with
    | true =>
      have e1 : flD (D, 0) = (D, 10) := by unfold flD; rw [if_neg (by simp), if_pos hd]
      rw [e1] at hK
      have h0 : D.use 0 = 10 := use_down (i := 0) hd
      refine flush_bad h1 (by rw [h0]; decide) ⟨_, rfl, ?_⟩
      rw [h0]
      exact hK h S J (Step.refl _ _)
    | false =>
      have e1 : flD (D, 0) = (D.flush, 0) := by unfold flD; rw [if_neg (by simp), if_neg (by simp [hd])]
      rw [e1] at hK
      refine flush_spec h1 (by omega) hd fun h' S' H' st => ⟨_, rfl, ?_⟩
      obtain ⟨S2, J2, st2⟩ := h3 h' S' _ H' st (settleL_len _ _)
      exact hK h' S2 J2 st2
/-! ### the pages of changes -/
def logW (cs : List (Nat × ByteArray)) : List (Nat × ByteArray) := cs.flatMap fun c => parts (1 + 4 * c.1) c.2
def ownW (n : Nat) (cs : List (Nat × ByteArray)) : List (Nat × ByteArray) := cs.flatMap fun c => parts (1 + 4 * (n + c.1)) c.2
theorem flatW_len (f : Nat × ByteArray → List (Nat × ByteArray)) (hf : ∀ c, (f c).length = 4) : ∀ cs : List (Nat × ByteArray), (cs.flatMap f).length = 4 * cs.length
  | [] => rfl
  | c :: cs => by rw [List.flatMap_cons, List.length_append, hf, flatW_len f hf cs, List.length_cons]; omega
theorem layAll_log (J : JAt h jb db S n D) {la : Option Addr} {lc : Nat} {cs : List (Nat × ByteArray)} (R : RowAt wrC 2 h la cs) (hla : ∀ c, blkOf la c → ¬ S c) (hc : ∀ c ∈ cs, c.1 < n ∧ c.2.size = 1024) (hcl : cs.length ≤ 128) (hw : D.ws.length ≤ 2048)
    (hK : ∀ h' S', JAt h' jb db S' n (wrs D (logW cs)).1 → Step S h S' h' → K (.int .i64 (wrs D (logW cs)).2) h') :
    CallsH Tryz.prog journal_Journal_layAll.id #[.pointer (some ⟨jb, 0, none⟩), .slice la cs.length lc, .func (.func 79) #[] #[]] h K := by
  apply journal_Journal_layAll_2f79.calls
  unfold journal_Journal_layAll_2f79.W
  have hn2 := J.n2
  have hln := J.len
  refine ⟨fun i x m => ∃ (j : Nat) (S' : Nat → Prop), i = (j : Int) ∧ j ≤ cs.length ∧ m = cs.length - j ∧ JAt x jb db S' n (wrs D (logW (cs.take j))).1 ∧ Step S h S' x ∧ (wrs D (logW (cs.take j))).2 = 0, ⟨_, 0, S, rfl, Nat.zero_le _, rfl, J, Step.refl _ _, rfl⟩, ?_⟩
  rintro i x m ⟨j, S', rfl, hj, rfl, Jx, st, e0⟩
  refine split_dec (fun g => ?_) fun g => ?_
  · have g : j < cs.length := by have : (j : Int) < (cs.length : Int) := g; omega
    have hq : cs[j]? = some cs[j] := List.getElem?_eq_getElem g
    have hcj := hc cs[j] (List.getElem_mem g)
    have hdr : cs = cs.take (j + 1) ++ cs.drop (j + 1) := (List.take_append_drop _ _).symm
    generalize cs[j] = c at hq hcj
    obtain ⟨b, o, ea, hcell⟩ := (R.keep st.1 hla).get wrC_len (by decide) hq
    have ht : logW (cs.take (j + 1)) = logW (cs.take j) ++ parts (1 + 4 * c.1) c.2 := by
      unfold logW
      rw [List.take_add_one, hq, List.flatMap_append]; simp
    have hw1 : wrs D (logW (cs.take (j + 1))) = wrs (wrs D (logW (cs.take j))).1 (parts (1 + 4 * c.1) c.2) := by rw [ht, wrs_append, if_pos e0]
    have hl := wrs_l (logW (cs.take j)) D
    have hws := wrs_ws (logW (cs.take j)) D
    have hpl : (logW (cs.take j)).length = 4 * j := by
      unfold logW
      rw [flatW_len _ (fun c => parts_len _ _), List.length_take]; omega
    have e1 : IntKind.i64.wrap (1 + IntKind.i64.wrap (4 * (c.1 : Int))) = ((1 + 4 * c.1 : Nat) : Int) := by
      rw [wid (x := 4 * (c.1 : Int)) (by omega) (by omega), wid (by omega) (by omega)]; omega
    refine ⟨by omega, by show (j : Int) < (cs.length : Int); omega, b, o, ea, _, hcell 0 _ rfl, _, hcell 1 _ rfl, journal_Journal_Commit_2.calls _ ⟨_, rfl, Sub.refl _, ?_⟩⟩
    rw [e1]
    refine lay_spec Jx (by rw [hl]; omega) c.2 hcj.2 (by omega) fun h' S2 J2 st2 => ⟨_, rfl, ?_⟩
    rw [← hw1] at J2 ⊢
    refine split_ne (fun e => ?_) fun e => ⟨cs.length - (j + 1), by omega, j + 1, S2, by rw [wid (by omega) (by omega)]; omega, by omega, rfl, J2, st.trans st2, e⟩
    have e' : wrs D (logW cs) = wrs D (logW (cs.take (j + 1))) := by
      have e2 : logW cs = logW (cs.take (j + 1)) ++ logW (cs.drop (j + 1)) := by
        conv => lhs; rw [hdr]
        unfold logW; rw [List.flatMap_append]
      rw [e2, wrs_append, if_neg e]
    have := hK h' S2
    rw [e'] at this
    exact this J2 (st.trans st2)
  · have : j = cs.length := by
      have : ¬ (j : Int) < (cs.length : Int) := g
      omega
    subst this
    rw [List.take_length] at Jx e0
    have := hK x S' Jx st
    rw [e0] at this
    exact this
theorem layAll_own (J : JAt h jb db S n D) {la : Option Addr} {lc : Nat} {cs : List (Nat × ByteArray)} (R : RowAt wrC 2 h la cs) (hla : ∀ c, blkOf la c → ¬ S c) (hc : ∀ c ∈ cs, c.1 < n ∧ c.2.size = 1024) (hcl : cs.length ≤ 128) (hw : D.ws.length ≤ 2048)
    (hK : ∀ h' S', JAt h' jb db S' n (wrs D (ownW n cs)).1 → Step S h S' h' → K (.int .i64 (wrs D (ownW n cs)).2) h') :
    CallsH Tryz.prog journal_Journal_layAll.id #[.pointer (some ⟨jb, 0, none⟩), .slice la cs.length lc, .func (.func 59) #[.pointer (some ⟨jb, 0, none⟩)] #[]] h K := by
  apply journal_Journal_layAll_2m59.calls
  unfold journal_Journal_layAll_2m59.W
  have hn2 := J.n2
  have hln := J.len
  refine ⟨fun i x m => ∃ (j : Nat) (S' : Nat → Prop), i = (j : Int) ∧ j ≤ cs.length ∧ m = cs.length - j ∧ JAt x jb db S' n (wrs D (ownW n (cs.take j))).1 ∧ Step S h S' x ∧ (wrs D (ownW n (cs.take j))).2 = 0, ⟨_, 0, S, rfl, Nat.zero_le _, rfl, J, Step.refl _ _, rfl⟩, ?_⟩
  rintro i x m ⟨j, S', rfl, hj, rfl, Jx, st, e0⟩
  refine split_dec (fun g => ?_) fun g => ?_
  · have g : j < cs.length := by have : (j : Int) < (cs.length : Int) := g; omega
    have hq : cs[j]? = some cs[j] := List.getElem?_eq_getElem g
    have hcj := hc cs[j] (List.getElem_mem g)
    have hdr : cs = cs.take (j + 1) ++ cs.drop (j + 1) := (List.take_append_drop _ _).symm
    generalize cs[j] = c at hq hcj
    obtain ⟨b, o, ea, hcell⟩ := (R.keep st.1 hla).get wrC_len (by decide) hq
    have ht : ownW n (cs.take (j + 1)) = ownW n (cs.take j) ++ parts (1 + 4 * (n + c.1)) c.2 := by
      unfold ownW
      rw [List.take_add_one, hq, List.flatMap_append]; simp
    have hw1 : wrs D (ownW n (cs.take (j + 1))) = wrs (wrs D (ownW n (cs.take j))).1 (parts (1 + 4 * (n + c.1)) c.2) := by rw [ht, wrs_append, if_pos e0]
    have hl := wrs_l (ownW n (cs.take j)) D
    have hws := wrs_ws (ownW n (cs.take j)) D
    have hpl : (ownW n (cs.take j)).length = 4 * j := by
      unfold ownW
      rw [flatW_len _ (fun c => parts_len _ _), List.length_take]; omega
    refine ⟨by omega, by show (j : Int) < (cs.length : Int); omega, b, o, ea, _, hcell 0 _ rfl, _, hcell 1 _ rfl, jown_spec Jx c.1 (by omega) ⟨_, rfl, Sub.refl _, ?_⟩⟩
    refine lay_spec Jx (by rw [hl]; omega) c.2 hcj.2 (by omega) fun h' S2 J2 st2 => ⟨_, rfl, ?_⟩
    rw [← hw1] at J2 ⊢
    refine split_ne (fun e => ?_) fun e => ⟨cs.length - (j + 1), by omega, j + 1, S2, by rw [wid (by omega) (by omega)]; omega, by omega, rfl, J2, st.trans st2, e⟩
    have e' : wrs D (ownW n cs) = wrs D (ownW n (cs.take (j + 1))) := by
      have e2 : ownW n cs = ownW n (cs.take (j + 1)) ++ ownW n (cs.drop (j + 1)) := by
        conv => lhs; rw [hdr]
        unfold ownW; rw [List.flatMap_append]
      rw [e2, wrs_append, if_neg e]
    have := hK h' S2
    rw [e'] at this
    exact this J2 (st.trans st2)
  · have : j = cs.length := by
      have : ¬ (j : Int) < (cs.length : Int) := g
      omega
    subst this
    rw [List.take_length] at Jx e0
    have := hK x S' Jx st
    rw [e0] at this
    exact this
end Go.Proofs.YtagglohkipioiaaGreat
