/- A journal on a disk: what its reading and laying do. Conditions: it stands as it is named, with room. -/
import Derived.Test.YtagglohkipioiaaD1
namespace Go.Proofs.Ytagglohkipioiaa
open Go.Gx
set_option maxRecDepth 100000
set_option linter.unusedVariables false

structure JAt (h : Hp) (jb db : Nat) (S : Nat → Prop) (n : Nat) (D : Dk) : Prop where
  ex : ∃ S0, Blk h jb 104 [.pointer (some ⟨db, 0, none⟩), .int .i64 (n : Nat)] ∧ DkAt h db S0 D ∧ ¬ S0 jb ∧ ∀ c, S c ↔ (c = jb ∨ S0 c)
  n1 : 1 ≤ n
  n2 : n ≤ 128
  len : 8 * n + 1 ≤ D.l.length
variable {h : Hp} {jb db n : Nat} {S : Nat → Prop} {D : Dk} {K : Value → Hp → Prop}
theorem JAt.out {S' : Nat → Prop} {h' : Hp} (J : JAt h jb db S n D) (s : Keep S' h h') (hn : ∀ c, S c → ¬ S' c) : JAt h' jb db S n D := by
  obtain ⟨S0, h1, h2, h3, h4⟩ := J.ex
  exact ⟨⟨S0, h1.keep s (hn _ ((h4 _).2 (.inl rfl))), h2.out s fun c hc => hn c ((h4 c).2 (.inr hc)), h3, h4⟩, J.n1, J.n2, J.len⟩
theorem JAt.sub {h' : Hp} (J : JAt h jb db S n D) (s : Sub h h') : JAt h' jb db S n D := J.out (S' := fun _ => False) (s.keep _) fun _ _ h => h
theorem JAt.in_heap (J : JAt h jb db S n D) {c : Nat} (hc : S c) : h c ≠ none := by
  obtain ⟨S0, h1, h2, h3, h4⟩ := J.ex
  rcases (h4 c).1 hc with rfl | hc
  · intro e; unfold Blk at h1; rw [h1] at e; cases e
  · exact h2.in_heap hc
theorem JAt.step (J : JAt h jb db S n D) : ∃ S0, DkAt h db S0 D ∧ Blk h jb 104 [.pointer (some ⟨db, 0, none⟩), .int .i64 (n : Nat)] ∧
    ∀ h' S1 D', DkAt h' db S1 D' → Step S0 h S1 h' → D'.l.length = D.l.length → ∃ S', JAt h' jb db S' n D' ∧ Step S h S' h' := by
  obtain ⟨S0, h1, h2, h3, h4⟩ := J.ex
  refine ⟨S0, h2, h1, fun h' S1 D' H' st hl => ⟨fun c => c = jb ∨ S1 c, ⟨⟨S1, h1.keep st.1 h3, H', ?_, fun c => Iff.rfl⟩, J.n1, J.n2, by rw [hl]; exact J.len⟩, ⟨st.1.mono fun c hc => (h4 c).2 (.inr hc), ?_⟩⟩⟩
  · exact (st.out h1 h3).2
  · rintro c (rfl | hc)
    · exact .inl ((h4 _).2 (.inl rfl))
    · rcases st.2 c hc with h | h
      · exact .inl ((h4 _).2 (.inr h))
      · exact .inr h
theorem jown_spec (J : JAt h jb db S n D) (i : Nat) (hi : i < 1000) (hK : K (.int .i64 ((1 + 4 * (n + i) : Nat) : Int)) h) : CallsH Try.prog journal_Journal_own.id #[.pointer (some ⟨jb, 0, none⟩), .int .i64 (i : Nat)] h K := by
  obtain ⟨S0, h1, h2, h3, h4⟩ := J.ex
  have := J.n2
  apply journal_Journal_own.calls
  unfold journal_Journal_own.W
  refine ⟨_, h1.cell' 1 rfl, ?_⟩
  have e : IntKind.i64.wrap (1 + IntKind.i64.wrap (4 * IntKind.i64.wrap ((n : Int) + (i : Int)))) = ((1 + 4 * (n + i) : Nat) : Int) := by
    rw [wid (x := (n : Int) + (i : Int)) (by omega) (by omega), wid (x := 4 * ((n : Int) + (i : Int))) (by omega) (by omega), wid (by omega) (by omega)]; omega
  rw [e]; exact hK
/-! ### reading a page -/
def Dk.look (D : Dk) (at_ : Nat) : Nat → List UInt8
  | 0 => []
  | i + 1 => D.look at_ i ++ (D.read (at_ + i)).data.toList
def Dk.page (D : Dk) (at_ : Nat) : ByteArray := ⟨(D.look at_ 4).toArray⟩
theorem look_len (H : DkAt h db S D) {at_ : Nat} : ∀ i, at_ + i ≤ D.l.length → (D.look at_ i).length = 256 * i
  | 0, _ => rfl
  | i + 1, hi => by
    unfold Dk.look
    rw [List.length_append, look_len H i (by omega), size_len, H.read_sz (by omega)]; omega
theorem look_spec (J : JAt h jb db S n D) (at_ : Nat) (hat : at_ + 4 ≤ D.l.length) (hd : D.down = false) (hK : ∀ h', Sub h h' → K (.tuple #[.string (D.page at_), .int .i64 0]) h') :
    CallsH Try.prog journal_Journal_look.id #[.pointer (some ⟨jb, 0, none⟩), .int .i64 (at_ : Nat)] h K := by
  obtain ⟨S0, h1, h2, h3, h4⟩ := J.ex
  have hll := h2.len
  apply journal_Journal_look.calls
  unfold journal_Journal_look.W
  refine ⟨fun a l c i x m => ∃ j : Nat, i = (j : Int) ∧ j ≤ 4 ∧ m = 4 - j ∧ l = (D.look at_ j).length ∧ NewR byteC 1 5 h x a c (D.look at_ j), ⟨_, 0, rfl, by decide, rfl, rfl, NewR.nil _ _⟩, ?_⟩
  rintro a l c i x m ⟨j, rfl, hj, rfl, rfl, N⟩
  refine split_dec (fun g => ?_) fun g => ?_
  · have g : j < 4 := by have : (j : Int) < 4 := g; omega
    have ew : IntKind.i64.wrap ((at_ : Int) + (j : Int)) = ((at_ + j : Nat) : Int) := by rw [wid (by omega) (by omega)]; omega
    rw [ew]
    have hsz := h2.read_sz (i := at_ + j) (by omega)
    have hlk := look_len h2 (at_ := at_) j (by omega)
    refine ⟨_, (h1.sub N.sub).cell' 0 rfl, read_spec (h2.sub N.sub) (by omega) hd ⟨_, _, rfl, split_ne (fun e => absurd rfl e) fun _ => ⟨fun a' c' y => NewR byteC 1 5 h y a' c' (D.look at_ (j + 1)), fun a' c' y hy => ⟨4 - (j + 1), by omega, j + 1, by rw [wid (by omega) (by omega)]; omega, by omega, rfl, ?_, hy⟩, ?_⟩⟩⟩
    · show (D.look at_ j).length + _ = (D.look at_ j ++ (D.read (at_ + j)).data.toList).length
      rw [List.length_append, size_len]
    · exact append_row appTByte byteC_len byteC_plain (M := (D.read (at_ + j)).data.toList) N rfl (size_len _).symm (rowC_bytes _).symm (by rw [size_len, hsz, hlk]; omega) fun a' c' y hy => hy
  · have : j = 4 := by
      have : ¬ (j : Int) < 4 := g
      omega
    subst this
    refine ⟨D.page at_, ?_, hK x N.sub⟩
    have := N.own.row
    unfold RowAt at this
    rw [Nat.mul_one] at this
    rw [← rowC_bytes]; exact this
theorem jread_bad (J : JAt h jb db S n D) (i : Int) (hi : i < 0 ∨ i ≥ (n : Int)) (hK : K (.tuple #[.string (bytesL []), .int .i64 9]) h) : CallsH Try.prog journal_Journal_Read.id #[.pointer (some ⟨jb, 0, none⟩), .int .i64 i] h K := by
  obtain ⟨S0, h1, h2, h3, h4⟩ := J.ex
  apply journal_Journal_Read.calls
  unfold journal_Journal_Read.W
  exact split_dec (fun _ => hK) fun e => ⟨_, h1.cell' 1 rfl, split_dec (fun _ => hK) fun e2 => by omega⟩
/-- A page itself. -/
def Dk.own (D : Dk) (n i : Nat) : ByteArray := D.page (1 + 4 * (n + i))
theorem jread_spec (J : JAt h jb db S n D) {i : Nat} (hi : i < n) (hd : D.down = false) (hK : ∀ h', Sub h h' → K (.tuple #[.string (D.own n i), .int .i64 0]) h') : CallsH Try.prog journal_Journal_Read.id #[.pointer (some ⟨jb, 0, none⟩), .int .i64 (i : Nat)] h K := by
  obtain ⟨S0, h1, h2, h3, h4⟩ := J.ex
  have := J.n2
  have := J.len
  apply journal_Journal_Read.calls
  unfold journal_Journal_Read.W
  refine split_dec (fun e => by have e : (i : Int) < 0 := e; omega) fun _ => ⟨_, h1.cell' 1 rfl, split_dec (fun e => by have e : (i : Int) ≥ (n : Int) := e; omega) fun _ => ?_⟩
  exact jown_spec J i (by omega) ⟨_, rfl, look_spec J _ (by omega) hd fun h' s => ⟨_, _, rfl, hK h' s⟩⟩
theorem jpages_spec (J : JAt h jb db S n D) (hK : K (.int .i64 (n : Nat)) h) : CallsH Try.prog journal_Journal_Pages.id #[.pointer (some ⟨jb, 0, none⟩)] h K := by
  obtain ⟨S0, h1, h2, h3, h4⟩ := J.ex
  apply journal_Journal_Pages.calls
  unfold journal_Journal_Pages.W
  exact ⟨_, h1.cell' 1 rfl, hK⟩
end Go.Proofs.Ytagglohkipioiaa
