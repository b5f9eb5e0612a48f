/- LimitReads over any memory: the law returns true. Condition: none beyond the reading of its argument. -/
import Derived.Test.YtagglohkipioiaaL4
namespace Go.Proofs.Ytagglohkipioiaa
open Go.Gx
set_option maxRecDepth 100000
set_option linter.unusedVariables false

theorem reads_core {h : Hp} {ba : Option Addr} {bc : Nat} (l : List UInt8) (H : RowAt byteC 1 h ba l) (hlc : l.length ≤ bc) : CallsH Try.prog 3 #[.slice ba l.length bc] h fun v h' => v = .bool true ∧ Sub h h' := by
  apply law24_LimitReads.calls
  unfold law24_LimitReads.W
  have live : ∀ x, Sub h x → CallsH Try.prog 6 #[] x fun v h' => ∃ b : Bool, v = .bool b ∧ (Value.bool b = .bool true ∧ Sub h h') := fun x s => lives_spec ⟨_, rfl, rfl, s⟩
  refine split_dec (fun _ => live h (Sub.refl h)) fun g => ?_
  have g : l.length ≤ 3000 := by have : ¬ (l.length : Int) > 3000 := g; omega
  have nils : ∀ (x : Hp) (J : Hp → Prop) (A B C : Hp → Prop), J x → CallsH Try.prog 8 #[.pointer none, .string (bytesL [97]), .int .i64 1, .int .i64 0] x fun v53 h54 => ∃ n55 : Int, v53 = .int .i64 n55 ∧ bif hb (n55 != 1) then A h54 else
      CallsH Try.prog 9 #[.pointer none, .string (bytesL [97]), .int .i64 0] h54 fun v56 h57 => ∃ n58 : Int, v56 = .int .i64 n58 ∧ bif hb (n58 != 0) then B h57 else
      CallsH Try.prog 10 #[.pointer none] h57 fun v59 h60 => ∃ (a61 : Option Addr) (k62 k63 : Nat), v59 = .slice a61 k62 k63 ∧ CallsH Try.prog 11 #[.pointer none] h60 fun v64 h65 => ∃ (a66 : Option Addr) (k67 k68 : Nat), v64 = .slice a66 k67 k68 ∧
        bif hb (IntKind.i64.wrap (Int.ofNat k62 + Int.ofNat k67) != 0) then C h65 else J h65 := by
    intro x J A B C hJ
    refine limit_Limiter_Take_n.calls _ _ _ ⟨_, rfl, split_ne (fun e => absurd rfl e) fun _ => limit_Limiter_Units_n.calls _ _ ?_⟩
    unfold limit_Limiter_Units_n.W
    refine ⟨fun _ => False, fun _ hf => hf.elim, _, rfl, split_ne (fun e => absurd rfl e) fun _ => limit_Limiter_Names_n.calls ⟨_, _, _, rfl, limit_Limiter_Encode_n.calls ⟨_, _, _, rfl, split_ne (fun e => absurd (by decide) e) fun _ => hJ⟩⟩⟩
  refine decode_spec H hlc g (fun y s => ⟨_, _, rfl, fun x => x = y, ?_, nils y _ _ _ _ rfl⟩) fun y lb mb r p u n E s L hM hn hE hl hlb => ⟨_, _, rfl, fun x => x = y, ?_, nils y _ _ _ _ rfl⟩
  · rintro x rfl
    exact split_ne (fun _ => split_eq (fun _ => live x s) fun e => absurd rfl e) fun e => absurd e (by decide)
  · rintro x rfl
    refine split_ne (fun e => absurd rfl e) fun _ => ?_
    have Hy := H.sub s
    have hrow : ∀ {z : Hp} {a : Option Addr} {c : Nat}, RowAt byteC 1 z a l → SliceAt z a l.length (bytesV ⟨l.toArray⟩) := by
      intro z a c R
      unfold RowAt at R
      rw [Nat.mul_one] at R
      have := rowC_bytes ⟨l.toArray⟩
      rw [← this]; exact R
    have last : ∀ z, Sub x z → LimAt z lb mb r p u n E → ∀ A : Prop, CallsH Try.prog 10 #[.pointer (some ⟨lb, 0, none⟩)] z fun v20 h21 => ∃ (a22 : Option Addr) (k23 k24 : Nat), v20 = .slice a22 k23 k24 ∧ bif hb (decide (Int.ofNat k23 ≤ 32)) then
        CallsH Try.prog 6 #[] h21 fun v25 h26 => ∃ b27 : Bool, v25 = .bool b27 ∧ (Value.bool b27 = .bool true ∧ Sub h h26) else (Value.bool false = .bool true ∧ Sub h h21) := by
      intro z sz Lz A
      refine names_spec Lz hE fun w a c N => ⟨_, _, _, rfl, split_dec (fun _ => live w (s.trans (sz.trans N.sub))) fun e => absurd ?_ e⟩
      show (E.length : Int) ≤ 32
      omega
    have enc : ∀ K : Value → Hp → Prop, (∀ y a c, NewR byteC 1 tByte x y a c l → K (.slice a l.length c) y) → CallsH Try.prog 11 #[.pointer (some ⟨lb, 0, none⟩)] x K := by
      intro K hK
      refine encode_spec L hE hM hn (by rw [← hl]; exact g) fun y a c N => ?_
      rw [← hl] at N ⊢
      exact hK y a c N
    have both : ∀ (z : Hp) (a : Option Addr) (c : Nat) (A : Prop), NewR byteC 1 tByte x z a c l → A → cond (beqS ⟨l.toArray⟩ ⟨l.toArray⟩) A (Value.bool false = .bool true ∧ Sub h z) := fun z a c A N hA => split_beqS (fun _ => hA) fun e => absurd rfl e
    refine ⟨?_, ?_⟩
    · refine enc _ fun z a c N => ⟨_, _, _, rfl, ⟨_, hrow (c := c) N.own.row, _, hrow (c := c) (Hy.sub N.sub), both z a c _ N (last z N.sub (L.sub N.sub) True)⟩, _, hrow (c := c) (Hy.sub N.sub), _, hrow (c := c) N.own.row, both z a c _ N (last z N.sub (L.sub N.sub) True)⟩
    · exact ⟨_, hrow (c := bc) Hy, Sub.refl _, enc _ fun z a c N => ⟨_, _, _, rfl, _, hrow (c := c) N.own.row, both z a c _ N (last z N.sub (L.sub N.sub) True)⟩⟩
end Go.Proofs.Ytagglohkipioiaa
