/- What slices.Collect makes of slices.Values of changes. Conditions: not too many. -/
import Derived.Test.YtagglohkipioiaaJ3
namespace Go.Proofs.Ytagglohkipioiaa
open Go.Gx
set_option maxRecDepth 100000
set_option linter.unusedVariables false

abbrev Ch := Nat × ByteArray
theorem appTCh : AppT Try.prog 41 2 24 := AppT.of (by kernel_rfl)
theorem upd_del {h : Hp} {D : Nat} (o : Obj) (hD : h D = none) : (h.upd D o).del D = h := by
  funext c
  unfold Hp.del
  by_cases e : c = D
  · rw [if_pos e, e, hD]
  · rw [if_neg e, Hp.upd_ne _ _ e]
theorem values_iter (la : Option Addr) (lc : Nat) (cs : List Ch) (hl : cs.length < 1000000) (pb : Nat) : IterH Try.prog 89 [.pointer (some ⟨pb, 0, none⟩)] (fun k vs => ∃ c, cs[k]? = some c ∧ vs = [.agg (wrC c).toArray]) (fun k => k = cs.length)
    (fun h => h.cell pb 0 = some (.slice la cs.length lc) ∧ RowAt wrC 2 h la cs) := by
  intro l J Jx hJP hY h hJ
  refine slices_Values_journal_Change_journal_Change_1_0y.calls l pb 0 ?_
  unfold slices_Values_journal_Change_journal_Change_1_0y.W
  refine ⟨_, _, _, (hJP _ _ hJ).1, fun n x m => ∃ i : Nat, n = (i : Int) ∧ i ≤ cs.length ∧ m = cs.length - i ∧ J i x, ⟨_, 0, rfl, Nat.zero_le _, rfl, hJ⟩, ?_⟩
  rintro n x m ⟨i, rfl, hi, rfl, hJi⟩
  refine split_dec (fun g => ?_) fun g => ?_
  · have g : i < cs.length := by have : (i : Int) < (cs.length : Int) := g; omega
    have hq : cs[i]? = some cs[i] := List.getElem?_eq_getElem g
    generalize cs[i] = c at hq
    obtain ⟨b, o, ea, hc⟩ := (hJP _ _ hJi).2.get wrC_len (by decide) hq
    have e4 : IntKind.i64.wrap ((i : Int) + 1) = ((i + 1 : Nat) : Int) := by rw [wid (by omega) (by omega)]; omega
    refine ⟨by omega, by show (i : Int) < (cs.length : Int); omega, b, o, ea, _, hc 0 _ rfl, _, hc 1 _ rfl, ?_⟩
    refine YieldH.mono (hY i _ x hJi ⟨c, hq, rfl⟩) fun v h' hq => ?_
    rcases hq with ⟨rfl, hj⟩ | ⟨rfl, hj⟩
    · exact ⟨true, rfl, cs.length - (i + 1), by omega, i + 1, e4, by omega, rfl, hj⟩
    · exact ⟨false, rfl, .inr hj⟩
  · have : i = cs.length := by
      have : ¬ (i : Int) < (cs.length : Int) := g
      omega
    exact .inl ⟨i, this, hJi⟩
variable {h : Hp} {K : Value → Hp → Prop}
theorem collect_spec (la : Option Addr) (lc : Nat) (cs : List Ch) (hl : cs.length < 1000000) (pb : Nat) (hp : h.cell pb 0 = some (.slice la cs.length lc)) (R : RowAt wrC 2 h la cs)
    (hK : ∀ y a c, NewR wrC 2 41 h y a c cs → K (.slice a cs.length c) y) : CallsH Try.prog 87 #[.func (.func 89) #[] #[.pointer (some ⟨pb, 0, none⟩)]] h K := by
  refine slices_Collect_journal_Change__0f89.calls pb 0 ?_
  unfold slices_Collect_journal_Change__0f89.W
  refine slices_AppendSeq_journal_Change_journal_Change__1f89.calls none 0 0 pb 0 ?_
  unfold slices_AppendSeq_journal_Change_journal_Change__1f89.W
  intro k1 hk1
  refine ⟨_, _, _, fun k x => k ≤ cs.length ∧ Sub h x ∧ ∃ a c, Blk x k1 42 [.slice a k c] ∧ OwnR wrC 2 x 41 a c (cs.take k) ∧ ∀ b, blkOf a b → b ≠ k1 ∧ h b = none, fun _ _ => False, values_iter la lc cs hl pb, ?_, ?_, ?_, ?_, ?_, ?_, ?_, trivial⟩
  · rintro h0 b o hb ⟨p1, p2⟩
    exact ⟨cell_sub (Sub.upd hb o) p1, p2.sub (Sub.upd hb o)⟩
  · rintro k x ⟨_, s, _⟩
    exact ⟨cell_sub s hp, R.sub s⟩
  · exact ⟨Nat.zero_le _, Sub.upd hk1 _, none, 0, Blk.new h k1 42 _, OwnR.nil _ _, fun b ⟨o, s, e⟩ => by cases e⟩
  · rintro _ vs ⟨c, hc, rfl⟩
    exact ⟨_, _, rfl⟩
  · rintro k n s ⟨c, hc, e⟩ x ⟨hk, sx, a, cc, Bx, ox, nx⟩ k20 hk20
    have e : n = (c.1 : Int) ∧ s = c.2 := by
      have := (List.cons.inj e).1
      injection this with this
      have := congrArg Array.toList this
      injection this with e1 e2
      injection e1 with _ e1
      injection e2 with e2 _
      injection e2 with e2
      exact ⟨e1, e2⟩
    obtain ⟨rfl, rfl⟩ := e
    have hlt := (List.getElem?_eq_some_iff.1 hc).1
    have C20 := (Blk.new x k20 41 [.int .i64 0, .string (bytesL [])])
    have P20 := C20.put 0 [.int .i64 (c.1 : Nat), .string c.2]
    have d20 : k1 ≠ k20 := Bx.ne hk20
    have By := (Bx.upd hk20 (.cells #[.int .i64 0, .string (bytesL [])] 41 (0, 0))).put_ne 0 [.int .i64 (c.1 : Nat), .string c.2] d20
    have ky : Sub x ((x.upd k20 (.cells #[.int .i64 0, .string (bytesL [])] 41 (0, 0))).put k20 0 [.int .i64 (c.1 : Nat), .string c.2]) := fun b o hb => by
      have hne : b ≠ k20 := fun e => by rw [e, hk20] at hb; cases hb
      rw [Gx.put_ne _ _ _ hne, Hp.upd_ne _ _ hne]; exact hb
    refine ⟨C20.store (Nat.le_refl 2), _, _, _, By.cell' 0 rfl, _, P20.cell' 0 rfl, _, P20.cell' 1 rfl, fun k26 hk26 => ⟨_, (Blk.new _ k26 41 (wrC c)).slice rfl, fun a' c' y => OwnR wrC 2 y 41 a' c' (cs.take (k + 1)) ∧ Keep (blkOf a) x y ∧ ∀ b, blkOf a' b → blkOf a b ∨ x b = none, ?_, ?_⟩⟩
    · rintro a' c' y ⟨o1, o2, o3⟩
      have By := Bx.keep o2 fun hc => (nx _ hc).1 rfl
      have sy : Sub h y := o2.sub sx fun b hb => (nx b hb).2
      have hk1' : ∀ b, blkOf a' b → b ≠ k1 ∧ h b = none := fun b hb => by
        rcases o3 b hb with h' | h'
        · exact nx b h'
        · exact ⟨(fun e => by rw [e] at h'; unfold Blk at Bx; rw [Bx] at h'; cases h'), sx.none h'⟩
      have kp : Keep (fun c => c = k1) y (y.put k1 0 [.slice a' (k + 1) c']) := Keep.put _ y _ _ rfl
      exact ⟨By.store (Nat.le_refl 1), by omega, kp.sub sy (fun c e => by rw [e]; exact hk1), a', c', By.put 0 _, o1.keep kp fun c hc e => (hk1' c hc).1 e, hk1'⟩
    · have s26 := ky.trans (Sub.upd hk26 (.cells (wrC c).toArray 41 (0, 0)))
      refine append_ownR appTCh wrC_len wrC_plain (M := [c]) (ox.sub s26) (by rw [List.length_take]; omega) rfl (rowC_one _).symm (by simp; omega) fun a' c' y o k' nw => ⟨?_, fun b o' hb hn => k' b o' (s26 b o' hb) hn, fun b hb => ?_⟩
      · rw [List.take_add_one, hc]; exact o
      · rcases nw b hb with h | h
        · exact .inl h
        · exact .inr (s26.none h)
  · rintro _ x ⟨_, sx, a, cc, Bx, ox, nx⟩ rfl D' hD
    have hne := Bx.ne hD
    refine ⟨_, _, _, (Bx.upd hD _).cell' 0 rfl, Hp.upd_same _ _ _, ?_⟩
    rw [upd_del _ hD]
    rw [List.take_length] at ox
    exact ⟨_, _, _, rfl, hK x a cc ⟨sx, fun b hb => (nx b hb).2, ox⟩⟩
  · rintro x hf; exact hf.elim
end Go.Proofs.Ytagglohkipioiaa
