/- Soundness of the executor, ninth part: the operations together, guards, regions. -/
import Derived.Test.YtagglohkipioiaaGreatGxS8
namespace Go.Gx

section
variable {P : Program} {H : Hints} {st : St} {h hl : Hp} {K : SV → St → Hp → Prop} {a : Act} {w : World} {next : Act → World → Prop} {Q : Exit → Act → World → Prop} {w0 : World} {h0 : Hp} {ρ : Nat → Nat}
  {dst : Option Tmp} {ty : TypeId} {pos : String} {after : Array Edge} {guard : Option (Nat × Bool)}

theorem run_sliceBound {v : Value} {top : Nat} {k : IntKind} {i : Int} (h : v = .int k i) (h0 : 0 ≤ i) (h1 : i ≤ top) (c : BoundsCode) : (Instr.sliceBound v top c).run P w = .ok i.toNat w := by
  subst h
  simp [Instr.sliceBound, asIntOf, h0, h1]
theorem run_sliceBounds {s : Bool} {len cap m n l : Nat} {lo hi mx : Option Operand}
    (hm : (mx = none ∧ m = cap) ∨ ∃ (o : Operand) (k : IntKind) (i : Int), mx = some o ∧ a.eval o = .int k i ∧ 0 ≤ i ∧ i ≤ cap ∧ m = i.toNat)
    (hh : (hi = none ∧ n = len) ∨ ∃ (o : Operand) (k : IntKind) (i : Int), hi = some o ∧ a.eval o = .int k i ∧ 0 ≤ i ∧ i ≤ m ∧ n = i.toNat)
    (hl : (lo = none ∧ l = 0) ∨ ∃ (o : Operand) (k : IntKind) (i : Int), lo = some o ∧ a.eval o = .int k i ∧ 0 ≤ i ∧ i ≤ n ∧ l = i.toNat)
    (hx : mx.isNone = true ∨ hi.isSome = true) : (Instr.sliceBounds s len cap (lo.map a.eval) (hi.map a.eval) (mx.map a.eval)).run P w = .ok (l, n, m) w := by
  unfold Instr.sliceBounds
  rcases hm with ⟨rfl, rfl⟩ | ⟨om, km, im, rfl, em, m0, m1, rfl⟩
  · rcases hh with ⟨rfl, rfl⟩ | ⟨oh, kh, ih, rfl, eh, h0, h1, rfl⟩
    · rcases hl with ⟨rfl, rfl⟩ | ⟨ol, kl, il, rfl, el, l0, l1, rfl⟩
      · rfl
      · simp only [Option.map_none, Option.map_some, Sem.run_bind, Sem.run_pure, Result.andThen_ok]
        rw [run_sliceBound el l0 l1]; rfl
    · rcases hl with ⟨rfl, rfl⟩ | ⟨ol, kl, il, rfl, el, l0, l1, rfl⟩
      · simp only [Option.map_none, Option.map_some, Sem.run_bind, Sem.run_pure, Result.andThen_ok]
        rw [run_sliceBound eh h0 h1]; rfl
      · simp only [Option.map_none, Option.map_some, Sem.run_bind, Sem.run_pure, Result.andThen_ok]
        rw [run_sliceBound eh h0 h1]
        simp only [Result.andThen_ok]
        rw [run_sliceBound el l0 l1]; rfl
  · rcases hh with ⟨rfl, rfl⟩ | ⟨oh, kh, ih, rfl, eh, h0, h1, rfl⟩
    · simp at hx
    · rcases hl with ⟨rfl, rfl⟩ | ⟨ol, kl, il, rfl, el, l0, l1, rfl⟩
      · simp only [Option.map_none, Option.map_some, Sem.run_bind, Sem.run_pure, Result.andThen_ok]
        rw [run_sliceBound em m0 m1]
        simp only [Result.andThen_ok]
        rw [run_sliceBound eh h0 h1]; rfl
      · simp only [Option.map_some, Sem.run_bind, Sem.run_pure]
        rw [run_sliceBound em m0 m1]
        simp only [Result.andThen_ok]
        rw [run_sliceBound eh h0 h1]
        simp only [Result.andThen_ok]
        rw [run_sliceBound el l0 l1]; rfl
theorem op_slice {t : TypeId} {x : Operand} {lo hi mx : Option Operand} (hW : opW P H ⟨dst, .slice t x lo hi mx, ty, pos, after, guard⟩ st h hl K) (he : EnvR ρ st a.tmps) : QSpec P ⟨dst, (.slice t x lo hi mx), ty, pos, after, guard⟩ st h hl K a ρ := by
  simp only [opW] at hW
  have hW := evV_spec he hW
  have goArr : ∀ (w : World) d, P.underlying t = some d → (∀ n e, d ≠ .array n e) → (Instr.slice t (a.eval x) (lo.map a.eval) (hi.map a.eval) (mx.map a.eval)).run P w = (Instr.sliceAt t (a.eval x) (lo.map a.eval) (hi.map a.eval) (mx.map a.eval)).run P w := fun w d hd ha => by
    unfold Instr.sliceAt
    rw [Sem.run_bind, run_under hd]
    simp only [Result.andThen_ok]
  split at hW
  · rename_i s ed ex
    split at hW
    · obtain ⟨n, hW, e1⟩ := boundW_spec he hW
      obtain ⟨l, hW, e2⟩ := boundW_spec he hW
      refine ⟨_, _, hW, rfl, fun w _ _ => run_v ?_⟩
      have hu := tdesc_some ed (by simp)
      rw [← goArr w _ hu (fun _ _ h => by cases h)]
      unfold Instr.slice
      simp only [Sem.run_bind, run_under hu, Result.andThen_ok, ex]
      have := run_sliceBounds (P := P) (w := w) (s := false) (a := a) (mx := none) (cap := s.size) (.inl ⟨rfl, rfl⟩) e1 e2 (.inl rfl)
      simp only [Option.map_none] at this ⊢
      simp only [Option.isSome_none, Bool.false_eq_true, if_false, Sem.run_bind, this, Result.andThen_ok, Sem.run_pure]
    · exact hW.elim
  · rename_i e ad len cap ed ex
    cases e0 : (okT P e && (mx.isNone || hi.isSome)) with
    | false => rw [e0] at hW; exact hW.elim
    | true =>
      rw [e0] at hW
      simp only [cond_true] at hW
      obtain ⟨g1, g2⟩ := Bool.and_eq_true_iff.1 e0
      obtain ⟨m, hW, e1⟩ := boundW_spec he hW
      obtain ⟨n, hW, e2⟩ := boundW_spec he hW
      obtain ⟨l, hW, e3⟩ := boundW_spec he hW
      refine ⟨_, _, hW, rfl, fun w _ _ => run_v ?_⟩
      have hu := tdesc_some ed (by simp)
      rw [← goArr w _ hu (fun _ _ h => by cases h)]
      unfold Instr.slice
      simp only [Sem.run_bind, run_under hu, Result.andThen_ok, ex, run_sliceBounds e1 e2 e3 (by simpa using g2), run_size g1, Sem.run_pure]
  · rename_i n e p ed ex
    cases e0 : (okT P e && mx.isNone) with
    | false => rw [e0] at hW; exact hW.elim
    | true =>
      rw [e0] at hW
      simp only [cond_true] at hW
      obtain ⟨g1, g2⟩ := Bool.and_eq_true_iff.1 e0
      have hX := hW
      obtain rfl : mx = none := by simpa using g2
      obtain ⟨b, o, rfl, hX⟩ := hX
      obtain ⟨n2, hX, e2⟩ := boundW_spec he hX
      obtain ⟨l, hX, e3⟩ := boundW_spec he hX
      refine ⟨_, _, hX, rfl, fun w _ _ => run_v ?_⟩
      have hu := tdesc_some ed (by simp)
      have := run_sliceBounds (P := P) (w := w) (s := false) (a := a) (mx := none) (cap := n) (.inl ⟨rfl, rfl⟩) e2 e3 (.inl rfl)
      simp only [Option.map_none] at this ⊢
      unfold Instr.sliceAt
      simp only [Sem.run_bind, run_under hu, Result.andThen_ok, ex, Instr.sureAddr, this, run_size g1, Sem.run_pure]
      simp only [slA]
      by_cases h0 : n = l
      · simp only [if_pos h0]
      · simp only [if_neg h0]; rfl
  · exact hW.elim
theorem quietB_spec {b : Builtin} {ats : Array TypeId} {t : TypeId} {cs : Array Bool} {args : List Value} {F : Value → Hp → Prop} (hq : quietB P b ats.toList = true) (H : builtinW P b ats.toList args h F) :
    ∃ v, F v h ∧ ∀ w, (builtin b ats t cs args.toArray).run P w = .ok (.value v) w := by
  obtain ⟨ats⟩ := ats
  simp only [] at H hq
  cases b with
  | len =>
    unfold builtinW at H
    simp only [] at H
    split at H
    · rename_i t0 ts x xs
      split at H
      · rename_i e; exact ⟨_, H, fun w => run_v (by simp [Builtin.len_, run_under (tdesc_some e (by simp)), goInt])⟩
      · rename_i e; exact ⟨_, H, fun w => run_v (by simp [Builtin.len_, run_under (tdesc_some e (by simp)), goInt])⟩
      · rename_i e; exact ⟨_, H, fun w => run_v (by simp [Builtin.len_, run_under (tdesc_some e (by simp)), goInt])⟩
      · rename_i e
        simp only [quietB, e] at hq
        cases hq
      · exact H.elim
    · exact H.elim
  | max =>
    unfold builtinW at H
    simp only [] at H
    split at H
    · rename_i k x l
      obtain ⟨v, h1, h2⟩ := maxInt_spec (P := P) H
      exact ⟨v, h1, fun w => run_v (by simpa [Builtin.max_] using h2 w)⟩
    · exact H.elim
  | min =>
    unfold builtinW at H
    simp only [] at H
    split at H
    · obtain ⟨v, h1, h2⟩ := minInt_spec (P := P) H
      exact ⟨v, h1, fun w => run_v (by simpa [Builtin.min_] using h2 w)⟩
    · exact H.elim
  | _ => cases hq
theorem quiet_spec {o : Oper} (hq : quietOp P o.op = true) (hW : opW P H o st h hl K) (he : EnvR ρ st a.tmps) : QSpec P o st h hl K a ρ := by
  obtain ⟨dst, op, ty, pos, after, guard⟩ := o
  cases op with
  | move x => exact ⟨_, a.eval x, hW, ev_spec he x, fun w _ _ => rfl⟩
  | assign x => exact ⟨_, a.eval x, hW, ev_spec he x, fun w _ _ => rfl⟩
  | pick c x y => exact op_pick hW he
  | build t ps => exact op_build hW he
  | load t x => exact op_load hW he
  | nilCheck x => exact op_nilCheck hW he
  | makeInterface t x => exact op_makeInterface hW he
  | makeFunc fn first captured => exact op_makeFunc hW he
  | fieldAddr s x f => exact op_fieldAddr hW he
  | field t x f => exact op_field hW he
  | indexAddr t x i => exact op_indexAddr hW he
  | index t x i => exact op_index hW he
  | slice t x lo hi mx => exact op_slice hW he
  | binOp op t x y yt =>
    simp only [opW] at hW
    have hW := evV_spec he hW
    have hW := evV_spec he hW
    obtain ⟨v, h1, h2⟩ := binW_spec (P := P) hW
    exact ⟨_, v, h1, rfl, fun w _ _ => run_v (h2 w)⟩
  | unOp op t x =>
    simp only [opW] at hW
    have hW := evV_spec he hW
    obtain ⟨v, h1, h2⟩ := unW_spec (P := P) hW
    exact ⟨_, v, h1, rfl, fun w _ _ => run_v (h2 w)⟩
  | convert src dst' x =>
    simp only [opW] at hW
    cases e : okU P src with
    | false => rw [e] at hW; exact hW.elim
    | true =>
      rw [e] at hW
      have hs := okU_some e
      have hW := evV_spec he hW
      simp only [quietOp] at hq
      split at hq
      · rename_i e1 e2
        unfold convW at hW
        split at hW
        · rename_i kk n ex
          rw [e2] at hW
          refine ⟨_, _, hW, rfl, fun w _ _ => run_v ?_⟩
          simp only [ex, convert, Sem.run_bind, run_under hs, run_under (tdesc_some e2 (by simp)), Result.andThen_ok, e1]
          rfl
        · rw [e2] at hW; exact hW.elim
        · rw [e1] at hW; exact hW.elim
        · exact hW.elim
      · rename_i e1 e2
        unfold convW at hW
        split at hW
        · rw [e2] at hW; exact hW.elim
        · rename_i s ex
          rw [e2] at hW
          refine ⟨_, _, hW, rfl, fun w _ _ => run_v ?_⟩
          simp only [ex, convert, Sem.run_bind, run_under hs, run_under (tdesc_some e2 (by simp)), Result.andThen_ok, e1]
          rfl
        · rw [e1] at hW; exact hW.elim
        · exact hW.elim
      · cases hq
  | extract x i =>
    simp only [opW] at hW
    have hW := evV_spec he hW
    split at hW
    · rename_i vs ex
      split at hW
      · rename_i v ev
        have ev' : vs[i]? = some v := by simpa using ev
        refine ⟨_, v, hW, rfl, fun w _ _ => run_v ?_⟩
        simp only [Instr.extract, ex, ev']; rfl
      · exact hW.elim
    · exact hW.elim
  | call c =>
    simp only [opW] at hW
    have hW := evVs_spec he hW
    have hargs : c.args.map a.eval = (c.args.toList.map a.eval).toArray := by
      apply Array.ext'
      simp
    simp only [quietOp] at hq
    cases hc : c.callee with
    | value f => rw [hc] at hq; cases hq
    | invoke r name => rw [hc] at hq; cases hq
    | builtin b =>
      rw [hc] at hW hq
      obtain ⟨v, h1, h2⟩ := quietB_spec (t := ty) (cs := c.args.map fun | .const _ => true | _ => false) hq hW
      refine ⟨_, v, h1, rfl, fun w _ _ => ?_⟩
      simp only [execOp, Sem.run_bind, resolve, hc, Sem.run_pure, Result.andThen_ok, invoke]
      rw [hargs]
      exact h2 w
  | _ => cases hq
theorem made_one (z : Array Value) (h : z.size = 1) (n : Nat) : madeCells z n = (repV n z.toList).toArray := by
  apply Array.ext'
  unfold madeCells repV
  obtain ⟨v, rfl⟩ : ∃ v, z = #[v] := by
    obtain ⟨l⟩ := z
    match l, h with
    | [v], _ => exact ⟨v, rfl⟩
  simp only [Array.toList_map, Array.toList_range]
  induction n with
  | zero => rfl
  | succ n ih => rw [List.range_succ, List.map_append, ih, List.replicate_succ', List.flatten_append]; simp [Nat.mod_one]
theorem op_makeSlice {t : TypeId} {l c : Operand} (hW : opW P H ⟨dst, .makeSlice t l c, ty, pos, after, guard⟩ st h hl K) (he : EnvR ρ st a.tmps) (hh : HeapR w0 h0 ρ st h w) (hn : Nx w0 h0 ρ st a dst K next) : (Oper.mk dst (.makeSlice t l c) ty pos after guard).wp P a w next Q := by
  simp only [opW] at hW
  have hW := evV_spec he hW
  have hW := evV_spec he hW
  split at hW
  · rename_i e kl l' kc c' e1 e2 e3
    have hW : (cond (okT P e && Nat.beq (szT P e) 1) (match zeroT P e with
      | some z => bif !Nat.beq (cellsOfV z).length 1 then False else 0 ≤ l' ∧ l' ≤ c' ∧ imul (Int.ofNat (byT P e)) c' ≤ 281474976710656 ∧ c' ≤ 9223372036854775807 ∧ newH h (.cells (repV c'.toNat (cellsOfV z)).toArray e (0, 0)) fun b h' => K (.val (.slice (some ⟨b, 0, none⟩) l'.toNat c'.toNat)) st h'
      | none => False) False) := hW
    cases eo : okT P e && Nat.beq (szT P e) 1 with
    | false => rw [eo] at hW; exact hW.elim
    | true =>
      rw [eo] at hW
      obtain ⟨o1, o2⟩ := Bool.and_eq_true_iff.1 eo
      have o2 := Nat.eq_of_beq_eq_true o2
      cases ez : zeroT P e with
      | none => rw [ez] at hW; exact hW.elim
      | some z =>
        rw [ez] at hW
        simp only [cond_true] at hW
        cases ezl : Nat.beq (cellsOfV z).length 1 with
        | false => rw [ezl] at hW; exact hW.elim
        | true =>
        rw [ezl] at hW
        have ezl := Nat.eq_of_beq_eq_true ezl
        obtain ⟨h1, h2, h3, h4, hW⟩ := hW
        have hu : P.underlying t = some (.slice e) := tdesc_some e1 (by simp)
        obtain ⟨i, hi⟩ := Option.isSome_iff_exists.1 o1
        have et : tinfo P e = i := by unfold tinfo; rw [hi]; rfl
        have hz : i.zero = some z := by rw [← et]; exact ez
        have hs : i.size = 1 := by rw [← et]; exact o2
        have hb : (i.bytes : Int) * c' ≤ 281474976710656 := by rw [← et]; exact h3
        have hrun := run_make (P := P) (w := w) t e i z hu hi hz kl kc l' c' h1 h2 hb h4
        have e9 : madeCells z.cells (c'.toNat * i.size) = (repV c'.toNat (cellsOfV z)).toArray := by
          rw [hs, Nat.mul_one, made_one z.cells (by rw [← Array.length_toList, cells_toList]; exact ezl), cells_toList]
        rw [e9] at hrun
        refine wp_value (run_v (s := Instr.makeSlice t (a.eval l) (a.eval c)) (by rw [e2, e3]; exact hrun)) ?_
        exact hn _ _ _ _ _ ρ (hW w.heap.size (hh.holds.fresh (Nat.le_refl _))) rfl (hh.push rfl rfl rfl rfl) (Ext.refl _ _) rfl
  · exact hW.elim
theorem op_makeMap {t : TypeId} {r : Option Operand} (hW : opW P H ⟨dst, .makeMap t r, ty, pos, after, guard⟩ st h hl K) (hh : HeapR w0 h0 ρ st h w) (hn : Nx w0 h0 ρ st a dst K next) : (Oper.mk dst (.makeMap t r) ty pos after guard).wp P a w next Q := by
  simp only [opW] at hW
  split at hW
  · rename_i kt et e
    cases ek : keyT P kt && r.isNone with
    | false => rw [ek] at hW; exact hW.elim
    | true =>
      rw [ek] at hW
      rw [Bool.and_eq_true] at ek
      have hr : r = none := by simpa using ek.2
      subst hr
      have hrun : (execOp a.eval ⟨dst, .makeMap t none, ty, pos, after, guard⟩).run P w = .ok (.value (.map (some w.heap.size))) { w with heap := w.heap.push (.map #[] 0) } := by
        refine run_v ?_
        simp only [Instr.makeMap, Option.map_none, Sem.run_bind, run_newObj, Result.andThen_ok, Sem.run_pure]
      exact wp_value hrun (hn _ _ _ _ _ ρ (hW w.heap.size (hh.holds.fresh (Nat.le_refl _)) (.map #[] 0) ⟨#[], 0, rfl, rfl, MapKept.stamped_empty 0, fun x hx => by simp at hx⟩) rfl (hh.push rfl rfl rfl rfl) (Ext.refl _ _) rfl)
  · exact hW.elim
theorem op_lookup {t : TypeId} {x k : Operand} {ok : Bool} (hW : opW P H ⟨dst, .lookup t x k ok, ty, pos, after, guard⟩ st h hl K) (he : EnvR ρ st a.tmps) (hh : HeapR w0 h0 ρ st h w) (hn : Nx w0 h0 ρ st a dst K next) : (Oper.mk dst (.lookup t x k ok) ty pos after guard).wp P a w next Q := by
  simp only [opW] at hW
  split at hW
  · rename_i kt et e
    cases ek : keyT P kt with
    | false => rw [ek] at hW; exact hW.elim
    | true =>
      rw [ek] at hW
      have hW := evV_spec he hW
      have hW := evV_spec he hW
      cases eo : keyOk P kt (a.eval k) with
      | false => rw [eo] at hW; exact hW.elim
      | true =>
        rw [eo] at hW
        simp only [cond_true] at hW
        split at hW
        · rename_i z r ez ex
          obtain ⟨b, o, m, rfl, hb, M, hW⟩ := hW
          obtain ⟨v, c, hl', hW⟩ := Vt.ex_spec hW
          refine wp_value (run_v ?_) (hn.pure hW rfl hh)
          rw [ex]
          exact run_lookup (tdesc_some e (by simp)) ek eo ez (hh.holds _ _ hb) M hl' ok
        · exact hW.elim
  · exact hW.elim
theorem op_mapUpdate {t : TypeId} {x k y : Operand} (hW : opW P H ⟨dst, .mapUpdate t x k y, ty, pos, after, guard⟩ st h hl K) (he : EnvR ρ st a.tmps) (hh : HeapR w0 h0 ρ st h w) (hn : Nx w0 h0 ρ st a dst K next) : (Oper.mk dst (.mapUpdate t x k y) ty pos after guard).wp P a w next Q := by
  simp only [opW] at hW
  split at hW
  · rename_i kt et e
    cases ek : keyT P kt with
    | false => rw [ek] at hW; exact hW.elim
    | true =>
      rw [ek] at hW
      have hW := evV_spec he hW
      have hW := evV_spec he hW
      have hW := evV_spec he hW
      cases eo : keyOk P kt (a.eval k) with
      | false => rw [eo] at hW; exact hW.elim
      | true =>
        rw [eo] at hW
        simp only [cond_true] at hW
        split at hW
        · rename_i r ex
          obtain ⟨b, o, m, rfl, hb, M, hW⟩ := hW
          obtain ⟨o', h1, h2⟩ := run_update (v := a.eval y) (tdesc_some e (by simp)) ek eo (hh.holds _ _ hb) M
          refine wp_unit (run_u ?_) (hn _ _ _ _ _ ρ (hW o' h2) rfl (hh.setB hb o') (Ext.refl _ _) rfl)
          rw [ex]
          exact h1
        · exact hW.elim
  · exact hW.elim
theorem opW_sound {o : Oper} (hW : opW P H o st h hl K) (he : EnvR ρ st a.tmps) (hh : HeapR w0 h0 ρ st h w) (hl' : Holds hl w) (hn : Nx w0 h0 ρ st a o.dst K next) : o.wp P a w next Q := by
  obtain ⟨dst, op, ty, pos, after, guard⟩ := o
  cases op with
  | move x => exact wp_value (v := a.eval x) rfl (hn.pure hW (ev_spec he x) hh)
  | assign x => exact wp_value (v := a.eval x) rfl (hn.pure hW (ev_spec he x) hh)
  | pick c x y => exact (op_pick hW he).wp hh hl' hn
  | alloc e => exact op_alloc hW hh hn
  | box e x => exact op_box hW he hh hn
  | build t ps => exact (op_build hW he).wp hh hl' hn
  | buildSlice t len ps => exact op_buildSlice hW he hh hn
  | load t x => exact (op_load hW he).wp hh hl' hn
  | store t x y => exact op_store hW he hh hn
  | nilCheck x => exact (op_nilCheck hW he).wp hh hl' hn
  | makeInterface t x => exact (op_makeInterface hW he).wp hh hl' hn
  | makeFunc fn first captured => exact (op_makeFunc hW he).wp hh hl' hn
  | fieldAddr s x f => exact (op_fieldAddr hW he).wp hh hl' hn
  | field t x f => exact (op_field hW he).wp hh hl' hn
  | indexAddr t x i => exact (op_indexAddr hW he).wp hh hl' hn
  | index t x i => exact (op_index hW he).wp hh hl' hn
  | slice t x lo hi mx => exact (op_slice hW he).wp hh hl' hn
  | binOp op t x y yt => exact (quiet_spec rfl hW he).wp hh hl' hn
  | unOp op t x => exact (quiet_spec rfl hW he).wp hh hl' hn
  | convert src dst' x =>
    simp only [opW] at hW
    cases e : okU P src with
    | false => rw [e] at hW; exact hW.elim
    | true =>
      rw [e] at hW
      have hW := evV_spec he hW
      obtain ⟨v, w', h', h1, h2, h3⟩ := convW_spec hW e hh
      exact wp_value (run_v h2) (hn _ _ _ _ _ ρ h1 rfl h3 (Ext.refl _ _) rfl)
  | extract x i => exact (quiet_spec rfl hW he).wp hh hl' hn
  | makeMap t r => exact op_makeMap hW hh hn
  | makeSlice t l c => exact op_makeSlice hW he hh hn
  | lookup t x k ok => exact op_lookup hW he hh hn
  | mapUpdate t x k y => exact op_mapUpdate hW he hh hn
  | call c =>
    simp only [opW] at hW
    have hW := evVs_spec he hW
    have hargs : c.args.map a.eval = (c.args.toList.map a.eval).toArray := by
      apply Array.ext'
      simp
    cases hc : c.callee with
    | value f =>
      rw [hc] at hW
      simp only [] at hW
      have hW := evV_spec he hW
      split at hW
      · rename_i g fst cap ef
        cases e : funcOk P g with
        | false =>
          rw [e] at hW
          have hW : externW P g (fst.toList ++ List.map a.eval c.args.toList ++ cap.toList) (fun v => K (.val v) st h) := hW
          obtain ⟨v, hv, hr⟩ := externW_spec hW
          refine wp_value (v := v) (w' := w) ?_ (hn.pure (sv := .val v) hv rfl hh)
          simp only [execOp, Sem.run_bind, resolve, hc, ef, Deferred.ofValue, Sem.run_pure, Result.andThen_ok, invoke]
          refine Eq.trans ?_ (hr w)
          congr 2
          apply Array.ext'
          simp
        | true =>
          rw [e] at hW
          refine callW_spec hW hh hn ?_
          simp only [execOp, Sem.run_bind, resolve, hc, ef, Deferred.ofValue, Sem.run_pure, Result.andThen_ok, invoke]
          rw [run_callFunc e]
          congr 2
          apply Array.ext'
          simp
      · exact hW.elim
    | invoke r name =>
      rw [hc] at hW
      simp only [] at hW
      have hW := evV_spec he hW
      obtain ⟨p, er, hW⟩ := hW
      generalize H.ifc = u at er hW
      obtain ⟨f, hW, hr⟩ := methodW_spec hW p (c.args.map a.eval) w
      refine callW_spec hW hh hn ?_
      simp only [execOp, Sem.run_bind, resolve, hc, er, Sem.run_pure, Result.andThen_ok, invoke]
      have h1 : (#[Value.iface u (.pointer p)] ++ c.args.map a.eval)[0]? = some (.iface u (.pointer p)) := by
        rw [Array.getElem?_append_left (by simp)]; rfl
      have h2 : (#[Value.iface u (.pointer p)] ++ c.args.map a.eval).extract 1 (#[Value.iface u (.pointer p)] ++ c.args.map a.eval).size = c.args.map a.eval := by
        apply Array.ext'
        simp
        exact List.take_of_length_le (by simp)
      simp only [h1, h2, hr]
      congr 2
      apply Array.ext'
      simp
    | builtin b =>
      rw [hc] at hW
      simp only [] at hW
      obtain ⟨v, w', h', h1, h2, h3⟩ := builtinW_spec (t := ty) (cs := c.args.map fun | .const _ => true | _ => false) hW hh
      refine wp_value (v := v) (w' := w') ?_ (hn _ _ _ _ _ ρ h1 rfl h3 (Ext.refl _ _) rfl)
      simp only [execOp, Sem.run_bind, resolve, hc, Sem.run_pure, Result.andThen_ok, invoke]
      rw [hargs]
      exact h2
  | _ => exact hW.elim
end
end Go.Gx
