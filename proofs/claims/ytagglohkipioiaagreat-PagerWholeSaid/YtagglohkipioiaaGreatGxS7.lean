/- Soundness of the executor, seventh part: calls, and the operations together. -/
import Derived.Test.YtagglohkipioiaaGreatGxSM
import Derived.Laws.Externs
import Derived.KernelRfl
namespace Go.Gx

theorem maxInt_spec {P : Program} {k : IntKind} : ∀ {l : List Value} {x : Int} {F : Value → Prop}, maxInt k x l F → ∃ v, F v ∧ ∀ w, (l.foldlM Builtin.max2 (.int k x)).run P w = .ok v w
  | [], x, F, H => ⟨_, H, fun _ => rfl⟩
  | y :: l, x, F, H => by
    cases y <;> first | exact H.elim | skip
    rename_i k' y
    obtain ⟨v, h1, h2⟩ := maxInt_spec (l := l) H
    exact ⟨v, h1, fun w => by rw [List.foldlM_cons, Sem.run_bind]; exact h2 w⟩
theorem minInt_spec {P : Program} {k : IntKind} : ∀ {l : List Value} {x : Int} {F : Value → Prop}, minInt k x l F → ∃ v, F v ∧ ∀ w, (l.foldlM Builtin.min2 (.int k x)).run P w = .ok v w
  | [], x, F, H => ⟨_, H, fun _ => rfl⟩
  | y :: l, x, F, H => by
    cases y <;> first | exact H.elim | skip
    rename_i k' y
    obtain ⟨v, h1, h2⟩ := minInt_spec (l := l) H
    exact ⟨v, h1, fun w => by rw [List.foldlM_cons, Sem.run_bind]; exact h2 w⟩
theorem run_builtin_v {P : Program} {s : Sem Value} {w w' : World} {v : Value} (h : s.run P w = .ok v w') : (do pure (Next.value (← s)) : Sem Next).run P w = .ok (.value v) w' := run_v h
theorem first_string {P : Program} (s : ByteArray) (len sz : Nat) (w : World) : (Builtin.firstCells sz (Nat.min s.size len) (.string s)).run P w = .ok (cpyV s len).toArray w := by
  simp only [Builtin.firstCells, Sem.run_pure]
  congr 1
  apply Array.ext'
  unfold cpyV bytesV
  have hlen : s.data.toList.length = s.size := by rw [Array.length_toList]; rfl
  have e : (s.extract 0 (Nat.min s.size len)).data.toList = s.data.toList.take len := by
    rw [ByteArray.data_extract, Array.toList_extract, List.extract_eq_take_drop, List.drop_zero, Nat.sub_zero]
    by_cases h : s.size ≤ len
    · rw [List.take_of_length_le (by rw [hlen]; exact Nat.le_min.2 ⟨Nat.le_refl _, h⟩), List.take_of_length_le (by omega)]
    · have : Nat.min s.size len = len := Nat.min_eq_right (by omega)
      rw [this]
  rw [Array.toList_map, e, List.map_take]
theorem builtinW_spec {P : Program} {b : Builtin} {ats : Array TypeId} {t : TypeId} {cs : Array Bool} {args : List Value} {h : Hp} {F : Value → Hp → Prop} (H : builtinW P b ats.toList args h F)
    {w0 : World} {h0 : Hp} {ρ : Nat → Nat} {st : St} {w : World} (hh : HeapR w0 h0 ρ st h w) : ∃ v w' h', F v h' ∧ (builtin b ats t cs args.toArray).run P w = .ok (.value v) w' ∧ HeapR w0 h0 ρ st h' w' := by
  obtain ⟨ats⟩ := ats
  simp only [] at H
  unfold builtinW at H
  split at H
  · -- len
    split at H
    · rename_i t0 ts x xs
      split at H
      · rename_i e; exact ⟨_, w, h, H, run_v (by simp [Builtin.len_, run_under (tdesc_some e (by simp)), goInt]), hh⟩
      · rename_i e; exact ⟨_, w, h, H, run_v (by simp [Builtin.len_, run_under (tdesc_some e (by simp)), goInt]), hh⟩
      · rename_i e; exact ⟨_, w, h, H, run_v (by simp [Builtin.len_, run_under (tdesc_some e (by simp)), goInt]), hh⟩
      · rename_i e
        obtain ⟨b, o, m, rfl, hb, ⟨es, clock, rfl, hm, _⟩, H⟩ := H
        refine ⟨_, w, h, H, run_v ?_, hh⟩
        have hg := hh.holds _ _ hb
        have hl : m.length = es.size := by rw [← hm]; simp
        simp [Builtin.len_, run_under (tdesc_some e (by simp)), goInt, getObj, Sem.run, hg, mlen, hl]
      · exact H.elim
    · exact H.elim
  · -- append
    split at H
    · rename_i t0 u ts a len cap x
      split at H
      · rename_i e1 e2
        obtain ⟨xs, hs, H⟩ := H
        obtain ⟨v, w', h', h1, h2, h3⟩ := appendW_spec (x := .slice _ _ _) (ty := t) (rest := ts) (tdesc_some e1 (by simp)) (tdesc_some e2 (by simp)) (fun k h => by cases h) H hh rfl (fun w' hw' => run_first_slice hw' hs)
        exact ⟨v, w', h', h1, run_v h2, h3⟩
      · rename_i s e1 e2
        obtain ⟨v, w', h', h1, h2, h3⟩ := appendW_spec (x := .string s) (ty := t) (rest := ts) (tdesc_some e1 (by simp)) (tdesc_some e2 (by simp)) (fun k h => by cases h) H hh rfl (fun w' hw' => by
          have : s.extract 0 s.size = s := by
            apply ByteArray.ext; simp
          simp only [Builtin.firstCells, this, Sem.run_pure]
          congr 1
          apply Array.ext'
          simp [bytesV])
        exact ⟨v, w', h', h1, run_v h2, h3⟩
      · exact H.elim
    · exact H.elim
  · -- delete
    split at H
    · rename_i t0 ts r k rest
      split at H
      · rename_i kt et e
        cases ek : keyT P kt && keyOk P kt k with
        | false => rw [ek] at H; exact H.elim
        | true =>
          rw [ek] at H
          rw [Bool.and_eq_true] at ek
          obtain ⟨b, o, m, rfl, hb, M, H⟩ := H
          obtain ⟨o', h1, h2⟩ := run_delete (tdesc_some e (by simp)) ek.1 ek.2 (hh.holds _ _ hb) M ts rest t
          exact ⟨_, _, _, H o' h2, run_v h1, hh.setB hb o'⟩
      · exact H.elim
    · exact H.elim
  · -- copy
    split at H
    · rename_i t0 ts a len cap x
      split at H
      · rename_i e s et
        cases eo : okT P e && Nat.beq (szT P e) 1 with
        | false => rw [eo] at H; exact H.elim
        | true =>
          rw [eo] at H
          simp only [cond_true] at H
          obtain ⟨o1, o2⟩ := Bool.and_eq_true_iff.1 eo
          have hb : ∀ w' : World, (Builtin.lenOf (.string s)).run P w' = .ok s.size w' := fun _ => rfl
          obtain ⟨J, HJ, H⟩ := H
          rcases H with ⟨e0, H⟩ | ⟨b, o, rfl, hp, H⟩
          · refine ⟨_, w, h, HJ _ H, run_v ?_, hh⟩
            have hf := first_string (P := P) s len (szT P e) w
            rw [e0] at hf
            unfold Builtin.copy_
            simp only [List.getElem?_toArray, List.getElem?_cons_zero, List.getElem?_cons_succ, Sem.run_bind, run_under (tdesc_some et (by simp)), Result.andThen_ok, hb, run_size o1, hf]
            cases a with
            | none => rfl
            | some ad => simp [storeCells, goInt, cpyN]
          · obtain ⟨cs', t', lo, hi, g1, g2, g3, H⟩ := storeH_elim H
            refine ⟨_, _, _, HJ _ H, run_v ?_, hh.setB g1 _⟩
            have hf := first_string (P := P) s len (szT P e) w
            unfold Builtin.copy_
            simp only [List.getElem?_toArray, List.getElem?_cons_zero, List.getElem?_cons_succ, Sem.run_bind, run_under (tdesc_some et (by simp)), Result.andThen_ok, hb, run_size o1, hf]
            rw [run_storeCells (cpyV s len) 0 w cs' (hh.holds _ _ g1) (by simpa using g2) (by simpa using g3) hp]
            rfl
      · rename_i e xa n xcap et
        cases eo : okT P e && Nat.beq (szT P e) 1 with
        | false => rw [eo] at H; exact H.elim
        | true =>
          rw [eo] at H
          simp only [cond_true] at H
          obtain ⟨o1, o2⟩ := Bool.and_eq_true_iff.1 eo
          have o3 : szT P e = 1 := Nat.eq_of_beq_eq_true o2
          have hb : ∀ w' : World, (Builtin.lenOf (.slice xa n xcap)).run P w' = .ok n w' := fun _ => rfl
          obtain ⟨xs, hs, J, HJ, H⟩ := H
          have hf : (Builtin.firstCells (szT P e) (Nat.min n len) (.slice xa n xcap)).run P w = .ok xs.toArray w := by
            refine run_first_slice hh.holds ?_
            rw [o3, Nat.mul_one]; exact hs
          rcases H with ⟨e0, H⟩ | ⟨b, o, rfl, hp, H⟩
          · refine ⟨_, w, h, HJ _ H, run_v ?_, hh⟩
            rw [e0] at hf
            unfold Builtin.copy_
            simp only [List.getElem?_toArray, List.getElem?_cons_zero, List.getElem?_cons_succ, Sem.run_bind, run_under (tdesc_some et (by simp)), Result.andThen_ok, hb, run_size o1, hf]
            cases a with
            | none => rfl
            | some ad => simp [storeCells, goInt, cpyI, cpyM]
          · obtain ⟨cs', t', lo, hi, g1, g2, g3, H⟩ := storeH_elim H
            refine ⟨_, _, _, HJ _ H, run_v ?_, hh.setB g1 _⟩
            unfold Builtin.copy_
            simp only [List.getElem?_toArray, List.getElem?_cons_zero, List.getElem?_cons_succ, Sem.run_bind, run_under (tdesc_some et (by simp)), Result.andThen_ok, hb, run_size o1, hf]
            rw [run_storeCells xs 0 w cs' (hh.holds _ _ g1) (by simpa using g2) (by simpa using g3) hp]
            rfl
      · exact H.elim
    · exact H.elim
  · -- max
    split at H
    · obtain ⟨v, h1, h2⟩ := maxInt_spec (P := P) H
      exact ⟨v, w, h, h1, run_v (by simpa [Builtin.max_] using h2 w), hh⟩
    · exact H.elim
  · split at H
    · obtain ⟨v, h1, h2⟩ := minInt_spec (P := P) H
      exact ⟨v, w, h, h1, run_v (by simpa [Builtin.min_] using h2 w), hh⟩
    · exact H.elim
  · exact H.elim
theorem HeapR.call {w0 : World} {h0 : Hp} {ρ : Nat → Nat} {st : St} {h h' : Hp} {w w' : World} (H : HeapR w0 h0 ρ st h w) (hh : Holds h' w') (hk : Kept h w h' w') : HeapR w0 h0 ρ st h' w' := by
  refine ⟨hh, H.kept.trans hk, fun l cs t hl => ?_, H.inj, H.top⟩
  obtain ⟨a, b, c⟩ := H.loc l cs t hl
  obtain ⟨x, y⟩ := hk.block _ _ a b
  exact ⟨x, y, c⟩
theorem run_callFunc {P : Program} {g : FuncId} (hg : funcOk P g = true) (args : Array Value) (w : World) : (callFunc g args).run P w = .ok (.enter g args) w := by
  unfold funcOk at hg
  unfold callFunc
  simp only [Sem.run_bind, run_program, Result.andThen_ok]
  cases e : P.funcs[g]? with
  | none => rw [e] at hg; cases hg
  | some fn =>
    rw [e] at hg
    obtain ⟨h1, h2⟩ := Bool.and_eq_true_iff.1 hg
    have h3 : (fn.name == "runtime.NumGoroutine") = false := by simpa using h2
    have h4 : fn.body.isNone = false := by cases hb : fn.body <;> simp_all
    simp [h3, h4]
theorem callW_spec {P : Program} {o : Oper} {a : Act} {w : World} {next : Act → World → Prop} {Q : Exit → Act → World → Prop} {t : TypeId} {g : FuncId} {args : List Value} {h : Hp} {K : SV → St → Hp → Prop}
    {w0 : World} {h0 : Hp} {ρ : Nat → Nat} {st : St} (H : callW P t g args h fun v h' => K (.val v) st h') (hh : HeapR w0 h0 ρ st h w) (hn : Nx w0 h0 ρ st a o.dst K next)
    (hr : (execOp a.eval o).run P w = .ok (.enter g args.toArray) w) : o.wp P a w next Q := by
  refine wp_enter hr (H w hh.holds) fun e w'' ⟨v, h', he, hq, hh', hk⟩ => ⟨v, he, ?_⟩
  obtain ⟨v', rfl, hq⟩ := Vt.ex_spec hq
  exact hn.pure hq rfl (hh.call hh' hk)
theorem add64_row (fn : Func) (h1 : fn.name = "math/bits.Add64") (h2 : fn.origin = "") : Extern.findNext fn = none ∧ Extern.find fn = some add64Entry := by
  constructor
  · unfold Extern.findNext
    rw [h1, h2]
    kernel_rfl
  · unfold Extern.find
    rw [h1, h2]
    kernel_rfl
theorem externW_spec {P : Program} {g : FuncId} {args : List Value} {F : Value → Prop} (H : externW P g args F) :
    ∃ v, F v ∧ ∀ w, (callFunc g args.toArray).run P w = .ok (.value v) w := by
  unfold externW at H
  cases e : isAdd64 P g with
  | false => rw [e] at H; exact H.elim
  | true =>
    rw [e] at H
    simp only [cond_true] at H
    unfold isAdd64 at e
    split at e
    · rename_i fn hf
      obtain ⟨e1, e2⟩ := Bool.and_eq_true_iff.1 e
      obtain ⟨e3, e4⟩ := Bool.and_eq_true_iff.1 e1
      have hn : fn.name = "math/bits.Add64" := by simpa using e4
      have ho : fn.origin = "" := by simpa using e2
      obtain ⟨r1, r2⟩ := add64_row fn hn ho
      split at H
      · rename_i x y c
        obtain ⟨hx, hy, hc0, hc1, H⟩ := H
        refine ⟨_, H, fun w => ?_⟩
        have hx : 0 ≤ x := hx
        have hy : 0 ≤ y := hy
        have hc0 : 0 ≤ c := hc0
        rw [run_callFunc_extern hf (by rw [hn]; decide) e3 r1 r2, run_add64 x y c hx hy hc0 hc1]
        simp only [Result.andThen, itmod, itdiv, iadd]
        rw [Int.tmod_eq_emod_of_nonneg (by omega), Int.tdiv_eq_ediv_of_nonneg (by omega)]
      · exact H.elim
    · cases e
theorem depth_pos (P : Program) : ∃ n, P.types.size + Made.depth = n + 1 := ⟨P.types.size + Made.depth - 1, by
  have : 0 < Made.depth := by decide
  omega⟩
theorem methodW_spec {P : Program} {u : TypeId} {name : String} {F : FuncId → Prop} (H : methodW P u name F) (p : Option Addr) (args : Array Value) (w : World) :
    ∃ f, F f ∧ (callMethod (.iface u (.pointer p)) name args).run P w = .ok (.enter f (#[.pointer p] ++ args)) w := by
  unfold methodW at H
  cases e1 : (tinfo P u).methods.find? (·.name == name) with
  | none => rw [e1] at H; exact H.elim
  | some m =>
    rw [e1] at H
    simp only [] at H
    cases e2 : m.func with
    | none => rw [e2] at H; exact H.elim
    | some fp =>
      obtain ⟨f, b⟩ := fp
      rw [e2] at H
      cases b with
      | false => exact H.elim
      | true =>
        simp only [] at H
        cases e3 : P.underlying u with
        | none => rw [e3] at H; exact H.elim
        | some d =>
          rw [e3] at H
          cases d <;> first | exact H.elim | skip
          rename_i el
          simp only [] at H
          cases e4 : (m.path.isEmpty && (P.info? u).isSome && funcOk P f) with
          | false => rw [e4] at H; exact H.elim
          | true =>
            rw [e4] at H
            simp only [cond_true] at H
            obtain ⟨e5, e6⟩ := Bool.and_eq_true_iff.1 e4
            obtain ⟨e7, e8⟩ := Bool.and_eq_true_iff.1 e5
            have hp : m.path.toList = [] := by simpa using e7
            obtain ⟨n, hn⟩ := depth_pos P
            refine ⟨f, H, ?_⟩
            unfold callMethod
            simp only [Sem.run_bind, run_program, Result.andThen_ok, hn]
            have hm : (method (n + 1) u (.pointer p) name).run P w = .ok (f, .pointer p) w := by
              unfold method
              simp only [Sem.run_bind, run_info (show okT P u = true from e8), Result.andThen_ok, e1, hp, follow, Sem.run_pure, e2, receiverAt, run_under e3, Place.get]
            rw [hm]
            exact run_callFunc e6 _ w
end Go.Gx
