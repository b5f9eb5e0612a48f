/- Runs of a ledger beside the document's: LedgerPlays, LedgerCharges, LedgerFull over heaps. Conditions: none beyond the arguments' reading. -/
import Derived.Test.YtlklpdedppgkfaaL5
namespace Go.Proofs.Ytlklpdedppgkfaa
open Go.Gx
set_option maxRecDepth 100000
set_option linter.unusedVariables false
variable {h : Hp} {lb tb t : Nat} {full : Int} {L : List KV} {x : Led} {K : Value → Hp → Prop} {a : Option Addr} {c : Nat}
theorem roomy_free (L : List KV) : roomy (-1) L = true := decide_eq_true (.inl (by decide))
theorem own_nil (q : ByteArray → Bool) : kvPart q [] = [] := rfl

/-! ### the chapter's example -/
theorem lives_spec (hK : ∀ h', Sub h h' → K (.bool true) h') : CallsH Try.prog law22_lives.id #[] h K := by
  apply law22_lives.calls
  unfold law22_lives.W
  intro k hk
  refine open_spec (table_new hk (-1)) 3 List.Pairwise.nil (fun _ _ => rfl) (by decide) (fun e => absurd (by decide) e) fun t et t1 t2 lb h1 s1 hlb A => ?_
  have et : t = 3 := by omega
  subst et
  have s1 : Sub h h1 := (Sub.upd hk _).trans s1
  have sb : ∀ {x y : Hp}, Sub h x → Keep (fun b => b = k) x y → Sub h y := fun s kp => kp.sub s fun b hb => by rw [hb]; exact hk
  refine ⟨_, _, rfl, split_not (fun _ => split_eq (fun _ => ?_) fun e => absurd rfl e) fun e => by cases e⟩
  refine create_spec A (by decide) 100 fun h2 L2 k2 A2 O2 l2 => ⟨_, rfl, ?_⟩
  rw [roomy_free] at A2 ⊢
  have r1 : led0.create 100 true = (⟨true, 100, 0, []⟩, 0) := rfl
  rw [r1] at A2 ⊢
  have hl2 : L2.length ≤ 2 := l2
  refine split_eq (fun _ => ?_) fun e => absurd rfl e
  refine add_spec A2 (by omega) (fun d hd => by cases hd) (bytesL [97]) 0 60 fun h3 L3 k3 A3 O3 l3 => ⟨_, rfl, ?_⟩
  rw [roomy_free] at A3 ⊢
  have r2 : (⟨true, 100, 0, []⟩ : Led).add (bytesL [97]) 0 60 true = (⟨true, 100, 0, [⟨bytesL [97], 0, 1, 60⟩]⟩, 0) := rfl
  rw [r2] at A3 ⊢
  refine split_eq (fun _ => ?_) fun e => absurd rfl e
  refine add_spec A3 (by omega) (fun d hd => by rw [List.mem_singleton.1 hd]; decide) (bytesL [97]) 0 60 fun h4 L4 k4 A4 O4 l4 => ⟨_, rfl, ?_⟩
  rw [roomy_free] at A4 ⊢
  have ha : atH [⟨bytesL [97], 0, 1, 60⟩] (bytesL [97]) 0 = some ⟨bytesL [97], 0, 1, 60⟩ := atH_some (l := [⟨bytesL [97], 0, 1, 60⟩]) (List.pairwise_singleton _ _) (List.mem_singleton.2 rfl)
  have hi : ixH [⟨bytesL [97], 0, 1, 60⟩] (bytesL [97]) 0 = 0 := by
    have := (List.getElem?_eq_some_iff.1 (show [(⟨bytesL [97], 0, 1, 60⟩ : Hd)][ixH [⟨bytesL [97], 0, 1, 60⟩] (bytesL [97]) 0]? = some _ from ha)).1
    simp at this; exact this
  have r3 : (⟨true, 100, 0, [⟨bytesL [97], 0, 1, 60⟩]⟩ : Led).add (bytesL [97]) 0 60 true = (⟨true, 100, 0, [⟨bytesL [97], 0, 2, 60⟩]⟩, 0) := by
    unfold Led.add
    rw [if_neg (by decide), if_neg (by decide)]
    simp only [ha, hi]
    rfl
  rw [r3] at A4 ⊢
  refine split_eq (fun _ => ?_) fun e => absurd rfl e
  refine usedL_spec A4 fun h5 s5 => ⟨_, rfl, split_eq (fun _ => ?_) fun e => absurd rfl e⟩
  refine add_spec (A4.sub s5) (by omega) (fun d hd => by rw [List.mem_singleton.1 hd]; decide) (bytesL [98]) 0 50 fun h6 L6 k6 A6 O6 l6 => ⟨_, rfl, ?_⟩
  rw [roomy_free] at A6 ⊢
  have hb98 : bytesL [97] ≠ bytesL [98] := fun e => by
    have := congrArg (fun b => b.data.toList) e
    exact absurd this (by decide)
  have hn : atH [⟨bytesL [97], 0, 2, 60⟩] (bytesL [98]) 0 = none := by
    cases hx : atH [⟨bytesL [97], 0, 2, 60⟩] (bytesL [98]) 0 with
    | none => rfl
    | some d =>
      obtain ⟨g1, g2, _⟩ := atH_mem hx
      rw [List.mem_singleton.1 g1] at g2
      exact absurd g2 hb98
  have r4 : (⟨true, 100, 0, [⟨bytesL [97], 0, 2, 60⟩]⟩ : Led).add (bytesL [98]) 0 50 true = (⟨true, 100, 0, [⟨bytesL [97], 0, 2, 60⟩]⟩, 5) := by
    unfold Led.add
    rw [if_neg (by decide), if_neg (by decide)]
    simp only [hn]
    rfl
  rw [r4] at A6 ⊢
  refine split_eq (fun _ => ?_) fun e => absurd rfl e
  refine countL_spec A6 (fun d hd => by rw [List.mem_singleton.1 hd]; decide) (bytesL [97]) 0 fun h7 s7 => ⟨_, rfl, ?_⟩
  have ha2 : atH [⟨bytesL [97], 0, 2, 60⟩] (bytesL [97]) 0 = some ⟨bytesL [97], 0, 2, 60⟩ := atH_some (l := [⟨bytesL [97], 0, 2, 60⟩]) (List.pairwise_singleton _ _) (List.mem_singleton.2 rfl)
  rw [ha2, hb_eq]
  exact hK h7 ((sb ((sb (sb (sb s1 k2) k3) k4).trans s5) k6).trans s7)
theorem live_ok {y : Hp} (s : Sub h y) : CallsH Try.prog 11 #[] y (fun v z => ∃ b, v = .bool b ∧ (fun (v : Value) (h' : Hp) => v = .bool true ∧ Sub h h') (.bool b) z) := lives_spec fun z2 s2 => ⟨_, rfl, rfl, s.trans s2⟩

/-! ### steps in memory -/
structure Op5 where
  kind : Int
  n : Int
  who : Int
  sum : ByteArray
  i : Int
def opC (o : Op5) : List Value := [.int .i64 o.kind, .int .i64 o.n, .int .i64 o.who, .string o.sum, .int .i64 o.i]
theorem opC_len (o : Op5) : (opC o).length = 5 := rfl
def Op5.ok (o : Op5) : Prop := -9223372036854775808 ≤ o.n ∧ o.n ≤ 9223372036854775807
theorem light_spec (o : Op5) (hK : K (.bool (decide (o.sum.size ≤ 200))) h) : CallsH Try.prog law22_light.id #[.agg #[.int .i64 o.kind, .int .i64 o.n, .int .i64 o.who, .string o.sum, .int .i64 o.i]] h K := by
  apply law22_light.calls
  unfold law22_light.W
  rw [hb_eq]
  have : decide (Int.ofNat o.sum.size ≤ 200) = decide (o.sum.size ≤ 200) := by
    rw [decide_eq_decide]
    show ((o.sum.size : Nat) : Int) ≤ 200 ↔ _
    omega
  rw [this]; exact hK
theorem op_at {oa : Option Addr} {os : List Op5} (hr : RowAt opC 5 h oa os) {y : Hp} (s : Sub h y) {i : Nat} {o : Op5} (ho : os[i]? = some o) : ∃ b p, oa = some ⟨b, p, none⟩ ∧ y.cell b (p + i * 5) = some (.int .i64 o.kind) ∧ y.cell b (p + i * 5 + 1) = some (.int .i64 o.n) ∧ y.cell b (p + i * 5 + 2) = some (.int .i64 o.who) ∧ y.cell b (p + i * 5 + 3) = some (.string o.sum) ∧ y.cell b (p + i * 5 + 4) = some (.int .i64 o.i) := by
  obtain ⟨b, p, e, hc⟩ := (hr.sub s).get opC_len (by decide) ho
  exact ⟨b, p, e, hc 0 _ rfl, hc 1 _ rfl, hc 2 _ rfl, hc 3 _ rfl, hc 4 _ rfl⟩

/-! ### a ledger beside the document's -/
structure Both (h y : Hp) (lb tb t : Nat) (full : Int) (x : Led) (L : List KV) (a : Option Addr) (c i : Nat) : Prop where
  sub : Sub h y
  tb0 : h tb = none
  led : At y lb tb t full x L
  ref : RefAt y x a c
  apart : ∀ b, blkOf a b → b ≠ tb
  few : ∀ d ∈ x.l, d.count < i + 1
  len : L.length ≤ 2 * i + 2
theorem Both.look {y z : Hp} {i : Nat} (B : Both h y lb tb t full x L a c i) (s : Sub y z) : Both h z lb tb t full x L a c i :=
  ⟨B.sub.trans s, B.tb0, B.led.sub s, B.ref.sub s, B.apart, B.few, B.len⟩
theorem Both.more {y : Hp} {i : Nat} (B : Both h y lb tb t full x L a c i) : Both h y lb tb t full x L a c (i + 1) :=
  ⟨B.sub, B.tb0, B.led, B.ref, B.apart, fun d hd => by have := B.few d hd; omega, by have := B.len; omega⟩
theorem Both.step {y : Hp} {i : Nat} (B : Both h y lb tb t full x L a c i) (hi : i ≤ 1000) (o : Op5) (ho : o.ok) (hroom : x.step o.kind o.n o.sum o.i (roomy full L) = x.step o.kind o.n o.sum o.i true)
    (hK : ∀ z L' a' c', Both h z lb tb t full (x.step o.kind o.n o.sum o.i true).1 L' a' c' (i + 1) → Own1 t L L' → K (.tuple #[refV (x.step o.kind o.n o.sum o.i true).1 a' c', .bool true]) z) :
    CallsH Try.prog law22_step.id #[.pointer (some ⟨lb, 0, none⟩), refV x a c, .agg #[.int .i64 o.kind, .int .i64 o.n, .int .i64 o.who, .string o.sum, .int .i64 o.i]] y K := by
  have hl := B.len
  have tin := table_in B.led
  refine step_spec B.led B.ref (by omega) (fun d hd => by have := B.few d hd; omega) B.apart o.kind o.n o.who o.sum o.i ho hroom fun z L' a' c' k A' O' hl' R' hn' => hK z L' a' c' ⟨k.sub B.sub fun b hb => by rw [hb]; exact B.tb0, B.tb0, A', R', fun b hb e => ?_, counts_step B.led.has.ok B.few (by omega) _ _ _ _ _, by omega⟩ O'
  rcases hn' b hb with h2 | h2
  · exact B.apart b h2 e
  · rw [e] at h2; exact tin h2
theorem Both.alike {y : Hp} {i : Nat} (B : Both h y lb tb t full x L a c i) (hi : i ≤ 1000) (sum : ByteArray) (n : Int) (hK : ∀ z, Both h z lb tb t full x L a c i → K (.bool true) z) :
    CallsH Try.prog law22_alike.id #[.pointer (some ⟨lb, 0, none⟩), refV x a c, .agg #[.string sum, .int .i64 n]] y K :=
  alike_spec B.led B.ref (by have := B.len; omega) (fun d hd => by have := B.few d hd; omega) sum n fun z s => hK z (B.look s)
theorem plays_core (tenant : Int) (oa : Option Addr) (oc : Nat) (os : List Op5) (hr : RowAt opC 5 h oa os) (hok : ∀ o ∈ os, o.ok) :
    CallsH Try.prog 4 #[.int .i64 tenant, .slice oa os.length oc] h fun v h' => v = .bool true ∧ Sub h h' := by
  apply law22_LedgerPlays.calls
  unfold law22_LedgerPlays.W
  intro k hk
  have s0 : Sub h (h.upd k (.cells #[.slice none 0 0, .int .i64 (-1)] 30 (0, 0))) := Sub.upd hk _
  refine open_spec (table_new hk (-1)) tenant List.Pairwise.nil (fun _ _ => rfl) (by decide) (fun e => ⟨_, _, rfl, split_dec (fun _ => split_cond (fun _ => split_eq (fun _ => live_ok s0) fun e => absurd rfl e) fun e => by cases e) fun e1 => split_dec (fun _ => split_cond (fun _ => split_eq (fun _ => live_ok s0) fun e => absurd rfl e) fun e => by cases e) fun e2 => by omega⟩)
    fun t et t1 t2 lb h1 s1 hlb A => ⟨_, _, rfl, split_dec (fun e => by omega) fun _ => split_dec (fun e => by omega) fun _ => ?_⟩
  have s1 : Sub h h1 := s0.trans s1
  refine ⟨fun i b q r a l c y m => ∃ (j : Nat) (x : Led) (L : List KV), i = (j : Int) ∧ j ≤ 60 ∧ j ≤ os.length ∧ m = 60 - j ∧ b = x.is ∧ q = (x.quota : Int) ∧ r = (x.records : Int) ∧ l = x.l.length ∧ Both h y lb k t (-1) x L a c j,
    ⟨_, 0, led0, [], rfl, by decide, by omega, rfl, rfl, rfl, rfl, rfl, s1, hk, A, ref0 _, fun b ⟨o, s, e⟩ => (by cases e), fun d hd => (by cases hd), by decide⟩, ?_⟩
  rintro i b q r a l c y m ⟨j, x, L, rfl, hj, hjo, rfl, rfl, rfl, rfl, rfl, B⟩
  refine ⟨fun z => z = y ∧ j < os.length ∧ j < 60, ?_, split_dec (fun g => split_dec (fun g2 => split_not (fun _ => ⟨rfl, by have : (j : Int) < (os.length : Int) := g; omega, by omega⟩) fun e => by cases e) fun _ => split_not (fun _ => live_ok B.sub) fun e => by cases e) fun _ => split_not (fun _ => live_ok B.sub) fun e => by cases e⟩
  rintro z ⟨rfl, g, g60⟩
  have ho : os[j]? = some os[j] := List.getElem?_eq_getElem g
  generalize os[j] = o at ho
  obtain ⟨b1, o1, ea, c0, c1, c2, c3, c4⟩ := op_at hr B.sub ho
  have hb : (j : Int) < Int.ofNat os.length := by show (j : Int) < (os.length : Int); omega
  refine ⟨by omega, hb, b1, o1, ea, _, c0, _, c1, _, c2, _, c3, _, c4, light_spec o ⟨_, rfl, split_not (fun _ => live_ok B.sub) fun _ => ⟨by omega, hb, b1, o1, ea, _, c0, _, c1, _, c2, _, c3, _, c4, ?_⟩⟩⟩
  refine B.step (by omega) o (hok o (List.mem_of_getElem? ho)) (by rw [roomy_free]) fun z L' a' c' B' O' => ⟨_, _, _, _, _, _, _, rfl, split_not (fun e => by cases e) fun _ => ?_⟩
  obtain ⟨b2, o2, ea2, d0, d1, d2, d3, d4⟩ := op_at hr B'.sub ho
  refine ⟨by omega, hb, b2, o2, ea2, _, d3, _, d4, B'.alike (by omega) _ _ fun w B'' => ⟨_, rfl, split_not (fun e => by cases e) fun _ => ⟨_, ?_, j + 1, _, L', by rw [wid (by omega) (by omega)]; omega, by omega, by omega, rfl, rfl, rfl, rfl, rfl, B''⟩⟩⟩
  omega
theorem create_ok (A : At h lb tb t full led0 L) (hroom : roomy full L = true) {q : Int} (hq : okQ q = true) : led0.create q (roomy full L) = (⟨true, q.toNat, 0, []⟩, 0) := by
  unfold Led.create
  rw [if_neg (by rw [hq]; decide), if_neg (by decide), if_pos hroom]
theorem charges_core (quota : Int) (oa : Option Addr) (oc : Nat) (os : List Op5) (hr : RowAt opC 5 h oa os) (hok : ∀ o ∈ os, o.ok) :
    CallsH Try.prog 3 #[.int .i64 quota, .slice oa os.length oc] h fun v h' => v = .bool true ∧ Sub h h' := by
  apply law22_LedgerCharges.calls
  unfold law22_LedgerCharges.W
  intro k hk
  have s0 : Sub h (h.upd k (.cells #[.slice none 0 0, .int .i64 (-1)] 30 (0, 0))) := Sub.upd hk _
  refine open_spec (table_new hk (-1)) 8 List.Pairwise.nil (fun _ _ => rfl) (by decide) (fun e => absurd (by decide) e) fun t et t1 t2 lb h1 s1 hlb A => ⟨_, _, rfl, split_cond (fun e => by cases e) fun _ => ?_⟩
  have s1 : Sub h h1 := s0.trans s1
  refine create_spec A (by decide) quota fun h2 L2 k2 A2 O2 l2 => ⟨_, rfl, ?_⟩
  have s2 : Sub h h2 := k2.sub s1 fun b hb => by rw [hb]; exact hk
  cases hq : okQ quota with
  | false =>
    have hq' := of_decide_eq_false hq
    have r : led0.create quota (roomy (-1) []) = (led0, 1) := by unfold Led.create; rw [if_pos hq]
    rw [r]
    exact split_ne (fun _ => split_dec (fun _ => live_ok s2) fun e => split_dec (fun _ => live_ok s2) fun e2 => by omega) fun e => by cases e
  | true =>
    have hq' := of_decide_eq_true hq
    have r := create_ok A (roomy_free _) hq
    rw [r] at A2 ⊢
    refine split_ne (fun e => absurd rfl e) fun _ => ?_
    have hR : RefAt h2 ⟨true, quota.toNat, 0, []⟩ none 0 := ⟨RowAt.nil _ _, Nat.le_refl _, LedOk.create hq, by show 0 < 1073741824; decide⟩
    refine ⟨fun i b q r a l c y m => ∃ (j : Nat) (x : Led) (L : List KV), i = (j : Int) ∧ j ≤ 60 ∧ j ≤ os.length ∧ m = 60 - j ∧ b = x.is ∧ q = (x.quota : Int) ∧ r = (x.records : Int) ∧ l = x.l.length ∧ Both h y lb k t (-1) x L a c j,
      ⟨_, 0, ⟨true, quota.toNat, 0, []⟩, L2, rfl, by decide, by omega, rfl, rfl, by show quota = ((quota.toNat : Nat) : Int); omega, rfl, rfl, s2, hk, A2, hR, fun b ⟨o, s, e⟩ => (by cases e), fun d hd => (by cases hd), by have : L2.length ≤ 2 := l2; omega⟩, ?_⟩
    rintro i b q r a l c y m ⟨j, x, L, rfl, hj, hjo, rfl, rfl, rfl, rfl, rfl, B⟩
    refine split_dec (fun g => split_dec (fun g2 => ?_) fun _ => live_ok B.sub) fun _ => live_ok B.sub
    have g : j < os.length := by have : (j : Int) < (os.length : Int) := g; omega
    have ho : os[j]? = some os[j] := List.getElem?_eq_getElem g
    generalize os[j] = o at ho
    obtain ⟨b1, o1, ea, c0, c1, c2, c3, c4⟩ := op_at hr B.sub ho
    have hb : (j : Int) < Int.ofNat os.length := by show (j : Int) < (os.length : Int); omega
    refine ⟨by omega, hb, b1, o1, ea, _, c0, _, c1, _, c2, _, c3, _, c4, light_spec o ⟨_, rfl, split_not (fun _ => live_ok B.sub) fun _ => ⟨by omega, hb, b1, o1, ea, _, c0, _, c1, _, c2, _, c3, _, c4, ?_⟩⟩⟩
    refine B.step (by omega) o (hok o (List.mem_of_getElem? ho)) (by rw [roomy_free]) fun z L' a' c' B' O' => ⟨_, _, _, _, _, _, _, rfl, ?_⟩
    generalize (x.step o.kind o.n o.sum o.i true).1 = x' at B' ⊢
    have hu := B'.led.has.ok.used
    have hqq := B'.led.has.ok.quota
    refine usedL_spec B'.led fun w1 v1 => ⟨_, rfl, quota_spec (B'.led.sub v1) fun w2 v2 => ⟨_, rfl, split_dec (fun e => by omega) fun _ => ?_⟩⟩
    have B2 := (B'.look v1).look v2
    refine usedL_spec B2.led fun w3 v3 => ⟨_, rfl, bytes_spec (B2.led.sub v3) fun w4 v4 => ⟨_, rfl, ?_⟩⟩
    have B4 := (B2.look v3).look v4
    refine records_spec B4.led fun w5 v5 => ⟨_, rfl, ?_⟩
    have B5 := B4.look v5
    have hue : (x'.used : Int) = IntKind.i64.wrap (((sizesH x'.l : Nat) : Int) + IntKind.i64.wrap (64 * (x'.records : Int))) := by
      unfold Led.used at hu ⊢
      rw [wid (x := 64 * (x'.records : Int)) (by omega) (by omega), wid (by omega) (by omega)]; omega
    refine split_ne (fun e => absurd hue e) fun _ => ?_
    refine bytes_spec B5.led fun w6 v6 => ⟨_, rfl, split_dec (fun e => by omega) fun _ => records_spec (B5.led.sub v6) fun w7 v7 => ⟨_, rfl, split_dec (fun e => by omega) fun _ => ⟨_, ?_, j + 1, x', L', by rw [wid (by omega) (by omega)]; omega, by omega, by omega, rfl, rfl, rfl, rfl, rfl, (B5.look v6).look v7⟩⟩⟩
    omega
end Go.Proofs.Ytlklpdedppgkfaa
