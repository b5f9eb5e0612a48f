/- LedgerCosts over any memory that reads as its arguments. Conditions: none beyond the arguments' reading. -/
import Derived.Test.YtlklpdedppgkfaaL9
namespace Go.Proofs.Ytlklpdedppgkfaa
open Go.Gx
set_option maxRecDepth 100000
set_option linter.unusedVariables false
variable {h : Hp} {K : Value → Hp → Prop}
theorem costs_core (oa : Option Addr) (oc : Nat) (os : List Op5) (hr : RowAt opC 5 h oa os) (hok : ∀ o ∈ os, o.ok) (ha : Option Addr) (hc : Nat) (hs : List Rh) (hh : RowAt rhC 4 h ha hs) :
    CallsH Try.prog 7 #[.slice oa os.length oc, .slice ha hs.length hc] h fun v h' => v = .bool true ∧ Sub h h' := by
  apply law22_LedgerCosts.calls
  unfold law22_LedgerCosts.W
  intro k hk
  refine open_spec (table_new hk (-1)) 2 List.Pairwise.nil (fun _ _ => rfl) (by decide) (fun e => absurd (by decide) e) fun t et t1 t2 lb h1 s1 hlb A => ⟨_, _, rfl, split_cond (fun e => by cases e) fun _ => ?_⟩
  have s1 : Sub h h1 := (Sub.upd hk _).trans s1
  have hroom0 : roomy (-1) [] = true := roomy_free _
  refine create_spec A (by decide) 1048576 fun h2 L2 k2 A2 O2 l2 => ⟨_, rfl, ?_⟩
  have s2 : Sub h h2 := k2.sub s1 fun b hb => by rw [hb]; exact hk
  have r := create_ok A hroom0 (q := 1048576) rfl
  rw [r] at A2 ⊢
  refine split_ne (fun e => absurd rfl e) fun _ => ?_
  have hR : RefAt h2 ⟨true, (1048576 : Int).toNat, 0, []⟩ none 0 := ⟨RowAt.nil _ _, Nat.le_refl _, LedOk.create rfl, by show 0 < 1073741824; decide⟩
  refine ⟨fun b q r a l c y => ∃ (x : Led) (L : List KV), b = x.is ∧ q = (x.quota : Int) ∧ r = (x.records : Int) ∧ l = x.l.length ∧ Both h y lb k t (-1) x L a c 30, ?_, fun i b q r a l c y m => ∃ (j : Nat) (x : Led) (L : List KV), i = (j : Int) ∧ j ≤ 30 ∧ j ≤ os.length ∧ m = 30 - j ∧ b = x.is ∧ q = (x.quota : Int) ∧ r = (x.records : Int) ∧ l = x.l.length ∧ Both h y lb k t (-1) x L a c j,
    ⟨_, 0, ⟨true, (1048576 : Int).toNat, 0, []⟩, L2, rfl, by decide, by omega, rfl, rfl, rfl, rfl, rfl, s2, hk, A2, hR, fun b ⟨o, s, e⟩ => (by cases e), fun d hd => (by cases hd), by have : L2.length ≤ 2 := l2; omega⟩, ?_⟩
  · rintro b q r a l c y ⟨x, L, rfl, rfl, rfl, rfl, B⟩
    have hBl := B.len
    refine ⟨fun a' l' c' z => ∃ rs : List Rh, l' = rs.length ∧ rs.length ≤ 30 ∧ (∀ r ∈ rs, r.size ≤ 1000) ∧ NewR rhC 4 tHeldL y z a' c' rs, ?_, fun a' l' c' i z m => ∃ j : Nat, i = (j : Int) ∧ j ≤ 30 ∧ j ≤ hs.length ∧ m = 30 - j ∧ l' = (hs.take j).length ∧ (∀ r ∈ hs.take j, r.size ≤ 1000) ∧ NewR rhC 4 tHeldL y z a' c' (hs.take j), ⟨_, 0, rfl, by decide, by omega, rfl, rfl, fun r hr => (by simp at hr), NewR.nil _ _⟩, ?_⟩
    · rintro a' l' c' z ⟨rs, rfl, hrl, hsz, N⟩
      have hn : ∀ b, blkOf a' b → b ≠ k := fun b hb e => by have := N.new b hb; rw [e] at this; exact table_in B.led this
      have B := B.look N.sub
      refine cost_spec B.led (fun d hd => by have := B.few d hd; omega) N.own.row (by omega) hsz fun z1 s1 => ⟨_, rfl, ?_⟩
      have B := B.look s1
      have H1 := N.own.row.sub s1
      refine theirsR_spec H1 (by omega) fun z2 a2 c2 N2 => ⟨_, _, _, rfl, N2.sub, ?_⟩
      have B := B.look N2.sub
      have H2 := H1.sub N2.sub
      refine costR_spec B.ref N2.own.row (by omega) hsz ⟨_, rfl, split_ne (fun e => absurd rfl e) fun _ => alike_spec B.led B.ref (by omega) (fun d hd => by have := B.few d hd; omega) _ _ fun z3 s3 => ⟨_, rfl, split_not (fun e => by cases e) fun _ => ?_⟩⟩
      have B := B.look s3
      refine usedL_spec B.led fun z4 s4 => ⟨_, rfl, ?_⟩
      have B := B.look s4
      have H4 : RowAt rhC 4 z4 a' rs := ((H1.sub (N2.sub.trans (s3.trans s4))))
      refine ⟨fun b i z m => ∃ j : Nat, i = (j : Int) ∧ j ≤ rs.length ∧ m = rs.length - j ∧ RowAt rhC 4 z a' rs ∧ ∃ (x' : Led) (L' : List KV), At z lb k t (-1) x' L' ∧ Sub h z ∧ (∀ d ∈ x'.l, d.count < 31 + j) ∧ L'.length ≤ 62 + 2 * j ∧ (b = true → Added x x' rs j), ⟨_, 0, rfl, by omega, rfl, H4, x, L, B.led, B.sub, fun d hd => B.few d hd, B.len, fun _ => ⟨by show _ = (x.used : Int) + 0; omega, fun sum n => ⟨fun h => ⟨h, fun q hq => by simp at hq⟩, fun h => h.1⟩⟩⟩, ?_⟩
      rintro b i z m ⟨j, rfl, hj, rfl, Hz, x', L', A', sz, few, len, hadd⟩
      refine split_dec (fun g => ?_) fun g => ?_
      · have g : j < rs.length := by have : (j : Int) < (rs.length : Int) := g; omega
        have hjl : (j : Int) < Int.ofNat rs.length := by show (j : Int) < (rs.length : Int); omega
        refine split_cond (fun e => ?_) fun e => ⟨_, ?_, j + 1, by rw [wid (by omega) (by omega)]; omega, by omega, rfl, Hz, x', L', A', sz, fun d hd => by have := few d hd; omega, by omega, fun e => by cases e⟩
        · have hr : rs[j]? = some rs[j] := List.getElem?_eq_getElem g
          generalize rs[j] = r at hr
          obtain ⟨b1, p, ea, hcell⟩ := Hz.get rhC_len (by decide) hr
          refine ⟨by omega, hjl, b1, p, ea, _, hcell 0 _ rfl, _, hcell 1 _ rfl, by omega, hjl, b1, p, ea, _, hcell 3 _ rfl, add_spec A' (by omega) (fun d hd => by have := few d hd; omega) r.sum r.n r.size fun w L'' k' A'' O'' hl' => ⟨_, rfl, _, ?_, j + 1, by rw [wid (by omega) (by omega)]; omega, by omega, rfl, Hz.keep k' hn, _, L'', A'', k'.sub sz fun b hb => by rw [hb]; exact hk, ?_, by omega, fun e2 => ?_⟩⟩
          · omega
          · have := counts_add A'.has.ok few (by omega) r.sum r.n r.size (roomy (-1) L')
            intro d hd
            have := this d hd
            omega
          · rw [roomy_free] at e2 ⊢
            rw [hb_eq] at e2
            exact (hadd e).step A'.has.ok hr (of_decide_eq_true e2)
        · omega
      · have : j = rs.length := by
          have : ¬ (j : Int) < (rs.length : Int) := g
          omega
        subst this
        refine split_not (fun e => live_ok sz) fun e => usedL_spec A' fun z5 s5 => ⟨_, rfl, ?_⟩
        refine split_eq (fun e2 => live_ok (sz.trans s5)) fun e2 => absurd ?_ e2
        have hu := (hadd e).used
        have hcb := costN_bound (x := x) hsz rs.length
        rw [wid (by omega) (by omega)]; omega
    · rintro a' l' c' i z m ⟨j, rfl, hj, hjl, rfl, rfl, hsz, N⟩
      refine split_dec (fun g => split_dec (fun g2 => ?_) fun g2 => ⟨hs.take j, rfl, by rw [List.length_take]; omega, hsz, N⟩) fun g => ⟨hs.take j, rfl, by rw [List.length_take]; omega, hsz, N⟩
      have g : j < hs.length := by have : (j : Int) < (hs.length : Int) := g; omega
      have hd : hs[j]? = some hs[j] := List.getElem?_eq_getElem g
      generalize hs[j] = d at hd
      have ht : hs.take (j + 1) = hs.take j ++ [d] := by rw [List.take_add_one, hd]; rfl
      obtain ⟨b1, o, ea, hc⟩ := (hh.sub (B.sub.trans N.sub)).get rhC_len (by decide) hd
      have hb : (j : Int) < Int.ofNat hs.length := by show (j : Int) < (hs.length : Int); omega
      have sz := B.sub.trans N.sub
      refine ⟨by omega, hb, b1, o, ea, _, hc 0 _ rfl, split_dec (fun _ => live_ok sz) fun _ => ⟨by omega, hb, b1, o, ea, _, hc 3 _ rfl, split_dec (fun _ => live_ok sz) fun hsz1 => ⟨by omega, hb, b1, o, ea, _, hc 0 _ rfl, _, hc 1 _ rfl, by omega, hb, b1, o, ea, _, hc 2 _ rfl, by omega, hb, b1, o, ea, _, hc 3 _ rfl, fun k hk => ⟨rhC d, (Blk.new _ _ _ (rhC d)).slice rfl, fun a4 c4 z4 => NewR rhC 4 tHeldL y z4 a4 c4 (hs.take (j + 1)), fun a4 c4 z4 N4 => ⟨_, ?_, j + 1, by rw [wid (by omega) (by omega)]; omega, by omega, by omega, rfl, by rw [ht, List.length_append]; rfl, ?_, N4⟩, ?_⟩⟩⟩⟩
      · omega
      · intro r hr
        rw [ht] at hr
        rcases List.mem_append.1 hr with h1 | h1
        · exact hsz r h1
        · simp at h1
          rw [h1]; omega
      · rw [ht]
        exact append_row appTHeldL rhC_len rhC_plain (M := [d]) (N.upd (Sub.upd hk _)) rfl rfl (rowC_one _).symm (by rw [List.length_take]; simp; omega) fun a4 c4 z4 N4 => N4
  · rintro i b q r a l c y m ⟨j, x, L, rfl, hj, hjo, rfl, rfl, rfl, rfl, rfl, B⟩
    have fin : Both h y lb k t (-1) x L a c 30 := ⟨B.sub, B.tb0, B.led, B.ref, B.apart, fun d hd => by have := B.few d hd; omega, by have := B.len; omega⟩
    refine split_dec (fun g => split_dec (fun g2 => ?_) fun _ => ⟨x, L, rfl, rfl, rfl, rfl, fin⟩) fun _ => ⟨x, L, rfl, rfl, rfl, rfl, fin⟩
    have g : j < os.length := by have : (j : Int) < (os.length : Int) := g; omega
    have ho : os[j]? = some os[j] := List.getElem?_eq_getElem g
    generalize os[j] = o at ho
    obtain ⟨b1, o1, ea, c0, c1, c2, c3, c4⟩ := op_at hr B.sub ho
    have hb : (j : Int) < Int.ofNat os.length := by show (j : Int) < (os.length : Int); omega
    refine ⟨by omega, hb, b1, o1, ea, _, c0, _, c1, _, c2, _, c3, _, c4, light_spec o ⟨_, rfl, split_not (fun _ => live_ok B.sub) fun _ => ⟨by omega, hb, b1, o1, ea, _, c0, split_dec (fun _ => ⟨by omega, hb, b1, o1, ea, _, c0, _, c1, _, c2, _, c3, _, c4, ?_⟩) fun _ => ⟨_, ?_, j + 1, x, L, by rw [wid (by omega) (by omega)]; omega, by omega, by omega, rfl, rfl, rfl, rfl, rfl, B.more⟩⟩⟩⟩
    · refine B.step (by omega) o (hok o (List.mem_of_getElem? ho)) (by rw [roomy_free]) fun z L' a' c' B' O' => ⟨_, _, _, _, _, _, _, rfl, _, ?_, j + 1, _, L', by rw [wid (by omega) (by omega)]; omega, by omega, by omega, rfl, rfl, rfl, rfl, rfl, B'⟩
      omega
    · omega
end Go.Proofs.Ytlklpdedppgkfaa
