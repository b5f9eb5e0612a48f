/- Ledgers of several tenants in one table: LedgerApart over heaps. Conditions: none beyond the arguments' reading. -/
import Derived.Test.YtlklpdedppgkfaaL7
namespace Go.Proofs.Ytlklpdedppgkfaa
open Go.Gx
set_option maxRecDepth 100000
set_option linter.unusedVariables false
variable {h : Hp} {K : Value → Hp → Prop}
abbrev tPtrs : TypeId := 46
abbrev tRefs : TypeId := 47
def ptrC (o : Option Nat) : List Value := [.pointer (o.map fun b => ⟨b, 0, none⟩)]
theorem ptrC_len (o : Option Nat) : (ptrC o).length = 1 := rfl
abbrev Rz := Led × Option Addr × Nat
def refC (z : Rz) : List Value := [.bool z.1.is, .int .i64 z.1.quota, .int .i64 z.1.records, .slice z.2.1 z.1.l.length z.2.2]
theorem refC_len (z : Rz) : (refC z).length = 4 := rfl
structure Apart (h y : Hp) (k1 k2 k3 : Nat) (lbs : List Nat) (zs : List Rz) (L : List KV) (j : Nat) : Prop where
  sub : Sub h y
  n1 : h k1 = none
  n3 : h k3 = none
  ptrs : Blk y k2 tPtrs (rowC ptrC (lbs.map some))
  refs : Blk y k3 tRefs (rowC refC zs)
  l1 : lbs.length = 8
  l2 : zs.length = 8
  led : ∀ (i lb : Nat) (z : Rz), lbs[i]? = some lb → zs[i]? = some z → At y lb k1 (i + 1) (-1) z.1 L ∧ RefAt y z.1 z.2.1 z.2.2 ∧ (∀ b, blkOf z.2.1 b → b ≠ k1 ∧ b ≠ k3) ∧ ∀ d ∈ z.1.l, d.count < j + 1
  len : L.length ≤ 2 * j
variable {y : Hp} {k1 k2 k3 j : Nat} {lbs : List Nat} {zs : List Rz} {L : List KV}
theorem Apart.look {w : Hp} (A : Apart h y k1 k2 k3 lbs zs L j) (s : Sub y w) : Apart h w k1 k2 k3 lbs zs L j :=
  ⟨A.sub.trans s, A.n1, A.n3, A.ptrs.sub s, A.refs.sub s, A.l1, A.l2, fun i lb z h1 h2 => by obtain ⟨g1, g2, g3, g4⟩ := A.led i lb z h1 h2; exact ⟨g1.sub s, g2.sub s, g3, g4⟩, A.len⟩
theorem Apart.get (A : Apart h y k1 k2 k3 lbs zs L j) {i : Nat} (hi : i < 8) : ∃ lb z, lbs[i]? = some lb ∧ zs[i]? = some z ∧ y.cell k2 (0 + i * 1) = some (.pointer (some ⟨lb, 0, none⟩)) ∧
    y.cell k3 (0 + i * 4) = some (.bool z.1.is) ∧ y.cell k3 (0 + i * 4 + 1) = some (.int .i64 z.1.quota) ∧ y.cell k3 (0 + i * 4 + 2) = some (.int .i64 z.1.records) ∧ y.cell k3 (0 + i * 4 + 3) = some (.slice z.2.1 z.1.l.length z.2.2) := by
  have h1 : lbs[i]? = some (lbs[i]'(by rw [A.l1]; exact hi)) := List.getElem?_eq_getElem _
  have h2 : zs[i]? = some (zs[i]'(by rw [A.l2]; exact hi)) := List.getElem?_eq_getElem _
  generalize lbs[i]'(by rw [A.l1]; exact hi) = lb at h1
  generalize zs[i]'(by rw [A.l2]; exact hi) = z at h2
  have c1 : ∀ q v, (refC z)[q]? = some v → q < 4 → y.cell k3 (0 + i * 4 + q) = some v := fun q v hv hq => by
    rw [A.refs.cell, Nat.zero_add, rowC_get refC_len zs i z h2 q hq]; exact hv
  refine ⟨lb, z, h1, h2, ?_, c1 0 _ rfl (by decide), c1 1 _ rfl (by decide), c1 2 _ rfl (by decide), c1 3 _ rfl (by decide)⟩
  have h3 : (lbs.map some)[i]? = some (some lb) := by rw [List.getElem?_map, h1]; rfl
  rw [A.ptrs.cell, Nat.zero_add]
  have := rowC_get ptrC_len (lbs.map some) i (some lb) h3 0 (by decide)
  rw [Nat.add_zero] at this
  rw [this]; rfl
theorem at_keep {S : Nat → Prop} {w : Hp} {lb tb t : Nat} {full : Int} {x : Led} (A : At y lb tb t full x L) (k : Keep S y w) (hS : ∀ c t vs, S c → Blk y c t vs → t ≠ tTable ∧ t ≠ tPair ∧ t ≠ tLedger) : At w lb tb t full x L :=
  ⟨Blk.keep A.ld k fun hc => (hS _ _ _ hc A.ld).2.2 rfl, A.table.keep k fun c t vs hc hb => ⟨(hS c t vs hc hb).1, (hS c t vs hc hb).2.1⟩, A.has, A.t1, A.t2, A.len⟩
theorem ref_keep {S : Nat → Prop} {w : Hp} {x : Led} {a : Option Addr} {c : Nat} (R : RefAt y x a c) (k : Keep S y w) (hn : ∀ b, blkOf a b → ¬ S b) : RefAt w x a c := ⟨R.row.keep k hn, R.cap, R.ok, R.len⟩
theorem apart_core (oa : Option Addr) (oc : Nat) (os : List Op5) (hr : RowAt opC 5 h oa os) (hok : ∀ o ∈ os, o.ok) :
    CallsH Try.prog 5 #[.slice oa os.length oc] h fun v h' => v = .bool true ∧ Sub h h' := by
  apply law22_LedgerApart.calls
  unfold law22_LedgerApart.W
  intro k1 hk1 k2 hk2 k3 hk3
  have T0 := table_new hk1 (-1)
  generalize hX : h.upd k1 (.cells #[.slice none 0 0, .int .i64 (-1)] 30 (0, 0)) = X at T0
  have hX2 : h.upd k1 (.cells (setL [.slice none 0 0, .int .i64 0] 1 [.int .i64 (-1)]).toArray 30 (0, 0)) = X := hX
  rw [hX2] at hk2 hk3
  have s1 : Sub h X := by rw [← hX]; exact Sub.upd hk1 _
  have s2 := Sub.upd hk2 (.cells #[.pointer none, .pointer none, .pointer none, .pointer none, .pointer none, .pointer none, .pointer none, .pointer none] 46 (0, 0))
  have hz : Blk ((X.upd k2 (.cells #[.pointer none, .pointer none, .pointer none, .pointer none, .pointer none, .pointer none, .pointer none, .pointer none] 46 (0, 0)))) k2 tPtrs (rowC ptrC (List.replicate 8 none)) := Blk.new _ _ _ (rowC ptrC (List.replicate 8 none))
  generalize hY : X.upd k2 (.cells #[.pointer none, .pointer none, .pointer none, .pointer none, .pointer none, .pointer none, .pointer none, .pointer none] 46 (0, 0)) = Y at s2 hz hk3
  have s3 := Sub.upd hk3 (.cells #[.bool false, .int .i64 0, .int .i64 0, .slice none 0 0, .bool false, .int .i64 0, .int .i64 0, .slice none 0 0, .bool false, .int .i64 0, .int .i64 0, .slice none 0 0, .bool false, .int .i64 0, .int .i64 0, .slice none 0 0, .bool false, .int .i64 0, .int .i64 0, .slice none 0 0, .bool false, .int .i64 0, .int .i64 0, .slice none 0 0, .bool false, .int .i64 0, .int .i64 0, .slice none 0 0, .bool false, .int .i64 0, .int .i64 0, .slice none 0 0] 47 (0, 0))
  have hz3 : Blk (Y.upd k3 (.cells #[.bool false, .int .i64 0, .int .i64 0, .slice none 0 0, .bool false, .int .i64 0, .int .i64 0, .slice none 0 0, .bool false, .int .i64 0, .int .i64 0, .slice none 0 0, .bool false, .int .i64 0, .int .i64 0, .slice none 0 0, .bool false, .int .i64 0, .int .i64 0, .slice none 0 0, .bool false, .int .i64 0, .int .i64 0, .slice none 0 0, .bool false, .int .i64 0, .int .i64 0, .slice none 0 0, .bool false, .int .i64 0, .int .i64 0, .slice none 0 0] 47 (0, 0))) k3 tRefs (rowC refC (List.replicate 8 (led0, none, 0))) := Blk.new _ _ _ (rowC refC (List.replicate 8 (led0, none, 0)))
  generalize hZ : Y.upd k3 (.cells #[.bool false, .int .i64 0, .int .i64 0, .slice none 0 0, .bool false, .int .i64 0, .int .i64 0, .slice none 0 0, .bool false, .int .i64 0, .int .i64 0, .slice none 0 0, .bool false, .int .i64 0, .int .i64 0, .slice none 0 0, .bool false, .int .i64 0, .int .i64 0, .slice none 0 0, .bool false, .int .i64 0, .int .i64 0, .slice none 0 0, .bool false, .int .i64 0, .int .i64 0, .slice none 0 0, .bool false, .int .i64 0, .int .i64 0, .slice none 0 0] 47 (0, 0)) = Z at s3 hz3
  have hk2h : h k2 = none := s1.none hk2
  have hk3h : h k3 = none := (s1.trans s2).none hk3
  refine ⟨fun n y m => ∃ (i : Nat) (lbs : List Nat), n = (i : Int) ∧ i ≤ 8 ∧ m = 8 - i ∧ lbs.length = i ∧ Sub h y ∧ TableAt y k1 (-1) [] ∧ Blk y k2 tPtrs (rowC ptrC (lbs.map some ++ List.replicate (8 - i) none)) ∧ Blk y k3 tRefs (rowC refC (List.replicate 8 (led0, none, 0))) ∧ ∀ (q lb : Nat), lbs[q]? = some lb → At y lb k1 (q + 1) (-1) led0 [],
    ⟨_, 0, [], rfl, by decide, rfl, rfl, (s1.trans s2).trans s3, T0.sub (s2.trans s3), hz.sub s3, hz3, fun q lb h => by simp at h⟩, ?_⟩
  rintro n y m ⟨i, lbs, rfl, hi8, rfl, hlbs, sy, Ty, By, Cy, hled⟩
  refine split_dec (fun g => ?_) fun g => ?_
  · have g : i < 8 := by have : (i : Int) < 8 := g; omega
    have w1 : IntKind.i64.wrap ((i : Int) + 1) = ((i + 1 : Nat) : Int) := by rw [wid (by omega) (by omega)]; omega
    rw [w1]
    refine open_spec Ty ((i + 1 : Nat) : Int) List.Pairwise.nil (fun _ _ => rfl) (by decide) (fun e => absurd (by omega) e) fun t et t1 t2 lb w sw hlb A => ⟨_, _, rfl, by omega, by omega, ?_⟩
    have et : t = i + 1 := by omega
    subst et
    have By' := By.sub sw
    have hrow : (lbs.map some ++ List.replicate (8 - i) (none : Option Nat)).length = 8 := by simp; omega
    have hgi : (lbs.map some ++ List.replicate (8 - i) (none : Option Nat))[i]? = some none := by
      rw [List.getElem?_append_right (by simp; omega), List.length_map, hlbs, Nat.sub_self, List.getElem?_replicate, if_pos (by omega)]
    have hset : setL (rowC ptrC (lbs.map some ++ List.replicate (8 - i) none) ++ []) (i * 1 + 0) [.pointer (some ⟨lb, 0, none⟩)] = rowC ptrC ((lbs.map some ++ List.replicate (8 - i) none).set i (some lb)) ++ [] := setL_row ptrC_len hgi (by show 0 + 1 ≤ 1; decide) rfl
    have hsl : (lbs.map some ++ List.replicate (8 - i) (none : Option Nat)).set i (some lb) = (lbs ++ [lb]).map some ++ List.replicate (8 - (i + 1)) none := by
      rw [List.set_append_right _ _ (by simp; omega), List.length_map, hlbs, Nat.sub_self]
      obtain ⟨r, hr⟩ : ∃ r, 8 - i = r + 1 := ⟨8 - i - 1, by omega⟩
      rw [hr, List.replicate_succ, List.set_cons_zero, show 8 - (i + 1) = r by omega, List.map_append, List.append_assoc]; rfl
    rw [List.append_nil, List.append_nil, hsl] at hset
    have hst : StoreOk w k2 (0 + i * 1) 1 := by
      rw [Nat.zero_add]
      exact By'.store (by rw [rowC_length ptrC_len, hrow]; omega)
    have hput := By'.put (0 + i * 1) [.pointer (some ⟨lb, 0, none⟩)]
    have e0 : 0 + i * 1 = i * 1 + 0 := by omega
    have hset' : setL (rowC ptrC (lbs.map some ++ List.replicate (8 - i) none)) (0 + i * 1) [.pointer (some ⟨lb, 0, none⟩)] = rowC ptrC ((lbs ++ [lb]).map some ++ List.replicate (8 - (i + 1)) none) := by rw [e0]; exact hset
    rw [hset'] at hput
    have t0 : ((i : Nat) : Int).toNat = i := rfl
    rw [t0]
    have kput : Keep (fun b => b = k2) w (w.put k2 (0 + i * 1) [.pointer (some ⟨lb, 0, none⟩)]) := Keep.put _ _ _ _ rfl
    have hSk : ∀ c t vs, (fun b => b = k2) c → Blk w c t vs → t ≠ tTable ∧ t ≠ tPair ∧ t ≠ tLedger := by
      intro c t vs hc hb
      subst hc
      have := (hb.inj By').1
      subst this
      exact ⟨by decide, by decide, by decide⟩
    have hcell : (w.put k2 (0 + i * 1) [.pointer (some ⟨lb, 0, none⟩)]).cell k2 (0 + i * 1) = some (.pointer (some ⟨lb, 0, none⟩)) := by
      rw [hput.cell, Nat.zero_add]
      have h3 : ((lbs ++ [lb]).map some ++ List.replicate (8 - (i + 1)) (none : Option Nat))[i]? = some (some lb) := by
        rw [List.getElem?_append_left (by simp; omega), List.getElem?_map, List.getElem?_append_right (by omega), hlbs, Nat.sub_self]; rfl
      exact rowC_get ptrC_len _ i (some lb) h3 0 (by decide)
    refine ⟨hst, by omega, by omega, _, hcell, split_cond (fun e => by cases e) fun _ => ⟨_, ?_, i + 1, lbs ++ [lb], rfl, by omega, rfl, by simp [hlbs], ?_, A.table.keep kput fun c t vs hc hb => ⟨(hSk c t vs hc hb).1, (hSk c t vs hc hb).2.1⟩, hput, ?_, fun q lb' hq => ?_⟩⟩
    · omega
    · exact kput.sub (sy.trans sw) fun b hb => by rw [hb]; exact hk2h
    · exact (Cy.sub sw).keep kput (fun e => by
        have := ((Cy.sub sw).inj (by rw [e]; exact By')).1
        exact absurd this (by decide))
    · by_cases hql : q < lbs.length
      · rw [List.getElem?_append_left hql] at hq
        exact at_keep ((hled q lb' hq).sub sw) kput hSk
      · have hq2 := (List.getElem?_eq_some_iff.1 hq).1
        rw [List.length_append, List.length_singleton] at hq2
        obtain rfl : q = i := by omega
        rw [List.getElem?_append_right (by omega), hlbs, Nat.sub_self] at hq
        have hq : lb = lb' := by simpa using hq
        subst hq
        exact at_keep A kput hSk
  · have hi : i = 8 := by have : ¬ (i : Int) < 8 := g; omega
    subst hi
    rw [Nat.sub_self, List.replicate_zero, List.append_nil] at By
    have A0 : Apart h y k1 k2 k3 lbs (List.replicate 8 (led0, none, 0)) [] 0 := by
      refine ⟨sy, hk1, hk3h, By, Cy, hlbs, rfl, fun i lb z h1 h2 => ?_, Nat.le_refl _⟩
      have : z = (led0, none, 0) := List.eq_of_mem_replicate (List.mem_of_getElem? h2)
      subst this
      exact ⟨hled i lb h1, ref0 _, (fun b ⟨o, s, e⟩ => by cases e), fun d hd => by cases hd⟩
    refine ⟨fun n z m => ∃ (j : Nat) (zs : List Rz) (L : List KV), n = (j : Int) ∧ j ≤ 60 ∧ j ≤ os.length ∧ m = 60 - j ∧ Apart h z k1 k2 k3 lbs zs L j, ⟨_, 0, _, [], rfl, by decide, by omega, rfl, A0⟩, ?_⟩
    rintro n z m ⟨j, zs, L, rfl, hj, hjo, rfl, A⟩
    refine split_dec (fun g => split_dec (fun g2 => ?_) fun _ => live_ok A.sub) fun _ => live_ok A.sub
    have g : j < os.length := by have : (j : Int) < (os.length : Int) := g; omega
    have ho : os[j]? = some os[j] := List.getElem?_eq_getElem g
    generalize os[j] = o at ho
    obtain ⟨b1, o1, ea, c0, c1, c2, c3, c4⟩ := op_at hr A.sub ho
    have hb : (j : Int) < Int.ofNat os.length := by show (j : Int) < (os.length : Int); omega
    refine ⟨by omega, hb, b1, o1, ea, _, c0, _, c1, _, c2, _, c3, _, c4, by decide, fun n w => w = z ∧ ∃ q : Nat, n = (q : Int) ∧ q < 8, ?_, ?_⟩
    rotate_left
    · have h8 := Int.tmod_lt_of_pos o.who (show (0 : Int) < 8 by decide)
      have h9 : -8 < o.who.tmod 8 := by
        have := Int.lt_tmod_of_pos o.who (show (0 : Int) < 8 by decide)
        omega
      refine split_dec (fun e => ⟨rfl, (o.who.tmod 8 + 8).toNat, ?_, ?_⟩) fun e => ⟨rfl, (o.who.tmod 8).toNat, ?_, ?_⟩
      · rw [wid (by omega) (by omega)]; omega
      · omega
      · omega
      · omega
    rintro n w ⟨rfl, q, rfl, hq⟩
    refine light_spec o ⟨_, rfl, split_not (fun _ => live_ok A.sub) fun _ => ?_⟩
    obtain ⟨lb, r, hlb, hrz, p0, r0, r1, r2, r3⟩ := A.get hq
    obtain ⟨Aq, Rq, hn, hfew⟩ := A.led q lb r hlb hrz
    have hlen := A.len
    have tq : ((q : Nat) : Int).toNat = q := rfl
    rw [tq]
    refine ⟨by omega, by omega, _, p0, by omega, by omega, _, r0, _, r1, _, r2, _, _, _, r3, ?_⟩
    have tin := table_in Aq
    refine step_spec (K := fun v43 h44 => ∃ (b45 : Bool) (n46 n47 : Int) (a48 : Option Addr) (k49 k50 : Nat) (b51 : Bool), v43 = .tuple #[.agg #[.bool b45, .int .i64 n46, .int .i64 n47, .slice a48 k49 k50], .bool b51] ∧ _) Aq Rq (by omega) (fun d hd => by have := hfew d hd; omega) (fun b hb => (hn b hb).1) o.kind o.n o.who o.sum o.i (hok o (List.mem_of_getElem? ho)) (by rw [roomy_free]) fun y2 L' a' c' k' A' O' hl' R' hn' => ⟨_, _, _, _, _, _, _, rfl, by omega, by omega, ?_⟩
    have hcounts := counts_step Aq.has.ok hfew (by omega) o.kind o.n o.sum o.i true
    generalize (r.1.step o.kind o.n o.sum o.i true).1 = x' at A' R' hcounts ⊢
    have k13 : k3 ≠ k1 := fun e => by
      obtain ⟨_, _, h1, _⟩ := Aq.table
      have := (A.refs.inj (by rw [e]; exact h1)).1
      exact absurd this (by decide)
    have k12 : k2 ≠ k1 := fun e => by
      obtain ⟨_, _, h1, _⟩ := Aq.table
      have := (A.ptrs.inj (by rw [e]; exact h1)).1
      exact absurd this (by decide)
    have refs2 : Blk y2 k3 tRefs (rowC refC zs) := A.refs.keep k' k13
    have ptrs2 : Blk y2 k2 tPtrs (rowC ptrC (lbs.map some)) := A.ptrs.keep k' k12
    have hset : setL (rowC refC zs ++ []) (q * 4 + 0) (refC (x', a', c')) = rowC refC (zs.set q (x', a', c')) ++ [] := setL_row refC_len hrz (by show 0 + 4 ≤ 4; decide) rfl
    rw [List.append_nil, List.append_nil] at hset
    have hst : StoreOk y2 k3 (0 + q * 4) 4 := by
      rw [Nat.zero_add]
      exact refs2.store (by rw [rowC_length refC_len, A.l2]; omega)
    have hput := refs2.put (0 + q * 4) (refC (x', a', c'))
    have e0 : 0 + q * 4 = q * 4 + 0 := by omega
    have hset' : setL (rowC refC zs) (0 + q * 4) (refC (x', a', c')) = rowC refC (zs.set q (x', a', c')) := by rw [e0]; exact hset
    rw [hset'] at hput
    have kput : Keep (fun b => b = k3) y2 (y2.put k3 (0 + q * 4) (refC (x', a', c'))) := Keep.put _ _ _ _ rfl
    have hSk : ∀ c t vs, (fun b => b = k3) c → Blk y2 c t vs → t ≠ tTable ∧ t ≠ tPair ∧ t ≠ tLedger := by
      intro c t vs hc hb
      subst hc
      have := (hb.inj refs2).1
      subst this
      exact ⟨by decide, by decide, by decide⟩
    have in3 : w k3 ≠ none := by rw [A.refs.get]; simp
    have A2 : Apart h (y2.put k3 (0 + q * 4) (refC (x', a', c'))) k1 k2 k3 lbs (zs.set q (x', a', c')) L' (j + 1) := by
      refine ⟨?_, A.n1, A.n3, ptrs2.keep kput (fun e => ?_), hput, A.l1, by rw [List.length_set]; exact A.l2, fun i lb' z' h1 h2 => ?_, by omega⟩
      · exact kput.sub (k'.sub A.sub fun b hb => by rw [hb]; exact A.n1) fun b hb => by rw [hb]; exact A.n3
      · have := (refs2.inj (by rw [← e]; exact ptrs2)).1
        exact absurd this (by decide)
      · by_cases hiq : i = q
        · subst hiq
          rw [List.getElem?_set_self (by rw [A.l2]; exact hq)] at h2
          cases h2
          rw [hlb] at h1
          cases h1
          have hn2 : ∀ b, blkOf a' b → b ≠ k1 ∧ b ≠ k3 := fun b hb => by
            rcases hn' b hb with h3 | h3
            · exact hn b h3
            · exact ⟨fun e => tin (by rw [← e]; exact h3), fun e => in3 (by rw [← e]; exact h3)⟩
          exact ⟨at_keep A' kput hSk, ref_keep R' kput fun b hb e => (hn2 b hb).2 e, hn2, hcounts⟩
        · rw [List.getElem?_set_ne (fun e => hiq e.symm)] at h2
          obtain ⟨g1, g2, g3, g4⟩ := A.led i lb' z' h1 h2
          have hi8 : i < 8 := by have := (List.getElem?_eq_some_iff.1 h1).1; rw [A.l1] at this; exact this
          have gA : At y2 lb' k1 (i + 1) (-1) z'.1 L' := ⟨g1.ld.keep g1.table k', A'.table, g1.has.other O' (by omega) (by omega) (by omega), g1.t1, g1.t2, A'.len⟩
          have gR : RefAt y2 z'.1 z'.2.1 z'.2.2 := g2.keep k' fun b hb => (g3 b hb).1
          exact ⟨at_keep gA kput hSk, ref_keep gR kput fun b hb e => (g3 b hb).2 e, g3, fun d hd => by have := g4 d hd; omega⟩
    refine ⟨hst, split_not (fun e => by cases e) fun _ => ?_⟩
    refine ⟨fun n v m => ∃ p : Nat, n = (p : Int) ∧ p ≤ 8 ∧ m = 8 - p ∧ Apart h v k1 k2 k3 lbs (zs.set q (x', a', c')) L' (j + 1), ⟨_, 0, rfl, by decide, rfl, A2⟩, ?_⟩
    rintro n v m ⟨p, rfl, hp, rfl, Av⟩
    refine split_dec (fun g5 => ?_) fun g5 => ⟨_, ?_, j + 1, _, L', by rw [wid (by omega) (by omega)]; omega, by omega, by omega, rfl, Av⟩
    · have g5 : p < 8 := by have : (p : Int) < 8 := g5; omega
      obtain ⟨lb2, z2, hlb2, hz2, q0, u0, u1, u2, u3⟩ := Av.get g5
      obtain ⟨Ap, Rp, hnp, hfp⟩ := Av.led p lb2 z2 hlb2 hz2
      have hlen2 := Av.len
      have tp : ((p : Nat) : Int).toNat = p := rfl
      rw [tp]
      refine ⟨by omega, by omega, _, q0, by omega, by omega, _, u0, _, u1, _, u2, _, _, _, u3, alike_spec Ap Rp (by omega) (fun d hd => by have := hfp d hd; omega) _ _ fun v2 sv => ⟨_, rfl, split_not (fun e => by cases e) fun _ => ⟨_, ?_, p + 1, by rw [wid (by omega) (by omega)]; omega, by omega, rfl, Av.look sv⟩⟩⟩
      omega
    · omega
end Go.Proofs.Ytlklpdedppgkfaa
