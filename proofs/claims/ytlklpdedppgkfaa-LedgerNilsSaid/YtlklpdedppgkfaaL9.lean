/- What adding contents would cost, and does: LedgerCosts over heaps. Conditions: none beyond the arguments' reading. -/
import Derived.Test.YtlklpdedppgkfaaFX
import Derived.Test.YtlklpdedppgkfaaL6
import Derived.Test.YtlklpdedppgkfaaGxK
namespace Go.Proofs.Ytlklpdedppgkfaa
open Go.Gx
set_option maxRecDepth 100000
set_option linter.unusedVariables false
variable {h : Hp} {lb tb t : Nat} {full : Int} {L : List KV} {x : Led} {K : Value → Hp → Prop} {a : Option Addr} {c : Nat}
structure Rh where
  sum : ByteArray
  n : Int
  count : Int
  size : Int
def rhC (r : Rh) : List Value := [.string r.sum, .int .i64 r.n, .int .i64 r.count, .int .i64 r.size]
theorem rhC_len (r : Rh) : (rhC r).length = 4 := rfl
theorem rhC_plain (r : Rh) : plainP (rhC r) := plainP_of rfl
abbrev Rid := ByteArray × Int
def Rh.id (r : Rh) : Rid := (r.sum, r.n)
def ridV (p : Rid) : Value := .agg #[.string p.1, .int .i64 p.2]
theorem ridV_inj {p q : Rid} : ridV p = ridV q ↔ p = q := by
  unfold ridV
  constructor
  · intro h
    simp at h
    exact Prod.ext h.1 h.2
  · rintro rfl; rfl
noncomputable section
open Classical in
def termC (x : Led) (rs : List Rh) (j : Nat) : Int :=
  match rs[j]? with
  | some r => if (∀ q ∈ rs.take j, q.id ≠ r.id) ∧ atH x.l r.sum r.n = none ∧ 0 < r.size then r.size else 0
  | none => 0
def costN (x : Led) (rs : List Rh) : Nat → Int
  | 0 => 0
  | j + 1 => costN x rs j + termC x rs j
end
theorem termC_pos {rs : List Rh} {j : Nat} {r : Rh} (hr : rs[j]? = some r) (h : (∀ q ∈ rs.take j, q.id ≠ r.id) ∧ atH x.l r.sum r.n = none ∧ 0 < r.size) : termC x rs j = r.size := by
  unfold termC
  rw [hr]
  exact if_pos h
theorem termC_neg {rs : List Rh} {j : Nat} {r : Rh} (hr : rs[j]? = some r) (h : ¬ ((∀ q ∈ rs.take j, q.id ≠ r.id) ∧ atH x.l r.sum r.n = none ∧ 0 < r.size)) : termC x rs j = 0 := by
  unfold termC
  rw [hr]
  exact if_neg h
theorem termC_bound {rs : List Rh} (hs : ∀ r ∈ rs, r.size ≤ 1000) (j : Nat) : 0 ≤ termC x rs j ∧ termC x rs j ≤ 1000 := by
  cases hr : rs[j]? with
  | none => unfold termC; rw [hr]; show (0 : Int) ≤ 0 ∧ (0 : Int) ≤ 1000; decide
  | some r =>
    by_cases h : (∀ q ∈ rs.take j, q.id ≠ r.id) ∧ atH x.l r.sum r.n = none ∧ 0 < r.size
    · rw [termC_pos hr h]
      have := hs r (List.mem_of_getElem? hr)
      have := h.2.2
      omega
    · rw [termC_neg hr h]; decide
theorem costN_bound {rs : List Rh} (hs : ∀ r ∈ rs, r.size ≤ 1000) : ∀ j, 0 ≤ costN x rs j ∧ costN x rs j ≤ 1000 * j
  | 0 => by unfold costN; omega
  | j + 1 => by
    have h1 := costN_bound hs j
    have h2 := termC_bound (x := x) hs j
    unfold costN
    omega
theorem ids_snoc {rs : List Rh} {j : Nat} {r : Rh} (hr : rs[j]? = some r) (p : Rid) : (∀ q ∈ rs.take (j + 1), q.id ≠ p) ↔ (∀ q ∈ rs.take j, q.id ≠ p) ∧ r.id ≠ p := by
  rw [List.take_add_one, hr]
  constructor
  · intro h
    exact ⟨fun q hq => h q (List.mem_append_left _ hq), h r (List.mem_append_right _ (by simp))⟩
  · rintro ⟨h1, h2⟩ q hq
    rcases List.mem_append.1 hq with hq | hq
    · exact h1 q hq
    · simp at hq
      rw [hq]; exact h2
theorem count_zero (ok : LedOk x) (sum : ByteArray) (n : Int) : ((((atH x.l sum n).map Hd.count).getD 0 : Nat) : Int) = 0 ↔ atH x.l sum n = none := by
  cases hf : atH x.l sum n with
  | none => simp
  | some d =>
    have := ok.count d (atH_mem hf).1
    simp; omega
theorem cost_spec (A : At h lb tb t full x L) (hc : ∀ d ∈ x.l, d.count < 9223372036854775808) {rs : List Rh} (H : RowAt rhC 4 h a rs) (hl : rs.length ≤ 100) (hs : ∀ r ∈ rs, r.size ≤ 1000) (hK : ∀ h', Sub h h' → K (.int .i64 (costN x rs rs.length)) h') :
    CallsH Try.prog ledger_Ledger_Cost.id #[.pointer (some ⟨lb, 0, none⟩), .slice a rs.length c] h K := by
  apply ledger_Ledger_Cost.calls
  unfold ledger_Ledger_Cost.W
  intro k hk o ho
  refine ⟨fun n i y m => ∃ (j : Nat) (o : Obj) (mm : List (Value × Value)), i = (j : Int) ∧ j ≤ rs.length ∧ m = rs.length - j ∧ n = costN x rs j ∧ Sub h y ∧ y k = some o ∧ MapObj Try.prog 38 o mm ∧ ∀ p : Rid, ((∀ q ∈ rs.take j, q.id ≠ p) → mget mm (ridV p) = none) ∧ (¬ (∀ q ∈ rs.take j, q.id ≠ p) → mget mm (ridV p) = some (.bool true)),
    ⟨_, 0, o, [], rfl, by omega, rfl, rfl, Sub.upd hk _, Hp.upd_same _ _ _, ho, fun p => ⟨fun _ => mget_nil _, fun e => absurd (fun q hq => by simp at hq) e⟩⟩, ?_⟩
  rintro n i y m ⟨j, o1, mm, rfl, hj, rfl, rfl, sy, hyk, M, hm⟩
  refine split_dec (fun g => ?_) (fun g => ?_)
  · have g : j < rs.length := by have : (j : Int) < (rs.length : Int) := g; omega
    have hr : rs[j]? = some rs[j] := List.getElem?_eq_getElem g
    generalize rs[j] = r at hr
    obtain ⟨b, p, ea, hcell⟩ := (H.sub sy).get rhC_len (by decide) hr
    have hcb := costN_bound (x := x) hs j
    have hts := hs r (List.mem_of_getElem? hr)
    have nextm : ∀ (y2 : Hp) (mm2 : List (Value × Value)) (o3 : Obj), mm2 = mset mm (ridV r.id) (.bool true) → MapObj Try.prog 38 o3 mm2 → (∀ p : Rid, ((∀ q ∈ rs.take (j + 1), q.id ≠ p) → mget mm2 (ridV p) = none) ∧ (¬ (∀ q ∈ rs.take (j + 1), q.id ≠ p) → mget mm2 (ridV p) = some (.bool true))) := by
      rintro y2 mm2 o3 rfl _ p
      have h1 := mget_mset mm (ridV r.id) (.bool true) (ridV p)
      rw [ids_snoc hr]
      by_cases e : ridV p = ridV r.id
      · have e' := ridV_inj.1 e
        refine ⟨fun h2 => absurd e'.symm h2.2, fun _ => h1.1 e⟩
      · rw [h1.2 e]
        have e' : r.id ≠ p := fun e2 => e (by rw [e2])
        refine ⟨fun h2 => (hm p).1 h2.1, fun h2 => (hm p).2 fun h3 => h2 ⟨h3, e'⟩⟩
    refine ⟨by omega, by show (j : Int) < (rs.length : Int); omega, b, p, ea, _, hcell 0 _ rfl, _, hcell 1 _ rfl, _, hcell 2 _ rfl, _, hcell 3 _ rfl, k, o1, mm, rfl, hyk, M, ?_⟩
    by_cases hseen : ∀ q ∈ rs.take j, q.id ≠ r.id
    · refine ⟨false, false, .inr ⟨rfl, (hm r.id).1 hseen, rfl⟩, split_not (fun _ => ?_) fun e => by cases e⟩
      refine countL_spec (A.sub sy) hc _ _ fun y2 s2 => ⟨_, rfl, ?_⟩
      have sy2 : Sub h y2 := sy.trans s2
      have hyk2 := s2 _ _ hyk
      refine split_eq (fun e => ⟨k, o1, mm, rfl, hyk2, M, fun o3 M3 => ⟨_, ?_, j + 1, o3, _, by rw [wid (by omega) (by omega)]; omega, by omega, rfl, ?_, sy2.own hk o3, Hp.upd_same _ _ _, M3, nextm y2 _ o3 rfl M3⟩⟩) fun e => ⟨k, o1, mm, rfl, hyk2, M, fun o3 M3 => ⟨_, ?_, j + 1, o3, _, by rw [wid (by omega) (by omega)]; omega, by omega, rfl, ?_, sy2.own hk o3, Hp.upd_same _ _ _, M3, nextm y2 _ o3 rfl M3⟩⟩
      · omega
      · have e := (count_zero A.has.ok _ _).1 e
        show IntKind.i64.wrap (costN x rs j + if 0 > r.size then 0 else r.size) = costN x rs j + termC x rs j
        by_cases hp : 0 < r.size
        · rw [termC_pos hr ⟨hseen, e, hp⟩, if_neg (by omega), wid (by omega) (by omega)]
        · rw [termC_neg hr (fun h => hp h.2.2)]
          by_cases h0 : 0 > r.size
          · rw [if_pos h0, wid (by omega) (by omega)]
          · rw [if_neg h0, wid (by omega) (by omega)]; omega
      · omega
      · have e := fun h => e ((count_zero A.has.ok _ _).2 h)
        show costN x rs j = costN x rs j + termC x rs j
        rw [termC_neg hr (fun h => e h.2.1)]; omega
    · refine ⟨true, true, .inl ⟨rfl, (hm r.id).2 hseen⟩, split_not (fun e => by cases e) fun _ => ⟨k, o1, mm, rfl, hyk, M, fun o3 M3 => ⟨_, ?_, j + 1, o3, _, by rw [wid (by omega) (by omega)]; omega, by omega, rfl, ?_, sy.own hk o3, Hp.upd_same _ _ _, M3, nextm y _ o3 rfl M3⟩⟩⟩
      · omega
      · show costN x rs j = costN x rs j + termC x rs j
        rw [termC_neg hr (fun h => hseen h.1)]; omega
  · have : j = rs.length := by
      have : ¬ (j : Int) < (rs.length : Int) := g
      omega
    subst this
    exact hK y sy
theorem costR_spec {ra : Option Addr} {rc : Nat} (R : RefAt h x ra rc) {rs : List Rh} (H : RowAt rhC 4 h a rs) (hl : rs.length ≤ 100) (hs : ∀ r ∈ rs, r.size ≤ 1000) (hK : K (.int .i64 (costN x rs rs.length)) h) :
    CallsH Try.prog ref22_Cost.id #[refV x ra rc, .slice a rs.length c] h K := by
  apply ref22_Cost.calls
  unfold ref22_Cost.W
  refine ⟨fun n i y m => y = h ∧ ∃ j : Nat, i = (j : Int) ∧ j ≤ rs.length ∧ m = rs.length - j ∧ n = costN x rs j, ⟨_, rfl, 0, rfl, by omega, rfl, rfl⟩, ?_⟩
  rintro n i y m ⟨rfl, j, rfl, hj, rfl, rfl⟩
  refine split_dec (fun g => ?_) (fun g => ?_)
  · have g : j < rs.length := by have : (j : Int) < (rs.length : Int) := g; omega
    have hr : rs[j]? = some rs[j] := List.getElem?_eq_getElem g
    generalize rs[j] = r at hr
    obtain ⟨b, p, ea, hcell⟩ := H.get rhC_len (by decide) hr
    have hcb := costN_bound (x := x) hs j
    have hts := hs r (List.mem_of_getElem? hr)
    have hjl : (j : Int) < Int.ofNat rs.length := by show (j : Int) < (rs.length : Int); omega
    have hrl := R.len
    refine ⟨by omega, hjl, b, p, ea, _, hcell 0 _ rfl, _, hcell 1 _ rfl, at_spec R.row (by omega) _ _ ⟨_, rfl, ?_⟩⟩
    have hat : hb (decide (atV x.l r.sum r.n < 0)) = (atH x.l r.sum r.n).isNone := by
      rw [hb_eq]
      cases hf : atH x.l r.sum r.n with
      | none => rw [atV_none hf]; rfl
      | some d => rw [(atV_some hf).1]; exact decide_eq_false (by omega)
    refine ⟨fun f i z m => z = y ∧ ∃ q : Nat, i = (q : Int) ∧ q ≤ j ∧ m = j - q ∧ (f = true ↔ (atH x.l r.sum r.n = none ∧ ∀ s ∈ rs.take q, s.id ≠ r.id)), ⟨_, rfl, 0, rfl, by omega, rfl, ?_⟩, ?_⟩
    · show hb (decide (atV x.l r.sum r.n < 0)) = true ↔ _
      rw [hat, Option.isNone_iff_eq_none]
      exact ⟨fun e => ⟨e, fun s hs => by simp at hs⟩, fun e => e.1⟩
    rintro f i z m ⟨rfl, q, rfl, hq, rfl, hf⟩
    refine split_dec (fun g2 => ?_) fun g2 => ?_
    · have g2 : q < j := by omega
      have hr2 : rs[q]? = some (rs[q]'(by omega)) := List.getElem?_eq_getElem (by omega)
      generalize rs[q]'(by omega) = s at hr2
      obtain ⟨b2, p2, ea2, hc2⟩ := H.get rhC_len (by decide) hr2
      refine split_cond (fun e => ?_) fun e => ⟨_, ?_, rfl, q + 1, by rw [wid (by omega) (by omega)]; omega, by omega, rfl, ?_⟩
      · have e := hf.1 e
        refine ⟨by omega, by show (q : Int) < (rs.length : Int); omega, b2, p2, ea2, _, hc2 0 _ rfl, _, hc2 1 _ rfl, by omega, hjl, b, p, ea, _, hcell 0 _ rfl, _, hcell 1 _ rfl, _, ?_, rfl, q + 1, by rw [wid (by omega) (by omega)]; omega, by omega, rfl, ?_⟩
        · omega
        · rw [idEq, ids_snoc hr2]
          have : (!decide ((s.sum, s.n) = (r.sum, r.n))) = true ↔ s.id ≠ r.id := by
            rw [Bool.not_eq_true', decide_eq_false_iff_not]; rfl
          rw [this]
          exact ⟨fun h2 => ⟨e.1, e.2, h2⟩, fun h2 => h2.2.2⟩
      · omega
      · rw [ids_snoc hr2]
        refine ⟨fun h2 => (by cases h2), fun h2 => ?_⟩
        rw [hf.2 ⟨h2.1, h2.2.1⟩] at e; cases e
    · have : q = j := by omega
      subst this
      refine split_cond (fun e => ?_) fun e => ⟨_, ?_, rfl, q + 1, by rw [wid (by omega) (by omega)]; omega, by omega, rfl, ?_⟩
      · have e := hf.1 e
        refine ⟨by omega, hjl, b, p, ea, _, hcell 3 _ rfl, split_dec (fun hp => ⟨by omega, hjl, b, p, ea, _, hcell 3 _ rfl, _, ?_, rfl, q + 1, by rw [wid (by omega) (by omega)]; omega, by omega, rfl, ?_⟩) fun hp => ⟨_, ?_, rfl, q + 1, by rw [wid (by omega) (by omega)]; omega, by omega, rfl, ?_⟩⟩
        · omega
        · show IntKind.i64.wrap (costN x rs q + r.size) = costN x rs q + termC x rs q
          rw [termC_pos hr ⟨e.2, e.1, hp⟩, wid (by omega) (by omega)]
        · omega
        · show costN x rs q = costN x rs q + termC x rs q
          rw [termC_neg hr (fun h => hp h.2.2)]; omega
      · omega
      · show costN x rs q = costN x rs q + termC x rs q
        rw [termC_neg hr (fun h => by rw [hf.2 ⟨h.2.1, h.1⟩] at e; cases e)]; omega
  · have : j = rs.length := by
      have : ¬ (j : Int) < (rs.length : Int) := g
      omega
    subst this
    exact hK
theorem theirsR_spec {rs : List Rh} (H : RowAt rhC 4 h a rs) (hl : rs.length < 1000000) (hK : ∀ h' a c, NewR rhC 4 tHeld h h' a c rs → K (.slice a rs.length c) h') : CallsH Try.prog law22_theirs.id #[.slice a rs.length c] h K := by
  apply law22_theirs.calls
  unfold law22_theirs.W
  refine ⟨fun a' l' c' i z m => ∃ j : Nat, i = (j : Int) ∧ j ≤ rs.length ∧ m = rs.length - j ∧ l' = (rs.take j).length ∧ NewR rhC 4 tHeld h z a' c' (rs.take j), ⟨_, 0, rfl, by omega, rfl, rfl, NewR.nil _ _⟩, ?_⟩
  rintro a' l' c' i z m ⟨j, rfl, hj, rfl, rfl, Nz⟩
  refine split_dec (fun g => ?_) (fun g => ?_)
  · have g1 : j < rs.length := by have : (j : Int) < (rs.length : Int) := g; omega
    have hd : rs[j]? = some rs[j] := List.getElem?_eq_getElem g1
    generalize rs[j] = d at hd
    have ht : rs.take (j + 1) = rs.take j ++ [d] := by rw [List.take_add_one, hd]; rfl
    obtain ⟨b, o, ea, hc⟩ := (H.sub Nz.sub).get rhC_len (by decide) hd
    have hb : (j : Int) < Int.ofNat rs.length := by show (j : Int) < (rs.length : Int); omega
    refine ⟨by omega, hb, b, o, ea, _, hc 0 _ rfl, _, hc 1 _ rfl, by omega, hb, b, o, ea, _, hc 2 _ rfl, by omega, hb, b, o, ea, _, hc 3 _ rfl, fun k hk => ⟨rhC d, (Blk.new _ _ _ (rhC d)).slice rfl, fun a4 c4 z4 => NewR rhC 4 tHeld h z4 a4 c4 (rs.take (j + 1)), fun a4 c4 z4 N4 => ⟨_, ?_, j + 1, by rw [wid (by omega) (by omega)]; omega, by omega, rfl, by rw [ht, List.length_append]; rfl, N4⟩, ?_⟩⟩
    · omega
    · rw [ht]
      exact append_row appTHeld rhC_len rhC_plain (M := [d]) (Nz.upd (Sub.upd hk _)) rfl rfl (rowC_one _).symm (by rw [List.length_take]; simp; omega) fun a4 c4 z4 N4 => N4
  · have : j = rs.length := by
      have : ¬ (j : Int) < (rs.length : Int) := g
      omega
    subst this
    rw [List.take_length] at Nz ⊢
    exact hK z a' c' Nz

/-! ### what it costs then -/
theorem atH_set (ok : LedOk x) {i : Nat} {d : Hd} (hd : x.l[i]? = some d) (cn : Nat) (sum : ByteArray) (n : Int) (ok' : LedOk (x.set i cn)) : atH (x.set i cn).l sum n = none ↔ atH x.l sum n = none := by
  have key : ∀ {l m : List Hd}, hdSorted m → (∀ e ∈ l, ∃ f ∈ m, f.id = e.id) → atH m sum n = none → atH l sum n = none := by
    intro l m hs hlm hm
    cases he : atH l sum n with
    | none => rfl
    | some e =>
      exfalso
      obtain ⟨g1, g2, g3⟩ := atH_mem he
      obtain ⟨f, hf, e2⟩ := hlm e g1
      have := atH_some hs hf
      have es : f.sum = sum := (congrArg Prod.fst e2).trans g2
      have en : (f.n : Int) = n := by have := congrArg Prod.snd e2; unfold Hd.id at this; simp at this; omega
      rw [es, en, hm] at this; cases this
  constructor
  · refine key ok'.sorted fun e he => ?_
    by_cases heq : e.id = d.id
    · exact ⟨{ d with count := cn }, (setH_mem ok.sorted hd cn _).2 (.inl rfl), heq.symm⟩
    · exact ⟨e, (setH_mem ok.sorted hd cn _).2 (.inr ⟨he, heq⟩), rfl⟩
  · refine key ok.sorted fun e he => ?_
    rcases (setH_mem ok.sorted hd cn e).1 he with rfl | ⟨g1, _⟩
    · exact ⟨d, List.mem_of_getElem? hd, rfl⟩
    · exact ⟨e, g1, rfl⟩
theorem atH_ins (ok : LedOk x) {d : Hd} (ok' : LedOk (x.ins d)) (hno : ∀ e ∈ x.l, e.id ≠ d.id) (sum : ByteArray) (n : Int) : atH (x.ins d).l sum n = none ↔ atH x.l sum n = none ∧ ((d.sum, (d.n : Int)) ≠ (sum, n)) := by
  constructor
  · intro h
    constructor
    · cases he : atH x.l sum n with
      | none => rfl
      | some e =>
        exfalso
        obtain ⟨g1, g2, g3⟩ := atH_mem he
        have := atH_some ok'.sorted ((insH_mem d x.l e).2 (.inr g1))
        rw [g2, g3] at this
        exact absurd (h.symm.trans this) (by simp)
    · intro e
      have := atH_some ok'.sorted ((insH_mem d x.l d).2 (.inl rfl))
      have e1 : d.sum = sum := congrArg Prod.fst e
      have e2 : (d.n : Int) = n := congrArg Prod.snd e
      rw [e1, e2] at this
      exact absurd (h.symm.trans this) (by simp)
  · rintro ⟨h1, h2⟩
    cases he : atH (x.ins d).l sum n with
    | none => rfl
    | some e =>
      exfalso
      obtain ⟨g1, g2, g3⟩ := atH_mem he
      rcases (insH_mem d x.l e).1 g1 with rfl | g1
      · exact h2 (by rw [g2, g3])
      · have := atH_some ok.sorted g1
        rw [g2, g3, h1] at this; cases this
/-- One content that is added. -/
theorem add_cost (ok : LedOk x) (r : Rh) (hadd : (x.add r.sum r.n r.size true).2 = 0) :
    (((x.add r.sum r.n r.size true).1.used : Nat) : Int) = x.used + (if atH x.l r.sum r.n = none ∧ 0 < r.size then r.size else 0) ∧ ∀ sum n, atH (x.add r.sum r.n r.size true).1.l sum n = none ↔ (atH x.l sum n = none ∧ r.id ≠ (sum, n)) := by
  unfold Led.add at hadd ⊢
  by_cases his : x.is = false
  · rw [if_pos his] at hadd; cases hadd
  rw [if_neg his] at hadd ⊢
  by_cases hm : mayI r.sum r.n = false ∨ r.size < 0 ∨ r.size > 128
  · rw [if_pos hm] at hadd; cases hadd
  rw [if_neg hm] at hadd ⊢
  have hmay : mayI r.sum r.n = true := by
    cases h : mayI r.sum r.n with
    | true => rfl
    | false => exact absurd (.inl h) hm
  have hmay := of_decide_eq_true hmay
  cases hf : atH x.l r.sum r.n with
  | some d =>
    rw [hf] at hadd
    have hadd : (if (d.size : Int) ≠ r.size then (x, (8 : Int)) else (x.set (ixH x.l r.sum r.n) (d.count + 1), 0)).2 = 0 := hadd
    by_cases hsz : (d.size : Int) ≠ r.size
    · rw [if_pos hsz] at hadd; cases hadd
    have e : (if (d.size : Int) ≠ r.size then (x, (8 : Int)) else (x.set (ixH x.l r.sum r.n) (d.count + 1), 0)) = (x.set (ixH x.l r.sum r.n) (d.count + 1), 0) := if_neg hsz
    show (((if (d.size : Int) ≠ r.size then (x, (8 : Int)) else (x.set (ixH x.l r.sum r.n) (d.count + 1), 0)).1.used : Nat) : Int) = _ ∧ ∀ sum n, atH (if (d.size : Int) ≠ r.size then (x, (8 : Int)) else (x.set (ixH x.l r.sum r.n) (d.count + 1), 0)).1.l sum n = none ↔ _
    rw [e]
    have hix := atH_ix hf
    have ok' := ok.set hix (c := d.count + 1) (by omega)
    refine ⟨?_, fun sum n => ?_⟩
    · rw [if_neg (fun h => by cases h.1)]
      show ((sizesH (setH x.l _ _) + 64 * x.records : Nat) : Int) = ((sizesH x.l + 64 * x.records : Nat) : Int) + 0
      rw [(setH_sizes hix _).1]; omega
    · rw [atH_set ok hix _ sum n ok']
      refine ⟨fun h => ⟨h, fun e2 => ?_⟩, fun h => h.1⟩
      have e3 : r.sum = sum := congrArg Prod.fst e2
      have e4 : r.n = n := congrArg Prod.snd e2
      rw [← e3, ← e4, hf] at h; cases h
  | none =>
    rw [hf] at hadd
    have hadd : (if (x.used : Int) + r.size > x.quota then (x, (5 : Int)) else (x.ins ⟨r.sum, r.n.toNat, 1, r.size.toNat⟩, 0)).2 = 0 := hadd
    by_cases hq : (x.used : Int) + r.size > x.quota
    · rw [if_pos hq] at hadd; cases hadd
    have e : (if (x.used : Int) + r.size > x.quota then (x, (5 : Int)) else (x.ins ⟨r.sum, r.n.toNat, 1, r.size.toNat⟩, 0)) = (x.ins ⟨r.sum, r.n.toNat, 1, r.size.toNat⟩, 0) := if_neg hq
    show (((if (x.used : Int) + r.size > x.quota then (x, (5 : Int)) else (x.ins ⟨r.sum, r.n.toNat, 1, r.size.toNat⟩, 0)).1.used : Nat) : Int) = _ ∧ ∀ sum n, atH (if (x.used : Int) + r.size > x.quota then (x, (5 : Int)) else (x.ins ⟨r.sum, r.n.toNat, 1, r.size.toNat⟩, 0)).1.l sum n = none ↔ _
    rw [e]
    have en : ((r.n.toNat : Nat) : Int) = r.n := by omega
    have hs0 : 0 ≤ r.size := by
      rcases Int.lt_or_le r.size 0 with h | h
      · exact absurd (.inr (.inl h)) hm
      · exact h
    have hs1 : r.size ≤ 128 := by
      rcases Int.lt_or_le 128 r.size with h | h
      · exact absurd (.inr (.inr h)) hm
      · exact h
    have hno : ∀ e ∈ x.l, e.id ≠ (⟨r.sum, r.n.toNat, 1, r.size.toNat⟩ : Hd).id := by
      rw [← en] at hf
      exact atH_none hf
    have his' : x.is = true := by cases h : x.is with | true => rfl | false => exact absurd h his
    have ok' : LedOk (x.ins ⟨r.sum, r.n.toNat, 1, r.size.toNat⟩) := ok.ins his' hno ⟨by show 1 ≤ r.sum.size; omega, by show r.sum.size ≤ 32; omega, by show r.n.toNat < 256; omega⟩ (by show 1 ≤ 1; omega) (by show r.size.toNat ≤ 128; omega) (by show x.used + r.size.toNat ≤ x.quota; omega)
    refine ⟨?_, fun sum n => ?_⟩
    · have hsz : sizesH (x.ins ⟨r.sum, r.n.toNat, 1, r.size.toNat⟩).l = sizesH x.l + r.size.toNat := insH_sizes _ _
      show ((sizesH (x.ins ⟨r.sum, r.n.toNat, 1, r.size.toNat⟩).l + 64 * x.records : Nat) : Int) = ((sizesH x.l + 64 * x.records : Nat) : Int) + _
      rw [hsz]
      by_cases hp : 0 < r.size
      · rw [if_pos ⟨rfl, hp⟩]; omega
      · rw [if_neg (fun h => hp h.2)]; omega
    · rw [atH_ins ok ok' hno sum n]
      show _ ∧ (r.sum, ((r.n.toNat : Nat) : Int)) ≠ (sum, n) ↔ _
      rw [en]; rfl
/-- What is held and charged behind the first 'j' that are added. -/
structure Added (x0 x : Led) (rs : List Rh) (j : Nat) : Prop where
  used : (x.used : Int) = x0.used + costN x0 rs j
  at_ : ∀ sum n, atH x.l sum n = none ↔ (atH x0.l sum n = none ∧ ∀ q ∈ rs.take j, q.id ≠ (sum, n))
theorem Added.step {x0 : Led} {rs : List Rh} {j : Nat} (D : Added x0 x rs j) (ok : LedOk x) {r : Rh} (hr : rs[j]? = some r) (hadd : (x.add r.sum r.n r.size true).2 = 0) : Added x0 (x.add r.sum r.n r.size true).1 rs (j + 1) := by
  obtain ⟨h1, h2⟩ := add_cost ok r hadd
  refine ⟨?_, fun sum n => ?_⟩
  · rw [h1, D.used]
    show _ = (x0.used : Int) + (costN x0 rs j + termC x0 rs j)
    by_cases hp : atH x.l r.sum r.n = none ∧ 0 < r.size
    · rw [if_pos hp]
      have := (D.at_ _ _).1 hp.1
      rw [termC_pos hr ⟨this.2, this.1, hp.2⟩]; omega
    · rw [if_neg hp, termC_neg hr (fun h => hp ⟨(D.at_ _ _).2 ⟨h.2.1, h.1⟩, h.2.2⟩)]; omega
  · rw [h2, D.at_, ids_snoc hr]
    exact ⟨fun h => ⟨h.1.1, h.1.2, h.2⟩, fun h => ⟨⟨h.1, h.2.1⟩, h.2.2⟩⟩
end Go.Proofs.Ytlklpdedppgkfaa
