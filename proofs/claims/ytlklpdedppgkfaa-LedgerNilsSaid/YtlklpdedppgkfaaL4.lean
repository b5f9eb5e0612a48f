/- Adding to the document's ledger; all that a ledger holds. Conditions: the lists lie in memory as they are named, and are of ordinary length. -/
import Derived.Test.YtlklpdedppgkfaaL3
namespace Go.Proofs.Ytlklpdedppgkfaa
open Go.Gx
set_option maxRecDepth 100000
set_option linter.unusedVariables false
variable {h : Hp} {x : Led} {K : Value → Hp → Prop} {a : Option Addr} {c : Nat} {l : List Hd}
theorem addR_spec (R : RefAt h x a c) (hl : x.l.length < 1000000) (sum : ByteArray) (n size : Int) (hcnt : ∀ d ∈ x.l, d.count < 9223372036854775807) (N : NextR h a (x.add sum n size true) K) : CallsH Try.prog ref22_Add.id #[refV x a c, .agg #[.string sum, .int .i64 n], .int .i64 size] h K := by
  apply ref22_Add.calls
  unfold ref22_Add.W
  unfold Led.add at N
  have hu := R.ok.used
  have hq := R.ok.quota
  refine split_not (fun e => ?_) fun his => ?_
  · rw [if_pos e] at N; exact N.same R (Sub.refl h)
  rw [if_neg (by rw [his]; decide)] at N
  refine ⟨fun _ _ _ _ _ _ y => y = h ∧ ¬ (mayI sum n = false ∨ size < 0 ∨ size > 128), ?_, mayR_spec sum n ⟨_, rfl, split_not (fun e => ?_) fun e => split_dec (fun e2 => ?_) fun e2 => split_dec (fun e3 => ?_) fun e3 => ⟨rfl, ?_⟩⟩⟩
  rotate_left
  · rw [if_pos (.inl e)] at N; exact N.same R (Sub.refl h)
  · rw [if_pos (.inr (.inl e2))] at N; exact N.same R (Sub.refl h)
  · rw [if_pos (.inr (.inr e3))] at N; exact N.same R (Sub.refl h)
  · rintro (g | g | g)
    · rw [e] at g; cases g
    · exact e2 g
    · exact e3 g
  rintro _ _ _ _ _ _ y ⟨rfl, g⟩
  rw [if_neg g] at N
  have hmay : mayI sum n = true := by
    cases h : mayI sum n with
    | true => rfl
    | false => exact absurd (.inl h) g
  have hmay := of_decide_eq_true hmay
  have hs0 : 0 ≤ size := by
    rcases Int.lt_or_le size 0 with h | h
    · exact absurd (.inr (.inl h)) g
    · exact h
  have hs1 : size ≤ 128 := by
    rcases Int.lt_or_le 128 size with h | h
    · exact absurd (.inr (.inr h)) g
    · exact h
  obtain ⟨m, rfl⟩ : ∃ m : Nat, n = (m : Int) := ⟨n.toNat, by omega⟩
  obtain ⟨z, rfl⟩ : ∃ z : Nat, size = (z : Int) := ⟨size.toNat, by omega⟩
  refine at_spec R.row (by omega) sum m ⟨_, rfl, rowC hdC x.l, R.row, fun a' c' w => NewR hdC 4 tHeld y w a' c' x.l, fun a' c' w Nw => ?_, append_row appTHeld hdC_len hdC_plain (L := []) (M := x.l) (NewR.nil _ _) rfl rfl rfl (by rw [List.length_nil]; omega) fun a' c' w Nw => Nw⟩
  have hz0 : Int.ofNat (0 + x.l.length) = (x.l.length : Int) := by rw [Nat.zero_add]; rfl
  cases hf : atH x.l sum (m : Int) with
  | some d =>
    rw [hf] at N
    obtain ⟨e1, hlt⟩ := atV_some hf
    rw [e1]
    obtain ⟨hd, hsum, hnn⟩ := atH_mem hf
    have hix := atH_ix hf
    have hcn := hcnt d hd
    have N : NextR y a (if (d.size : Int) ≠ (z : Int) then (x, (8 : Int)) else (x.set (ixH x.l sum (m : Int)) (d.count + 1), 0)) K := N
    generalize ixH x.l sum (m : Int) = i at hlt hix N
    obtain ⟨b, o, ea, hc⟩ := R.row.get hdC_len (by decide) hix
    refine split_dec (fun _ => ⟨by omega, by show (i : Int) < (x.l.length : Int); omega, b, o, ea, _, cell_sub (hc 3 _ rfl) Nw.sub, split_ne (fun e => ?_) fun e => ?_⟩) fun e => absurd (by omega) e
    · rw [if_pos e] at N; exact N.same R Nw.sub
    · rw [if_neg (fun h => h e)] at N
      obtain ⟨b2, ea2, hc2⟩ := RowAt.own_get hdC_len (by decide) Nw.own hix
      have w1 : IntKind.i64.wrap ((d.count : Int) + 1) = ((d.count + 1 : Nat) : Int) := by rw [wid (by omega) (by omega)]; omega
      obtain ⟨b3, ea3, st, N3⟩ := Nw.put hdC_len (y := { d with count := d.count + 1 }) (j := 2) (vs := [.int .i64 ((d.count + 1 : Nat) : Int)]) hix (by decide) (by show 2 + 1 ≤ 4; decide) rfl
      rw [ea2] at ea3
      cases ea3
      refine ⟨by omega, by rw [hz0]; omega, b2, 0, ea2, _, hc2 2 _ rfl, by omega, by rw [hz0]; omega, b2, 0, ea2, st, ?_⟩
      rw [w1]
      have hset : x.l.set i { d with count := d.count + 1 } = (x.set i (d.count + 1)).l := by
        show _ = setH x.l i (d.count + 1)
        rw [setH_is hix]
        exact List.set_eq_take_append_cons_drop ▸ if_pos hlt
      rw [hset] at N3
      have hlen : (x.set i (d.count + 1)).l.length = 0 + x.l.length := by rw [len_set]; omega
      have := N _ a' c' N3.sub (N3.refAt (R.ok.set hix (by omega)) (by omega)) fun b hb => .inr (N3.new b hb)
      unfold refV at this
      rw [hlen] at this
      exact this
  | none =>
    rw [hf] at N
    rw [atV_none hf]
    have N : NextR y a (if (x.used : Int) + z > x.quota then (x, 5) else (x.ins ⟨sum, m, 1, z⟩, 0)) K := N
    have hno := atH_none hf
    have hw : IntKind.i64.wrap ((x.used : Int) + (z : Int)) = (x.used : Int) + z := wid (by omega) (by omega)
    refine split_dec (fun e => absurd e (by decide)) fun _ => usedR_spec (R.sub Nw.sub) ⟨_, rfl, Sub.refl _, ?_⟩
    rw [hw]
    refine split_dec (fun e => ?_) fun e k hk => ?_
    · rw [if_pos e] at N; exact N.same R Nw.sub
    rw [if_neg e] at N
    have ok' : LedOk (x.ins ⟨sum, m, 1, z⟩) := R.ok.ins his hno ⟨by show 1 ≤ sum.size; omega, by show sum.size ≤ 32; omega, by show m < 256; omega⟩ (by show 1 ≤ 1; omega) (by show z ≤ 128; omega) (by show x.used + z ≤ x.quota; omega)
    have hzl : 0 + x.l.length + 1 = x.l.length + 1 := by omega
    have fin : ∀ (A B : List Hd) a2 c2 w2, A ++ B = x.l → (∀ e ∈ B, bef (sum, m) e.id = true) → (∀ e ∈ A, bef (sum, m) e.id = false) → NewR hdC 4 tHeld y w2 a2 c2 (A ++ ⟨sum, m, 1, z⟩ :: B) → K (.tuple #[.agg #[.bool x.is, .int .i64 x.quota, .int .i64 x.records, .slice a2 (0 + x.l.length + 1) c2], .int .i64 0]) w2 := by
      intro A B a2 c2 w2 hAB hB hA N2
      have hsort := R.ok.sorted
      rw [← hAB] at hsort
      have hins : (x.ins ⟨sum, m, 1, z⟩).l = A ++ ⟨sum, m, 1, z⟩ :: B := by
        show insH ⟨sum, m, 1, z⟩ x.l = _
        rw [← hAB]
        exact insH_split hsort hA hB
      have hlen : (x.ins ⟨sum, m, 1, z⟩).l.length = 0 + x.l.length + 1 := by
        show (insH ⟨sum, m, 1, z⟩ x.l).length = _
        rw [insH_length]; omega
      rw [← hins] at N2
      have := N w2 a2 c2 N2.sub (N2.refAt ok' (by omega)) fun b hb => .inr (N2.new b hb)
      unfold refV at this
      rw [hlen] at this
      exact this
    refine ⟨hdC ⟨sum, m, 1, z⟩, (Blk.new _ _ _ (hdC ⟨sum, m, 1, z⟩)).slice rfl, fun a2 c2 w2 => NewR hdC 4 tHeld y w2 a2 c2 (x.l ++ [⟨sum, m, 1, z⟩]), fun a2 c2 w2 N2 => ?_, append_row appTHeld hdC_len hdC_plain (M := [⟨sum, m, 1, z⟩]) (Nw.upd (Sub.upd hk _)) (by omega) rfl (rowC_one _).symm (by simp; omega) fun a2 c2 w2 N2 => N2⟩
    rw [hzl] at *
    refine ⟨fun i v q => ∃ A B : List Hd, A ++ B = x.l ∧ i = (A.length : Nat) ∧ q = A.length ∧ (∀ e ∈ B, bef (sum, m) e.id = true) ∧ NewR hdC 4 tHeld y v a2 c2 (A ++ ⟨sum, m, 1, z⟩ :: B), ⟨_, x.l, [], by simp, ?_, rfl, (fun e he => by cases he), N2⟩, ?_⟩
    · show IntKind.i64.wrap (((x.l.length + 1 : Nat) : Int) - 1) = _
      rw [wid (by omega) (by omega)]; omega
    rintro i v q ⟨A, B, hAB, rfl, rfl, hB, N3⟩
    have hAl : A.length ≤ x.l.length := by rw [← hAB, List.length_append]; omega
    refine split_dec (fun g2 => ?_) fun g2 => ?_
    · have g2 : 0 < A.length := by have g2 : (A.length : Int) > 0 := g2; omega
      obtain ⟨A', e, rfl⟩ : ∃ A' e, A = A' ++ [e] := by
        have hne : A ≠ [] := fun h => by rw [h] at g2; simp at g2
        exact ⟨A.dropLast, A.getLast hne, (List.dropLast_concat_getLast hne).symm⟩
      have hlA : (A' ++ [e]).length = A'.length + 1 := by simp
      have i1 : ((A' ++ [e]) ++ ⟨sum, m, 1, z⟩ :: B)[A'.length + 1]? = some ⟨sum, m, 1, z⟩ := by
        rw [List.getElem?_append_right (by rw [hlA]; exact Nat.le_refl _), hlA, Nat.sub_self]; rfl
      have i0 : ((A' ++ [e]) ++ ⟨sum, m, 1, z⟩ :: B)[A'.length]? = some e := by
        rw [List.getElem?_append_left (by rw [hlA]; omega), List.getElem?_append_right (Nat.le_refl _), Nat.sub_self]; rfl
      obtain ⟨b1, ea1, hc1⟩ := RowAt.own_get hdC_len (by decide) N3.own i1
      obtain ⟨b0, ea0, hc0⟩ := RowAt.own_get hdC_len (by decide) N3.own i0
      rw [ea1] at ea0
      cases ea0
      have wm : IntKind.i64.wrap (((A'.length + 1 : Nat) : Int) - 1) = ((A'.length : Nat) : Int) := by rw [wid (by omega) (by omega)]; omega
      have hAl' : A'.length + 1 ≤ x.l.length := by rw [← hlA]; exact hAl
      rw [hlA]
      rw [wm]
      have tn1 : ((A'.length + 1 : Nat) : Int).toNat = A'.length + 1 := rfl
      have tn0 : ((A'.length : Nat) : Int).toNat = A'.length := rfl
      rw [tn1, tn0]
      have hb1 : ((A'.length + 1 : Nat) : Int) < Int.ofNat (x.l.length + 1) := by show ((A'.length + 1 : Nat) : Int) < ((x.l.length + 1 : Nat) : Int); omega
      have hb0 : ((A'.length : Nat) : Int) < Int.ofNat (x.l.length + 1) := by show ((A'.length : Nat) : Int) < ((x.l.length + 1 : Nat) : Int); omega
      refine ⟨by omega, hb1, b1, 0, ea1, _, hc1 0 _ rfl, _, hc1 1 _ rfl, by omega, hb0, b1, 0, ea1, _, hc0 0 _ rfl, _, hc0 1 _ rfl, before_spec (sum, m) e.id ⟨_, rfl, split_cond (fun hbe => ?_) fun hbe => ?_⟩⟩
      · obtain ⟨b4, ea4, st4, N4⟩ := N3.put hdC_len (y := e) (j := 0) (vs := hdC e) i1 (by decide) (by show 0 + 4 ≤ 4; decide) rfl
        rw [ea1] at ea4
        cases ea4
        have i0' : (((A' ++ [e]) ++ ⟨sum, m, 1, z⟩ :: B).set (A'.length + 1) e)[A'.length]? = some e := by
          rw [List.getElem?_set_ne (by omega)]; exact i0
        obtain ⟨b5, ea5, st5, N5⟩ := N4.put hdC_len (y := ⟨sum, m, 1, z⟩) (j := 0) (vs := hdC ⟨sum, m, 1, z⟩) i0' (by decide) (by show 0 + 4 ≤ 4; decide) rfl
        rw [ea1] at ea5
        cases ea5
        refine ⟨by omega, hb0, b1, 0, ea1, _, hc0 0 _ rfl, _, hc0 1 _ rfl, _, hc0 2 _ rfl, _, hc0 3 _ rfl, by omega, hb1, b1, 0, ea1, _, hc1 0 _ rfl, _, hc1 1 _ rfl, _, hc1 2 _ rfl, _, hc1 3 _ rfl, by omega, hb1, b1, 0, ea1, st4, by omega, hb0, b1, 0, ea1, st5, A'.length, by omega, A', e :: B, ?_, rfl, rfl, fun f hf => ?_, ?_⟩
        · rw [← hAB]; simp
        · rcases List.mem_cons.1 hf with rfl | hf
          · exact hbe
          · exact hB f hf
        · have e5 : (((A' ++ [e]) ++ ⟨sum, m, 1, z⟩ :: B).set (A'.length + 1) e).set A'.length ⟨sum, m, 1, z⟩ = A' ++ ⟨sum, m, 1, z⟩ :: e :: B := by
            rw [List.append_assoc, List.set_append_right _ _ (by omega), Nat.add_sub_cancel_left, List.set_append_right _ _ (Nat.le_refl _), Nat.sub_self]; rfl
          rw [e5] at N5
          exact N5
      · refine fin (A' ++ [e]) B a2 c2 v hAB hB (fun f hf => ?_) N3
        rcases List.mem_append.1 hf with hf | hf
        · have hs := R.ok.sorted
          unfold hdSorted at hs
          rw [← hAB, List.append_assoc, List.pairwise_append] at hs
          have hfe := hs.2.2 f hf e (List.mem_cons_self)
          cases hq : bef (sum, m) f.id with
          | false => rfl
          | true => have := bef_trans hq hfe; rw [hbe] at this; cases this
        · rw [List.mem_singleton.1 hf]; exact hbe
    · have hA0 : A = [] := List.length_eq_zero_iff.1 (by have g2 : ¬ (A.length : Int) > 0 := g2; omega)
      subst hA0
      exact fin [] B a2 c2 v hAB hB (fun f hf => by cases hf) N3

/-! ### all that is held -/
theorem kv_tail {t : Nat} (ht : t < 255) {L : List KV} (hL : Has t x L) (hlen : L.length ≤ 1073741824) :
    ∃ T : List KV, kvRange (bytesL [108] ++ bytesL [t]) (bytesL [108] ++ bytesL [t + 1]) 1073741824 L = x.l.map (Hd.ent t) ++ T ∧ (∀ p ∈ T, p.1 = bytesL [108] ++ bytesL [t + 1]) := by
  have l1 : (bytesL [108] ++ bytesL [t]).data.toList = [108, UInt8.ofNat t] := by rw [app_list]; rfl
  have l2 : (bytesL [108] ++ bytesL [t + 1]).data.toList = [108, UInt8.ofNat (t + 1)] := by rw [app_list]; rfl
  generalize bytesL [108] ++ bytesL [t] = k1 at l1
  generalize hk2 : bytesL [108] ++ bytesL [t + 1] = k2 at l2
  have hin : ∀ p : KV, kvIn k1 k2 p = true ↔ (∃ r, p.1.data.toList = 108 :: UInt8.ofNat t :: r) ∨ p.1 = k2 := by
    intro p
    unfold kvIn
    rw [Bool.and_eq_true, Bool.or_eq_true]
    have hb1 : blt p.1 k1 = Op.bytesLess p.1.data.toList [108, UInt8.ofNat t] := by unfold blt; rw [l1]
    have hb2 : blt p.1 k2 = Op.bytesLess p.1.data.toList [108, UInt8.ofNat (t + 1)] := by unfold blt; rw [l2]
    rw [hb1, hb2, decide_eq_true_eq]
    have hlt : (UInt8.ofNat t < UInt8.ofNat (t + 1)) := by have := u8lt (m := t) (n := t + 1) (by omega) (by omega); rw [decide_eq_decide] at this; exact this.2 (by omega)
    constructor
    · rintro ⟨h1, h2⟩
      rcases h2 with h2 | h2
      · left
        match hp : p.1.data.toList, h1, h2 with
        | [], h1, _ => simp [Op.bytesLess] at h1
        | [u], h1, h2 =>
          rw [bl_cons] at h1 h2
          simp [Op.bytesLess] at h1 h2
          exact absurd (h2.resolve_right h1.2) (UInt8.not_lt.2 h1.1)
        | u :: v :: r, h1, h2 =>
          rw [bl_cons, bl_cons] at h1 h2
          have hr : Op.bytesLess r [] = false := by cases r <;> rfl
          rw [hr] at h1 h2
          simp at h1 h2
          obtain ⟨g1, g2⟩ := h1
          rcases h2 with h2 | ⟨rfl, h2⟩
          · exact absurd h2 (UInt8.not_lt.2 g1)
          · have g2 := g2.resolve_left (fun h => h rfl)
            refine ⟨r, ?_⟩
            have : v = UInt8.ofNat t := by
              have h3 := UInt8.lt_iff_toNat_lt.1 h2
              have h4 := UInt8.le_iff_toNat_le.1 g2
              apply UInt8.toNat_inj.1
              simp at h3 h4 ⊢
              omega
            rw [this]
      · exact .inr h2
    · rintro (⟨r, hr⟩ | h)
      · rw [hr]
        have e1 : Op.bytesLess (108 :: UInt8.ofNat t :: r) [108, UInt8.ofNat t] = false := by
          have := bl_app [108, UInt8.ofNat t] r []
          simp at this
          rw [this]
          cases r <;> rfl
        have e2 : Op.bytesLess (108 :: UInt8.ofNat t :: r) [108, UInt8.ofNat (t + 1)] = true := by
          rw [bl_cons, bl_cons, decide_eq_true hlt]
          simp
        rw [e1, e2]; exact ⟨rfl, .inl rfl⟩
      · refine ⟨?_, .inr h⟩
        rw [h, l2]
        rw [bl_cons, bl_cons]
        have h3 : ¬ UInt8.ofNat (t + 1) < UInt8.ofNat t := fun h4 => absurd (UInt8.lt_trans hlt h4) (UInt8.lt_irrefl _)
        have h4 : UInt8.ofNat (t + 1) ≠ UInt8.ofNat t := fun h5 => by rw [h5] at hlt; exact UInt8.lt_irrefl _ hlt
        rw [decide_eq_false h3, beq_false_of_ne h4]
        rfl
  refine ⟨(L.filter (kvIn k1 k2)).filter fun p => decide (p.1 = k2), ?_, fun p hp => of_decide_eq_true (List.mem_filter.1 hp).2⟩
  unfold kvRange
  rw [List.take_of_length_le (Nat.le_trans (List.length_filter_le _ _) hlen)]
  have hown : ∀ p ∈ L, (∃ r, p.1.data.toList = 108 :: UInt8.ofNat t :: r) → p ∈ x.ents t := by
    rintro p hp ⟨r, hr⟩
    rw [← hL.part, part_mem]
    refine ⟨hp, ?_⟩
    unfold own
    rw [hr]
    show (decide (UInt8.ofNat t = UInt8.ofNat t) && (decide ((108 : UInt8) = 108) || _)) = true
    simp
  refine kvSorted_eq (List.Pairwise.sublist List.filter_sublist hL.sorted) ?_ fun p => ?_
  · unfold kvSorted
    rw [List.pairwise_append]
    refine ⟨?_, List.Pairwise.sublist (List.filter_sublist.trans List.filter_sublist) hL.sorted, fun p hp q hq => ?_⟩
    · have := ents_sorted (t := t) hL.ok
      unfold Led.ents kvSorted at this
      exact (List.pairwise_append.1 this).1
    · obtain ⟨d, hd, rfl⟩ := List.mem_map.1 hp
      have hq2 := of_decide_eq_true (List.mem_filter.1 hq).2
      show blt (heldKey t d.sum d.n) q.1 = true
      rw [hq2]
      unfold blt
      rw [heldKey_list, l2, bl_cons, bl_cons]
      have hlt : (UInt8.ofNat t < UInt8.ofNat (t + 1)) := by have := u8lt (m := t) (n := t + 1) (by omega) (by omega); rw [decide_eq_decide] at this; exact this.2 (by omega)
      rw [decide_eq_true hlt]
      simp
  · rw [List.mem_filter, List.mem_append, List.mem_filter, List.mem_filter, hin]
    constructor
    · rintro ⟨h1, h2 | h2⟩
      · left
        have := hown p h1 h2
        rw [ents_mem] at this
        rcases this with ⟨d, hd, e⟩ | ⟨_, e⟩
        · exact List.mem_map.2 ⟨d, hd, e⟩
        · obtain ⟨r, hr⟩ := h2
          rw [e, quotaKey_list] at hr
          simp at hr
      · exact .inr ⟨⟨h1, .inr h2⟩, decide_eq_true h2⟩
    · rintro (h1 | ⟨⟨h1, h2⟩, _⟩)
      · obtain ⟨d, hd, rfl⟩ := List.mem_map.1 h1
        have : d.ent t ∈ kvPart (own t) L := by rw [hL.part, ents_mem]; exact .inl ⟨d, hd, rfl⟩
        exact ⟨(part_mem.1 this).1, .inl ⟨_, heldKey_list t d.sum d.n⟩⟩
      · exact ⟨h1, h2⟩
end Go.Proofs.Ytlklpdedppgkfaa
