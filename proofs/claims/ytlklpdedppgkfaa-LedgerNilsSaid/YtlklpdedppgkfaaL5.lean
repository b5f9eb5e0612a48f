/- A step of a ledger and of the document's; that both tell the same; the chapter's example. Conditions: both stand as they are named, few entries. -/
import Derived.Test.YtlklpdedppgkfaaFW
import Derived.Test.YtlklpdedppgkfaaL4
namespace Go.Proofs.Ytlklpdedppgkfaa
open Go.Gx
set_option maxRecDepth 100000
set_option linter.unusedVariables false
abbrev tHeldL : TypeId := 55
theorem appTHeldL : AppT Try.prog tHeldL 4 40 := AppT.of (by kernel_rfl)
variable {h : Hp} {lb tb t : Nat} {full : Int} {L : List KV} {x : Led} {K : Value → Hp → Prop} {a : Option Addr} {c : Nat}
theorem heldKey_facts (t : Nat) (sum : ByteArray) (n : Nat) (hn : n < 256) : (heldKey t sum n).size = sum.size + 4 ∧ (heldKey t sum n).extract 3 (sum.size + 3) = sum ∧ byteAt (heldKey t sum n) (sum.size + 3) = (n : Int) := by
  have e : (heldKey t sum n).size = sum.size + 4 := by
    unfold heldKey
    rw [app_size, app_size, app_size, bsz, bsz, bsz]
    simp only [List.length_cons, List.length_nil]; omega
  refine ⟨e, ?_, ?_⟩
  · apply bytes_ext
    rw [ByteArray.data_extract, Array.toList_extract, heldKey_list, List.extract_eq_take_drop]
    show (sum.data.toList ++ [UInt8.ofNat n]).take (sum.size + 3 - 3) = _
    rw [Nat.add_sub_cancel, ← size_len, List.take_left']
    rfl
  · unfold byteAt
    rw [heldKey_list]
    rw [List.getElem?_cons_succ, List.getElem?_cons_succ, List.getElem?_cons_succ, List.getElem?_append_right (by rw [size_len]; exact Nat.le_refl _), size_len, Nat.sub_self]
    show ((UInt8.ofNat n).toNat : Int) = n
    simp; omega
theorem all_spec (A : At h lb tb t full x L) (hl : L.length ≤ 1000000) (hc : ∀ d ∈ x.l, d.count < 9223372036854775808) (hK : ∀ h' a c, NewR hdC 4 tHeldL h h' a c x.l → K (.slice a x.l.length c) h') :
    CallsH Try.prog ledger_Ledger_All.id #[.pointer (some ⟨lb, 0, none⟩)] h K := by
  apply ledger_Ledger_All.calls
  unfold ledger_Ledger_All.W
  have ht2 := A.t2
  obtain ⟨T, hT, hTk⟩ := kv_tail (t := t) (by omega) A.has (by omega)
  have hents : x.l.length ≤ L.length := by
    have h1 : kvPart (own t) L = x.ents t := A.has.part
    have h2 := congrArg List.length h1
    have h3 : (kvPart (own t) L).length ≤ L.length := List.length_filter_le _ _
    have h4 : x.l.length ≤ (x.ents t).length := by unfold Led.ents; simp
    omega
  refine ⟨_, Blk.cell' A.ld 1 rfl, fun k hk => ⟨bytesL [t], sl1 (Blk.new _ _ _ _), (by rw [bsz, bsz]; show 1 + 1 ≤ 9223372036854775807; decide), _, Blk.cell' (A.ld.sub (Sub.upd hk _)) 1 rfl, fun k2 hk2 => ⟨bytesL [t + 1], ?_, (by rw [bsz, bsz]; show 1 + 1 ≤ 9223372036854775807; decide), _, Blk.cell' (A.ld.sub ((Sub.upd hk _).trans (Sub.upd hk2 _))) 0 rfl, _, rfl, ?_⟩⟩⟩
  · have e : IntKind.i64.wrap ((t : Int) + 1) = ((t + 1 : Nat) : Int) := by rw [wid (by omega) (by omega)]; omega
    have := sl1 (k := k2) (n := t + 1) (h := (h.upd k (.cells #[.int .u8 (IntKind.u8.wrap (t : Int))] 5 (0, 0))).upd k2 (.cells #[.int .u8 (IntKind.u8.wrap ((t + 1 : Nat) : Int))] 5 (0, 0))) (Blk.new _ _ _ _)
    rw [← e] at this
    exact this
  have s0 : Sub h ((h.upd k (.cells #[.int .u8 (IntKind.u8.wrap (t : Int))] 5 (0, 0))).upd k2 (.cells #[.int .u8 (IntKind.u8.wrap (IntKind.i64.wrap ((t : Int) + 1)))] 5 (0, 0))) := (Sub.upd hk _).trans (Sub.upd hk2 _)
  refine tableRange_spec (A.table.sub s0) (by omega) _ _ 1073741824 fun h3 a3 c3 N => ⟨_, _, _, rfl, ?_⟩
  have hTl : (x.l.map (Hd.ent t) ++ T).length ≤ L.length := by
    rw [← hT]; unfold kvRange
    rw [List.length_take]
    have := List.length_filter_le (kvIn (bytesL [108] ++ bytesL [t]) (bytesL [108] ++ bytesL [t + 1])) L
    omega
  rw [hT] at N ⊢
  generalize hE : x.l.map (Hd.ent t) ++ T = E at N hTl
  have s3 : Sub h h3 := s0.trans N.1
  refine ⟨fun a' l' c' i z m => ∃ j : Nat, i = (j : Int) ∧ j ≤ E.length ∧ m = E.length - j ∧ l' = (x.l.take j).length ∧ NewR hdC 4 tHeldL h3 z a' c' (x.l.take j), ⟨_, 0, rfl, by omega, rfl, rfl, NewR.nil _ _⟩, ?_⟩
  rintro a' l' c' i z m ⟨j, rfl, hj, rfl, rfl, Nz⟩
  refine split_dec (fun g => ?_) (fun g => ?_)
  · have g1 : j < E.length := by have : (j : Int) < (E.length : Int) := g; omega
    have hp : E[j]? = some E[j] := List.getElem?_eq_getElem g1
    generalize E[j] = p at hp
    obtain ⟨b, o, ea, c1, c2⟩ := kv_cell (N.2.2.slice.sub Nz.sub) hp
    obtain ⟨pk, pv⟩ := p
    have c1 : z.cell b (o + j * 2) = some (.string pk) := c1
    have c2 : z.cell b (o + j * 2 + 1) = some (.string pv) := c2
    refine ⟨by omega, by show (j : Int) < (E.length : Int); omega, b, o, ea, pk, c1, pv, c2, ?_⟩
    by_cases hjl : j < x.l.length
    · have hd : x.l[j]? = some x.l[j] := List.getElem?_eq_getElem hjl
      generalize x.l[j] = d at hd
      have hpd : (pk, pv) = d.ent t := by
        rw [← hE, List.getElem?_append_left (by rw [List.length_map]; exact hjl), List.getElem?_map, hd] at hp
        exact (Option.some.inj hp).symm
      obtain ⟨rfl, rfl⟩ : pk = heldKey t d.sum d.n ∧ pv = textB [d.count, d.size] := ⟨congrArg Prod.fst hpd, congrArg Prod.snd hpd⟩
      have hdm := List.mem_of_getElem? hd
      have hmay := A.has.ok.may d hdm
      have hsz := A.has.ok.size d hdm
      obtain ⟨f1, f2, f3⟩ := heldKey_facts t d.sum d.n hmay.2.2
      have hne : heldKey t d.sum d.n ≠ bytesL [108] ++ bytesL [t + 1] := fun e => by
        have := congrArg ByteArray.size e
        rw [f1, app_size, bsz, bsz] at this
        simp only [List.length_cons, List.length_nil] at this
        omega
      have wl : IntKind.i64.wrap (Int.ofNat (heldKey t d.sum d.n).size - 1) = ((d.sum.size + 3 : Nat) : Int) := by
        rw [f1]
        show IntKind.i64.wrap (((d.sum.size + 4 : Nat) : Int) - 1) = _
        rw [wid (by omega) (by omega)]; omega
      have tl : ((d.sum.size + 3 : Nat) : Int).toNat = d.sum.size + 3 := rfl
      have ht : x.l.take (j + 1) = x.l.take j ++ [d] := by rw [List.take_add_one, hd]; rfl
      rw [wl]
      refine split_beqS (fun e => absurd e hne) fun _ => split_dec (fun e => by omega) fun _ => numbers_spec (ns := [d.count, d.size]) (fun n hn => ?_) (by show 2 < 1000000; decide) fun z2 a2 c2 N2 => ⟨_, _, _, rfl, by omega, by rw [f1]; show ((d.sum.size + 3 : Nat) : Int) ≤ ((d.sum.size + 4 : Nat) : Int); omega, by decide, by rw [tl]; show (3 : Int) ≤ ((d.sum.size + 3 : Nat) : Int); omega, by omega, by rw [f1]; show ((d.sum.size + 3 : Nat) : Int) < ((d.sum.size + 4 : Nat) : Int); omega, ?_⟩
      · simp at hn
        rcases hn with rfl | rfl
        · exact hc d hdm
        · omega
      obtain ⟨b0, o0, e0, h0⟩ := N2.own.row.get intC_len (by decide) (i := 0) rfl
      obtain ⟨b1, o1, e1, h1⟩ := N2.own.row.get intC_len (by decide) (i := 1) rfl
      refine ⟨b0, o0, e0, _, h0 0 _ rfl, b1, o1, e1, _, h1 0 _ rfl, fun k3 hk3 => ⟨hdC d, ?_, fun a4 c4 z4 => NewR hdC 4 tHeldL h3 z4 a4 c4 (x.l.take (j + 1)), fun a4 c4 z4 N4 => ⟨_, ?_, j + 1, by rw [wid (by omega) (by omega)]; omega, by omega, rfl, by rw [ht, List.length_append]; rfl, N4⟩, ?_⟩⟩
      · have e5 : IntKind.i64.wrap ((d.n : Nat) : Int) = (d.n : Int) := wid (by omega) (by omega)
        have e6 : (Int.toNat 3) = 3 := rfl
        rw [tl, e6, f2, f3, e5]
        exact (Blk.new _ _ _ (hdC d)).slice rfl
      · omega
      · rw [ht]
        exact append_row appTHeldL hdC_len hdC_plain (M := [d]) ((Nz.upd N2.sub).upd (Sub.upd hk3 _)) rfl rfl (rowC_one _).symm (by rw [List.length_take]; simp; omega) fun a4 c4 z4 N4 => N4
    · have hpT : (pk, pv) ∈ T := by
        rw [← hE, List.getElem?_append_right (by rw [List.length_map]; omega)] at hp
        exact List.mem_of_getElem? hp
      have hpk : pk = _ := hTk _ hpT
      have ht : x.l.take (j + 1) = x.l.take j := by rw [List.take_of_length_le (by omega), List.take_of_length_le (by omega)]
      refine split_beqS (fun _ => ⟨_, ?_, j + 1, by rw [wid (by omega) (by omega)]; omega, by omega, rfl, by rw [ht], by rw [ht]; exact Nz⟩) fun e => absurd hpk e
      omega
  · have hjE : j = E.length := by
      have : ¬ (j : Int) < (E.length : Int) := g
      omega
    have : x.l.length ≤ j := by rw [hjE, ← hE, List.length_append, List.length_map]; omega
    rw [List.take_of_length_le this] at Nz ⊢
    exact hK z a' c' (Nz.back s3)
theorem theirs_spec {l : List Hd} (H : RowAt hdC 4 h a l) (hl : l.length < 1000000) (hK : ∀ h' a c, NewR hdC 4 tHeld h h' a c l → K (.slice a l.length c) h') : CallsH Try.prog law22_theirs.id #[.slice a l.length c] h K := by
  apply law22_theirs.calls
  unfold law22_theirs.W
  refine ⟨fun a' l' c' i z m => ∃ j : Nat, i = (j : Int) ∧ j ≤ l.length ∧ m = l.length - j ∧ l' = (l.take j).length ∧ NewR hdC 4 tHeld h z a' c' (l.take j), ⟨_, 0, rfl, by omega, rfl, rfl, NewR.nil _ _⟩, ?_⟩
  rintro a' l' c' i z m ⟨j, rfl, hj, rfl, rfl, Nz⟩
  refine split_dec (fun g => ?_) (fun g => ?_)
  · have g1 : j < l.length := by have : (j : Int) < (l.length : Int) := g; omega
    have hd : l[j]? = some l[j] := List.getElem?_eq_getElem g1
    generalize l[j] = d at hd
    have ht : l.take (j + 1) = l.take j ++ [d] := by rw [List.take_add_one, hd]; rfl
    obtain ⟨b, o, ea, hc⟩ := (H.sub Nz.sub).get hdC_len (by decide) hd
    have hb : (j : Int) < Int.ofNat l.length := by show (j : Int) < (l.length : Int); omega
    refine ⟨by omega, hb, b, o, ea, _, hc 0 _ rfl, _, hc 1 _ rfl, by omega, hb, b, o, ea, _, hc 2 _ rfl, by omega, hb, b, o, ea, _, hc 3 _ rfl, fun k hk => ⟨hdC d, (Blk.new _ _ _ (hdC d)).slice rfl, fun a4 c4 z4 => NewR hdC 4 tHeld h z4 a4 c4 (l.take (j + 1)), fun a4 c4 z4 N4 => ⟨_, ?_, j + 1, by rw [wid (by omega) (by omega)]; omega, by omega, rfl, by rw [ht, List.length_append]; rfl, N4⟩, ?_⟩⟩
    · omega
    · rw [ht]
      exact append_row appTHeld hdC_len hdC_plain (M := [d]) (Nz.upd (Sub.upd hk _)) rfl rfl (rowC_one _).symm (by rw [List.length_take]; simp; omega) fun a4 c4 z4 N4 => N4
  · have : j = l.length := by
      have : ¬ (j : Int) < (l.length : Int) := g
      omega
    subst this
    rw [List.take_length] at Nz ⊢
    exact hK z a' c' Nz
theorem alike_spec (A : At h lb tb t full x L) (R : RefAt h x a c) (hl : L.length ≤ 1000000) (hc : ∀ d ∈ x.l, d.count < 9223372036854775808) (sum : ByteArray) (n : Int) (hK : ∀ h', Sub h h' → K (.bool true) h') :
    CallsH Try.prog law22_alike.id #[.pointer (some ⟨lb, 0, none⟩), refV x a c, .agg #[.string sum, .int .i64 n]] h K := by
  apply law22_alike.calls
  unfold law22_alike.W
  have hrl := R.len
  have hxl : x.l.length < 1000001 := by
    have h1 : kvPart (own t) L = x.ents t := A.has.part
    have h2 := congrArg List.length h1
    have h3 : (kvPart (own t) L).length ≤ L.length := List.length_filter_le _ _
    have h4 : x.l.length ≤ (x.ents t).length := by unfold Led.ents; simp
    omega
  refine ⟨fun m y => y = h ∧ m = ((((atH x.l sum n).map Hd.count).getD 0 : Nat) : Int), ?_, at_spec R.row (by omega) sum n ⟨_, rfl, ?_⟩⟩
  · rintro m y ⟨rfl, rfl⟩
    refine exists_spec A fun h1 s1 => ⟨_, rfl, s1, split_cond (fun _ => ?_) fun e => by simp at e⟩
    refine quota_spec (A.sub s1) fun h2 s2 => ⟨_, rfl, s1.trans s2, split_eq (fun _ => ?_) fun e => absurd rfl e⟩
    have t2 := s1.trans s2
    refine records_spec (A.sub t2) fun h3 s3 => ⟨_, rfl, t2.trans s3, split_eq (fun _ => ?_) fun e => absurd rfl e⟩
    have t3 := t2.trans s3
    refine bytes_spec (A.sub t3) fun h4 s4 => ⟨_, rfl, t3.trans s4, bytesR_spec (R.sub (t3.trans s4)) ⟨_, rfl, t3.trans s4, split_eq (fun _ => ?_) fun e => absurd rfl e⟩⟩
    have t4 := t3.trans s4
    refine usedL_spec (A.sub t4) fun h5 s5 => ⟨_, rfl, t4.trans s5, usedR_spec (R.sub (t4.trans s5)) ⟨_, rfl, t4.trans s5, split_eq (fun _ => ?_) fun e => absurd rfl e⟩⟩
    have t5 := t4.trans s5
    refine all_spec (A.sub t5) hl hc fun h6 a6 c6 N6 => ⟨_, _, _, rfl, t5.trans N6.sub, ?_⟩
    by_cases hx : x.l.length < 1000000
    · refine theirs_spec N6.own.row hx fun h7 a7 c7 N7 => ⟨_, _, _, rfl, (t5.trans N6.sub).trans N7.sub, ?_⟩
      have t7 := (t5.trans N6.sub).trans N7.sub
      refine sameR_spec N7.own.row (R.row.sub t7) (by omega) ⟨_, rfl, split_cond (fun _ => countL_spec (A.sub t7) hc sum n fun h8 s8 => ⟨_, rfl, ?_⟩) fun e => by cases e⟩
      rw [hb_eq]
      have : ((((((atH x.l sum n).map Hd.count).getD 0 : Nat) : Int)) == ((((atH x.l sum n).map Hd.count).getD 0 : Nat) : Int)) = true := by simp
      rw [this]
      exact hK h8 (t7.trans s8)
    · exfalso
      have h1 : kvPart (own t) L = x.ents t := A.has.part
      have h2 := congrArg List.length h1
      have h3 : (kvPart (own t) L).length ≤ L.length := List.length_filter_le _ _
      have h4 : x.l.length + 1 ≤ (x.ents t).length := by
        unfold Led.ents
        have : x.is = true := by
          cases hx2 : x.l with
          | nil => rw [hx2] at hx; simp at hx
          | cons d l => exact is_of A.has.ok (d := d) (by rw [hx2]; exact List.mem_cons_self)
        rw [this]; simp
      omega
  · cases hf : atH x.l sum n with
    | none =>
      rw [atV_none hf]
      exact split_dec (fun e => absurd e (by decide)) fun _ => ⟨rfl, by rfl⟩
    | some d =>
      obtain ⟨e1, hlt⟩ := atV_some hf
      rw [e1]
      obtain ⟨b, o, ea, hcell⟩ := R.row.get hdC_len (by decide) (atH_ix hf)
      exact split_dec (fun _ => ⟨by omega, by show ((ixH x.l sum n : Nat) : Int) < (x.l.length : Int); omega, b, o, ea, _, hcell 2 _ rfl, rfl, by rfl⟩) fun e => absurd (by omega) e

/-! ### steps -/
def Led.step (x : Led) (kind n : Int) (sum : ByteArray) (i : Int) (room : Bool) : Led × Int :=
  if kind = 0 then x.create n room else if kind = 1 then x.resize n else if kind = 2 then x.add sum i n room else if kind = 3 then x.drop sum i else if kind = 4 then x.record n else (x, 0)
theorem counts_step (ok : LedOk x) {m : Nat} (hc : ∀ d ∈ x.l, d.count < m) (h1 : 1 ≤ m) (kind n : Int) (sum : ByteArray) (i : Int) (room : Bool) : ∀ d ∈ (x.step kind n sum i room).1.l, d.count < m + 1 := by
  have up : ∀ {y : Led}, (∀ d ∈ y.l, d.count < m) → ∀ d ∈ y.l, d.count < m + 1 := fun h d hd => Nat.lt_succ_of_lt (h d hd)
  unfold Led.step
  split
  · exact up (counts_create hc n room)
  split
  · exact up (counts_resize hc n)
  split
  · exact counts_add ok hc h1 sum i n room
  split
  · exact up (counts_drop ok hc sum i)
  split
  · exact up (counts_record hc n)
  · exact up hc
/-- What may be relied on behind a step. -/
def NextS (h : Hp) (lb tb t : Nat) (full : Int) (L : List KV) (a : Option Addr) (x' : Led) (K : Value → Hp → Prop) : Prop :=
  ∀ h' L' a' c', Keep (fun b => b = tb) h h' → At h' lb tb t full x' L' → Own1 t L L' → L'.length ≤ L.length + 2 → RefAt h' x' a' c' → (∀ b, blkOf a' b → blkOf a b ∨ h b = none) → K (.tuple #[refV x' a' c', .bool true]) h'
theorem table_in (A : At h lb tb t full x L) : h tb ≠ none := by
  obtain ⟨a, c, h1, _⟩ := A.table
  rw [h1.get]; simp
theorem RefAt.keep {h' : Hp} (R : RefAt h x a c) (k : Keep (fun b => b = tb) h h') (hn : ∀ b, blkOf a b → b ≠ tb) : RefAt h' x a c := ⟨R.row.keep k fun b hb e => hn b hb e, R.cap, R.ok, R.len⟩
theorem step_spec (A : At h lb tb t full x L) (R : RefAt h x a c) (hL : L.length + 2 < 1000000) (hc : ∀ d ∈ x.l, d.count < 2147483648) (hn : ∀ b, blkOf a b → b ≠ tb) (kind n who : Int) (sum : ByteArray) (i : Int) (hnn : -9223372036854775808 ≤ n ∧ n ≤ 9223372036854775807)
    (hroom : x.step kind n sum i (roomy full L) = x.step kind n sum i true) (N : NextS h lb tb t full L a (x.step kind n sum i true).1 K) :
    CallsH Try.prog law22_step.id #[.pointer (some ⟨lb, 0, none⟩), refV x a c, .agg #[.int .i64 kind, .int .i64 n, .int .i64 who, .string sum, .int .i64 i]] h K := by
  apply law22_step.calls
  unfold law22_step.W
  have hxl : x.l.length < 1000000 := by
    have h1 : kvPart (own t) L = x.ents t := A.has.part
    have h2 := congrArg List.length h1
    have h3 : (kvPart (own t) L).length ≤ L.length := List.length_filter_le _ _
    have h4 : x.l.length ≤ (x.ents t).length := by unfold Led.ents; simp
    omega
  have hcc : ∀ d ∈ x.l, d.count < 9223372036854775807 := fun d hd => Nat.lt_trans (hc d hd) (by decide)
  have tin := table_in A
  -- both answers
  have both : ∀ (r : Led × Int) (h1 : Hp) (a1 : Option Addr) (c1 : Nat), (x.step kind n sum i true) = r → Sub h h1 → RefAt h1 r.1 a1 c1 → (∀ b, blkOf a1 b → blkOf a b ∨ h b = none) → Next h1 lb tb t full L r (fun v h' => ∃ m, v = .int .i64 m ∧ K (.tuple #[refV r.1 a1 c1, .bool (hb (m == r.2))]) h') := by
    intro r h1 a1 c1 hr s1 R1 hn1 h' L' k' A' O' hl'
    refine ⟨_, rfl, ?_⟩
    rw [hb_eq]
    have e : (r.2 == r.2) = true := by simp
    rw [e, ← hr]
    have hn2 : ∀ b, blkOf a1 b → b ≠ tb := fun b hb e => by
      rcases hn1 b hb with h2 | h2
      · exact hn b h2 e
      · rw [e] at h2; exact tin h2
    rw [← hr] at A' R1
    exact N h' L' a1 c1 ((s1.keep _).trans k') A' O' hl' (R1.keep k' hn2) hn1
  have hs : x.step kind n sum i (roomy full L) = x.step kind n sum i true := hroom
  refine split_eq (fun e => ?_) fun e0 => split_eq (fun e => ?_) fun e1 => split_eq (fun e => ?_) fun e2 => split_eq (fun e => ?_) fun e3 => split_eq (fun e => ?_) fun e4 => ?_
  · subst e
    have hr : x.step 0 n sum i true = x.create n true := rfl
    have hr2 : x.step 0 n sum i (roomy full L) = x.create n (roomy full L) := rfl
    refine createR_spec R n fun h1 a1 c1 s1 R1 hn1 => ⟨_, _, _, _, _, _, _, rfl, create_spec (A.sub s1) (by omega) n ?_⟩
    rw [← hr2, hs, hr]
    exact both _ h1 a1 c1 hr s1 R1 hn1
  · subst e
    have hr : x.step 1 n sum i true = x.resize n := rfl
    refine resizeR_spec R n fun h1 a1 c1 s1 R1 hn1 => ⟨_, _, _, _, _, _, _, rfl, resize_spec (A.sub s1) (by omega) n (both _ h1 a1 c1 hr s1 R1 hn1)⟩
  · subst e
    have hr : x.step 2 n sum i true = x.add sum i n true := rfl
    have hr2 : x.step 2 n sum i (roomy full L) = x.add sum i n (roomy full L) := rfl
    refine addR_spec R (by omega) sum i n hcc fun h1 a1 c1 s1 R1 hn1 => ⟨_, _, _, _, _, _, _, rfl, add_spec (A.sub s1) (by omega) hc sum i n ?_⟩
    rw [← hr2, hs, hr]
    exact both _ h1 a1 c1 hr s1 R1 hn1
  · subst e
    have hr : x.step 3 n sum i true = x.drop sum i := rfl
    refine dropR_spec R (by omega) sum i hcc fun h1 a1 c1 s1 R1 hn1 => ⟨_, _, _, _, _, _, _, rfl, drop_spec (A.sub s1) (by omega) hc sum i (both _ h1 a1 c1 hr s1 R1 hn1)⟩
  · subst e
    have hr : x.step 4 n sum i true = x.record n := rfl
    refine recordR_spec R n hnn fun h1 a1 c1 s1 R1 hn1 => ⟨_, _, _, _, _, _, _, rfl, record_spec (A.sub s1) (by omega) n hnn (both _ h1 a1 c1 hr s1 R1 hn1)⟩
  · have hr : x.step kind n sum i true = (x, 0) := by
      unfold Led.step
      rw [if_neg e0, if_neg e1, if_neg e2, if_neg e3, if_neg e4]
    rw [hr] at N
    have e : hb (Int.ofNat 0 == 0) = true := by rw [hb_eq]; rfl
    rw [e]
    exact N h L a c (Keep.refl _ _) A (Own1.refl A.has.sorted) (by omega) R fun b hb => .inl hb

/-! ### opening -/
def led0 : Led := ⟨false, 0, 0, []⟩
theorem led0_ok : LedOk led0 := ⟨List.Pairwise.nil, fun d hd => (by cases hd), fun d hd => (by cases hd), fun d hd => (by cases hd), Nat.zero_le _, Nat.le_refl _, fun _ => ⟨rfl, rfl, rfl⟩⟩
theorem ref0 (h : Hp) : RefAt h led0 none 0 := ⟨RowAt.nil _ _, Nat.le_refl _, led0_ok, by show 0 < 1073741824; decide⟩
theorem table_new {k : Nat} (hk : h k = none) (full : Int) : TableAt (h.upd k (.cells #[.slice none 0 0, .int .i64 full] 30 (0, 0))) k full [] :=
  ⟨none, 0, Blk.new _ _ _ _, Own.nil _ _ _⟩
theorem open_spec (T : TableAt h tb full L) (tenant : Int) (hs : kvSorted L) (ho : 1 ≤ tenant → tenant ≤ 8 → kvPart (own tenant.toNat) L = []) (hl : L.length < 2147483648)
    (h1 : ¬ (1 ≤ tenant ∧ tenant ≤ 8) → K (.tuple #[.pointer none, .int .i64 1]) h)
    (h2 : ∀ t : Nat, tenant = (t : Int) → 1 ≤ t → t ≤ 8 → ∀ lb h', Sub h h' → h lb = none → At h' lb tb t full led0 L → K (.tuple #[.pointer (some ⟨lb, 0, none⟩), .int .i64 0]) h') :
    CallsH Try.prog ledger_Open.id #[.iface 27 (.pointer (some ⟨tb, 0, none⟩)), .int .i64 tenant] h K := by
  apply ledger_Open_i.calls
  unfold ledger_Open_i.W
  refine split_dec (fun e => h1 (by omega)) fun e => split_dec (fun e => h1 (by omega)) fun e2 => fun lb hlb => ?_
  obtain ⟨t, rfl⟩ : ∃ t : Nat, tenant = (t : Int) := ⟨tenant.toNat, by omega⟩
  exact h2 t rfl (by omega) (by omega) lb _ (Sub.upd hlb _) hlb ⟨Blk.new _ _ _ _, T.sub (Sub.upd hlb _), ⟨hs, ho (by omega) (by omega), led0_ok⟩, by omega, by omega, hl⟩
end Go.Proofs.Ytlklpdedppgkfaa
