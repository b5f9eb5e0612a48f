/- The core of BtreeReads. Conditions: the texts lie in a row. Rows of slices as they are handed in; BtreeReads over them. Condition: none beyond the reading. The statement BtreeReads: for every input the law returns true and leaves its arguments as they were. Conditions: none beyond the statement's own. -/
import Derived.Test.YthbogjbcecmopaaGreatDoorPr07
import Derived.Test.YthbogjbcecmopaaGreatDoorRows
import Derived.WalkKit
import Derived.ProofKit
import Derived.OpenShut
import Derived.ShutString
import Derived.ChangeOld
import Derived.Below
import Derived.SizedLaws
import Derived.Test.YthbogjbcecmopaaGreatDoorTie
import Derived.Test.YthbogjbcecmopaaGreatDoorCards
import Derived.LaidMore
import Derived.Lay
import Derived.SevenTiedAt
import Derived.Stop.Joined
namespace Go.Proofs.YthbogjbcecmopaaGreatDoor
open Go.Gx
set_option maxRecDepth 100000
set_option linter.unusedVariables false
variable {h : Hp} {K : Value → Hp → Prop} {n tb pb jb db : Nat} {S : Nat → Prop} {D : Dk} {P : Pg}
theorem slice_take {h : Hp} {a : Option Addr} {n m : Nat} {xs : List Value} (H : SliceAt h a n xs) (hm : m ≤ n) : SliceAt h a m (xs.take m) := by
  obtain ⟨h1, h2⟩ := H
  refine ⟨by rw [List.length_take]; omega, ?_⟩
  rcases h2 with h2 | ⟨b, o, e, hc⟩
  · exact .inl (by omega)
  · refine .inr ⟨b, o, e, fun i hi => ?_⟩
    rw [List.length_take] at hi
    rw [hc i (by omega), List.getElem_take]
def filled1024 (l : List UInt8) : ByteArray := ⟨(l.take 1024 ++ List.replicate (1024 - l.length) 0).toArray⟩
theorem filled1024_size (l : List UInt8) : (filled1024 l).size = 1024 := by
  rw [← size_len]
  show (l.take 1024 ++ List.replicate (1024 - l.length) 0).length = 1024
  rw [List.length_append, List.length_take, List.length_replicate]; omega
theorem filled1024_put (l : List UInt8) : setL (repV 1024 [.int .u8 0]) 0 (rowC byteC (l.take 1024)) = bytesV (filled1024 l) := by
  have hl : (rowC byteC (l.take 1024)).length = min 1024 l.length := by rw [rowC_length byteC_len, List.length_take, Nat.mul_one]
  have := @setL_append [] (rowC byteC (List.replicate 1024 0)) (rowC byteC (l.take 1024)) 0 rfl (by rw [hl, rowC_length byteC_len, List.length_replicate]; omega)
  rw [List.nil_append, List.nil_append, hl] at this
  rw [← rowC_zeros, this]
  have h2 := rowC_drop byteC_len (List.replicate 1024 (0 : UInt8)) (min 1024 l.length)
  rw [Nat.mul_one] at h2
  rw [h2, ← rowC_append, List.drop_replicate, ← rowC_bytes]
  show _ = rowC byteC (l.take 1024 ++ List.replicate (1024 - l.length) 0)
  rw [show 1024 - min 1024 l.length = 1024 - l.length by omega]
theorem ppoint_any (E : PgAt h pb jb db S n D P) (k i : Int) (hF : ∀ v : Int, v ≠ 0 → K (.int .i64 v) h) (hG : ∀ t j : Nat, ∀ h', PgAt h' pb jb db S n D (P.point t j) → Step S h S h' → K (.int .i64 0) h') :
    CallsH Tryz.prog pager_Pager_Point.id #[.pointer (some ⟨pb, 0, none⟩), .int .i64 k, .int .i64 i] h K := by
  by_cases hk : 0 ≤ k ∧ k < 4
  · obtain ⟨t, rfl⟩ : ∃ t : Nat, k = (t : Int) := ⟨k.toNat, by omega⟩
    by_cases hi : i = 0 ∨ P.why n i = 0
    · obtain ⟨j, rfl⟩ : ∃ j : Nat, i = (j : Int) := by
        rcases hi with rfl | hi
        · exact ⟨0, rfl⟩
        · obtain ⟨j, e, _⟩ := why_ok hi
          exact ⟨j, e⟩
      exact ppoint_ok E (by omega) (hi.imp (fun e => by omega) id) fun h' E' st => hG t j h' E' st
    · apply pager_Pager_Point.calls
      unfold pager_Pager_Point.W
      refine split_dec (fun e => by omega) fun k0 => split_dec (fun e => by omega) fun k4 => ⟨fun x => False, fun x hx => hx.elim, split_ne (fun e => puse_spec E _ ⟨_, rfl, split_ne (fun e2 => hF _ fun e3 => hi (.inr e3)) fun e0 => absurd (.inr e0) hi⟩) fun e => absurd (.inl e) hi⟩
  · apply pager_Pager_Point.calls
    unfold pager_Pager_Point.W
    exact split_dec (fun _ => hF _ (by decide)) fun k0 => split_dec (fun _ => hF _ (by decide)) fun k4 => by omega
def bsC (q : Option Addr × Nat × List UInt8) : List Value := [.slice q.1 q.2.2.length q.2.1]
theorem bsC_len (q : Option Addr × Nat × List UInt8) : (bsC q).length = 1 := rfl
set_option maxHeartbeats 8000000 in
theorem reads_core {h : Hp} (la : Option Addr) (lc : Nat) (bs : List (Option Addr × Nat × List UInt8)) (hrow : RowAt bsC 1 h la bs) (hbs : ∀ q ∈ bs, RowAt byteC 1 h q.1 q.2.2) (root : Int) : CallsH Tryz.prog law15_BtreeReads.id #[.slice la bs.length lc, .int .i64 root] h fun v h' => v = .bool true ∧ Sub h h' := by
  apply law15_BtreeReads.calls
  unfold law15_BtreeReads.W
  have live : ∀ x, Sub h x → CallsH Tryz.prog law15_lives.id #[] x fun v h' => ∃ b : Bool, v = .bool b ∧ (Value.bool b = .bool true ∧ Sub h h') := fun x s => lives_spec fun h' s' => ⟨_, rfl, rfl, s.trans s'⟩
  have hh : ∀ s : ByteArray, beqS s s = true := fun s => by rw [beqS_val]; exact decide_eq_true rfl
  refine opened_spec 12 (by decide) (by decide) fun h2 tb0 pb jb db S s2 E0 fr T0 n2 nt => ⟨_, _, _, rfl, split_cond (fun e => by cases e) fun _ => split_dec (fun _ => split_not (fun _ => live h2 s2) fun e => by cases e) fun g11 => ?_⟩
  have g11 : bs.length ≤ 11 := by
    have : ¬ ((bs.length : Nat) : Int) > 11 := g11
    omega
  have f0 : newPg.freeN 12 = 11 := by decide
  refine ⟨fun i x m => ∃ (j : Nat) (P1 : Pg), i = (j : Int) ∧ j ≤ bs.length ∧ m = bs.length - j ∧ PgAt x pb jb db S 12 (Dk.new (8 * 12 + 1)) P1 ∧ Sub h x ∧ P1.freeN 12 = 11 - j, ⟨_, 0, newPg, rfl, Nat.zero_le _, rfl, E0, s2, f0⟩, ?_⟩
  rintro i x m ⟨j, P1, rfl, hj, rfl, E, sx, hf⟩
  refine split_dec (fun g => ?_) fun g => ?_
  · have g : ((j : Nat) : Int) < ((bs.length : Nat) : Int) := g
    obtain ⟨q, hq⟩ : ∃ q, bs[j]? = some q := ⟨_, List.getElem?_eq_getElem (by omega)⟩
    refine alloc_spec E (fun H => absurd H (free_some E (by omega))) fun id i1 i2 i3 _ h18 E18 st18 => ⟨_, _, rfl, by decide, by decide, by decide, by decide, fun k21 hk21 => ?_⟩
    have s18 : Sub h h18 := st18.1.sub sx fr
    have B0 : Blk (h18.upd k21 (.cells (repV 1024 [.int .u8 0]).toArray 5 (0, 0))) k21 5 (repV 1024 [.int .u8 0]) := Blk.new _ _ _ _
    have s21 : Sub h18 (h18.upd k21 (.cells (repV 1024 [.int .u8 0]).toArray 5 (0, 0))) := Sub.upd hk21 _
    generalize h18.upd k21 (.cells (repV 1024 [.int .u8 0]).toArray 5 (0, 0)) = y at B0 s21 ⊢
    obtain ⟨b, oo, ea, hc⟩ := (hrow.sub (s18.trans s21)).get bsC_len (by decide) hq
    have hqr := hbs q (List.mem_of_getElem? hq)
    have exs : (rowC byteC q.2.2).take (cpyM q.2.2.length 1024) = rowC byteC (q.2.2.take 1024) := by
      have e : cpyM q.2.2.length 1024 = min q.2.2.length 1024 := rfl
      have := rowC_take byteC_len q.2.2 (min q.2.2.length 1024)
      rw [Nat.mul_one] at this
      rw [e, this]
      congr 1
      by_cases h' : q.2.2.length ≤ 1024
      · rw [Nat.min_eq_left h', List.take_of_length_le (Nat.le_refl _), List.take_of_length_le h']
      · rw [Nat.min_eq_right (by omega)]
    have hqr2 := hqr.sub (s18.trans s21)
    unfold RowAt at hqr2
    rw [Nat.mul_one] at hqr2
    have hH := slice_take hqr2 (m := cpyM q.2.2.length 1024) (by show min q.2.2.length 1024 ≤ _; omega)
    rw [exs] at hH
    have hl2 : (rowC byteC (q.2.2.take 1024)).length ≤ 1024 := by rw [rowC_length byteC_len, List.length_take]; omega
    refine ⟨by omega, g, b, oo, ea, q.1, q.2.2.length, q.2.1, by rw [Int.toNat_natCast]; exact hc 0 _ rfl, _, hH, fun x => Sub h18 x ∧ Blk x k21 5 (bytesV (filled1024 q.2.2)), ?_, .inr ⟨k21, 0, rfl, rowC_plain byteC_plain _, B0.store (by rw [rep1024_len]; omega), ?_, ?_⟩⟩
    rotate_left
    · exact (Keep.put (fun c => c = k21) _ _ _ rfl).sub s21 fun c e => by rw [e]; exact hk21
    · have := B0.put 0 (rowC byteC (q.2.2.take 1024))
      rw [filled1024_put] at this
      exact this
    rintro z ⟨sz, Bz⟩
    have hbsz := filled1024_size q.2.2
    have hbl : (bytesV (filled1024 q.2.2)).length = 1024 := by rw [← rowC_bytes, rowC_length byteC_len, size_len, hbsz]
    have hw : (P1.alloc id).why 12 (id : Nat) = 0 := why_i i1 i2 (upU_same _ _ _)
    refine split_ne (fun e => absurd rfl e) fun _ => ⟨_, Bz.slice hbl, pwrite_spec (E18.sub sz) _ _ (fun e => absurd hw e) (fun _ e => absurd hbsz e) fun k' ek _ _ h32 E32 st32 => ⟨_, rfl, split_ne (fun e => absurd rfl e) fun _ => ⟨bs.length - (j + 1), by omega, j + 1, _, by rw [wid (by omega) (by omega)]; omega, by omega, rfl, E32, st32.1.sub (s18.trans sz) fr, ?_⟩⟩⟩
    have h1 := freeN_alloc (P := P1) i3 12
    rw [if_pos i2] at h1
    have h2 : ((P1.alloc id).write k' (filled1024 q.2.2)).freeN 12 = (P1.alloc id).freeN 12 := rfl
    rw [h2]; omega
  refine ppoint_any E 2 root (fun v hv => ⟨_, rfl, split_ne (fun _ => live x sx) fun e => absurd e hv⟩) fun t' j' h36 E36 st36 => ⟨_, rfl, split_ne (fun e => absurd rfl e) fun _ => ?_⟩
  have s36 : Sub h h36 := st36.1.sub sx fr
  generalize P1.point t' j' = P2 at E36
  refine open_spec E36 (k := 2) (by decide) (fun h42 tb s42 n42 T42 ⟨hg, L, I, TT⟩ => ⟨_, _, rfl, split_ne (fun e => absurd rfl e) fun _ => ?_⟩) fun no h42 s42 => ⟨_, _, rfl, split_ne (fun _ => split_cond (fun _ => split_eq (fun _ => live h42 (s36.trans s42)) fun e => absurd rfl e) fun e => by cases e) fun e => by cases e⟩
  have E42 := E36.sub s42
  have sm := TT.small (pgs_ok E36)
  have few := TT.few (n := 12) (pgs_ok E36) fun i hi => (pgs_lt hi).2
  refine all_spec E42 T42 (by decide) TT fun h49 xa xc N => ⟨_, _, _, rfl, ?_⟩
  have E49 := E42.sub N.sub
  have T49 : TrAt h49 tb pb 2 := Blk.sub T42 N.sub
  have s49 := (s36.trans s42).trans N.sub
  have row : SliceAt h49 xa (L.length * 2) (kvCells L) := N.own.row
  refine ⟨fun i y m => ∃ j : Nat, i = (j : Int) ∧ j ≤ L.length ∧ m = L.length - j ∧ Sub h49 y, ⟨_, 0, rfl, Nat.zero_le _, rfl, Sub.refl _⟩, ?_⟩
  rintro i y m ⟨j, rfl, hj, rfl, sy⟩
  refine split_dec (fun g => ?_) fun g => ?_
  · have g : ((j : Nat) : Int) < ((L.length : Nat) : Int) := g
    obtain ⟨p, hp⟩ : ∃ p, L[j]? = some p := ⟨_, List.getElem?_eq_getElem (by omega)⟩
    have hm := sm.1 p (List.mem_of_getElem? hp)
    have kg : kvGet p.1 L = some p.2 := (kvGet_iff sm.2 _ _).2 (List.mem_of_getElem? hp)
    obtain ⟨b1, o1, e1, c1, c2⟩ := kv_cell (row.sub sy) hp
    refine ⟨by omega, g, b1, o1, e1, _, by rw [Int.toNat_natCast]; exact c1, get_spec (E49.sub sy) (Blk.sub T49 sy) (by decide) TT p.1 fun h62 s62 => ⟨_, _, rfl, ?_⟩⟩
    rw [kg]
    have sz := sy.trans s62
    have cell := fun (i : Nat) (q : KV) (hq : L[i]? = some q) => kv_cell (row.sub sz) hq
    obtain ⟨b2, o2, e2, d1, d2⟩ := cell j p hp
    refine split_not (fun e => by cases e) fun _ => ⟨by omega, g, b2, o2, e2, _, by rw [Int.toNat_natCast]; exact d2, ?_⟩
    show bif !beqS p.2 p.2 then _ else _
    rw [hh]
    refine split_not (fun e => by cases e) fun _ => ?_
    have rest : ∀ (Kr : Hp → Prop), (∀ h87, Sub h62 h87 → Kr h87) → CallsH Tryz.prog ref08_May.id #[.string p.1, .string p.2] h62 fun v80 h81 => ∃ b82, v80 = .bool b82 ∧ bif !b82 then (Value.bool false = .bool true ∧ Sub h h81) else
        (0 ≤ ((j : Nat) : Int) ∧ ((j : Nat) : Int) < Int.ofNat L.length ∧ ∃ k83 k84, xa = some ⟨k83, k84, none⟩ ∧ ∃ s85, h81.cell k83 (k84 + ((j : Nat) : Int).toNat * 2) = some (.string s85) ∧ CallsH Tryz.prog law15_beside.id #[.pointer (some ⟨tb, 0, none⟩), .slice xa L.length xc, .string s85] h81 fun v86 h87 => ∃ b88, v86 = .bool b88 ∧ bif !b88 then (Value.bool false = .bool true ∧ Sub h h87) else Kr h87) := fun Kr hKr => by
      refine refMay_spec p.1 p.2 ⟨_, rfl, ?_⟩
      rw [hm]
      refine split_not (fun e => by cases e) fun _ => ⟨by omega, g, b2, o2, e2, _, by rw [Int.toNat_natCast]; exact d1, beside_spec (E49.sub sz) (Blk.sub T49 sz) (by decide) TT (row.sub sz) (by omega) p.1 (by have := (may_size hm).2.1; omega) fun h87 s87 => ⟨_, rfl, split_not (fun e => by cases e) fun _ => hKr h87 s87⟩⟩
    have next : IntKind.i64.wrap ((j : Int) + 1) = ((j + 1 : Nat) : Int) := by rw [wid (by omega) (by omega)]; omega
    have go : ∀ h87, Sub h62 h87 → ∃ q, q < L.length - j ∧ ∃ j' : Nat, IntKind.i64.wrap ((j : Int) + 1) = (j' : Int) ∧ j' ≤ L.length ∧ q = L.length - j' ∧ Sub h49 h87 := fun h87 s87 => ⟨L.length - (j + 1), by omega, j + 1, next, by omega, rfl, sz.trans s87⟩
    refine split_dec (fun gp => ?_) fun gp => ⟨by omega, g, b2, o2, e2, _, by rw [Int.toNat_natCast]; exact d1, by omega, g, b2, o2, e2, _, by rw [Int.toNat_natCast]; exact d2, rest _ go⟩
    have gp : ((j : Nat) : Int) > 0 := gp
    have ei : IntKind.i64.wrap ((j : Int) - 1) = ((j - 1 : Nat) : Int) := by rw [wid (by omega) (by omega)]; omega
    rw [ei]
    obtain ⟨p0, hp0⟩ : ∃ p0, L[j - 1]? = some p0 := ⟨_, List.getElem?_eq_getElem (by omega)⟩
    obtain ⟨b3, o3, e3, f1, f2⟩ := cell (j - 1) p0 hp0
    refine ⟨by omega, by show ((j - 1 : Nat) : Int) < ((L.length : Nat) : Int); omega, b3, o3, e3, _, by rw [Int.toNat_natCast]; exact f1, by omega, g, b2, o2, e2, _, by rw [Int.toNat_natCast]; exact d1, ?_⟩
    rw [bltS_val, show blt p0.1 p.1 = true from sorted_lt sm.2 hp0 hp (by omega)]
    exact split_not (fun e => by cases e) fun _ => ⟨by omega, g, b2, o2, e2, _, by rw [Int.toNat_natCast]; exact d1, by omega, g, b2, o2, e2, _, by rw [Int.toNat_natCast]; exact d2, rest _ go⟩
  · refine len_spec (E49.sub sy) (Blk.sub T49 sy) (by decide) TT fun h107 s107 => ⟨_, rfl, split_eq (fun _ => live h107 ((s49.trans sy).trans s107)) fun e => absurd rfl e⟩
end Go.Proofs.YthbogjbcecmopaaGreatDoor
namespace Go.Proofs.YthbogjbcecmopaaGreatDoor
open Go.Gx Go.RowKit
set_option maxRecDepth 100000
set_option linter.unusedVariables false
def RowOk2 (P : Program) (w : World) (e2 : TypeId) (a : Option Addr) (l : Nat) : Prop :=
  ∀ i, i < l → ∃ b o, a = some ⟨b, o, none⟩ ∧ ∃ a' l' c', (heapOf w).cell b (o + i) = some (.slice a' l' c') ∧ RowOk P w e2 a' l'
theorem row_ok2 {H : Type} {enc : TypeId × Value → H} {P : Program} {w : World} {sp : Nat → Bool} {t e e2 : TypeId} {v : Value} {d : DataW H} {ps : List MemPlace} {a : Option Addr} {l c : Nat} (ht : P.underlying t = some (.slice e)) (he : P.underlying e = some (.slice e2)) (hlay : layOk P 8 e2 = true) (hpos : Nat.blt 0 (P.cellsOf e2) = true) (hv : v = .slice a l c)
    (h : DataW.Trod enc P w 0 sp true t v d ps) : RowOk2 P w e2 a l := by
  subst hv
  obtain ⟨fuel, hf⟩ := h
  rcases Deep.open_slice ht hf with ⟨hcs, _⟩ | ⟨ad, len, cap, m, n, D, Pl, hcs, _, hl, hm, hmm, _, hel⟩
  · simp [Value.cells] at hcs
    obtain ⟨rfl, rfl, rfl⟩ := hcs
    exact fun i hi => by omega
  · simp [Value.cells] at hcs
    obtain ⟨rfl, rfl, rfl⟩ := hcs
    intro i hi
    have him : i < m := by
      have : l ≤ m := by rw [hmm]; split <;> omega
      omega
    have one : ∀ cs x, DataW.trod enc P w 0 sp true n e cs = some x → ∃ a' l' c', cs = [.slice a' l' c'] := fun cs x hx => by
      rcases Deep.open_slice he hx with ⟨hcs, _⟩ | ⟨ad2, len2, cap2, m2, n2, D2, Pl2, hcs, _⟩
      · exact ⟨_, _, _, hcs⟩
      · exact ⟨_, _, _, hcs⟩
    obtain ⟨cs0, k1, k2⟩ := hel 0 (by omega)
    obtain ⟨a0, l0, c0, e0⟩ := one _ _ k2
    subst e0
    have hs : ad.spot = none := by
      have g3 := (cells?_get k1).2 0 (by show 0 < 1; decide)
      have := spot_none g3
      simpa [Addr.add] using this
    obtain ⟨cs, h1, h2⟩ := hel i him
    obtain ⟨a', l', c', e'⟩ := one _ _ h2
    subst e'
    have g2 := (cells?_get h1)
    have hsz : P.cellsOf e = 1 := g2.1.symm
    have g3 := g2.2 0 (by show 0 < 1; decide)
    obtain ⟨b, o, s⟩ := ad
    simp only at hs
    subst hs
    refine ⟨b, o, rfl, a', l', c', ?_, (row_ok (d := (D i)) (ps := (Pl i)) he hlay hpos rfl ⟨n, h2⟩).1⟩
    rw [add_mk, add_mk, hsz, Nat.mul_one, Nat.add_zero] at g3
    exact heapOf_cell g3
theorem bytes_row {W : World} {a : Option Addr} {l : Nat} (hr : RowOk Tryz.prog W 5 a l) : ∃ bs : List UInt8, bs.length = l ∧ RowAt byteC 1 (heapOf W) a bs := by
  have ek : kds Tryz.prog 5 = [.int .u8] := by kernel_rfl
  have es : Tryz.prog.cellsOf 5 = 1 := by kernel_rfl
  obtain ⟨os, h1, h2, _⟩ := hr.row (f := byteC) (sz := 1) (p := fun _ => True) byteC_len (by decide) es fun cs hk => by
    rw [ek] at hk
    obtain ⟨_, _, rfl, ⟨u, rfl, wu⟩, k1⟩ := hk.cons_eq
    obtain rfl := k1.nil_eq
    have h2 := (Bool.and_eq_true_iff.1 (show (decide (IntKind.u8.min ≤ u) && decide (u ≤ IntKind.u8.max)) = true from wu))
    have h3 := of_decide_eq_true h2.1
    have h4 := of_decide_eq_true h2.2
    have e3 : IntKind.u8.min = 0 := by decide
    have e4 : IntKind.u8.max = 255 := by decide
    refine ⟨UInt8.ofNat u.toNat, ?_, trivial⟩
    unfold byteC
    have : ((UInt8.ofNat u.toNat).toNat : Nat) = u.toNat := by rw [u8N]; omega
    rw [this, Int.toNat_of_nonneg (by omega)]
  exact ⟨os, h1, h2⟩
theorem bs_row {W : World} {a : Option Addr} {l : Nat} (hr : RowOk2 Tryz.prog W 5 a l) : ∃ bs : List (Option Addr × Nat × List UInt8), bs.length = l ∧ RowAt bsC 1 (heapOf W) a bs ∧ ∀ q ∈ bs, RowAt byteC 1 (heapOf W) q.1 q.2.2 := by
  by_cases hl : l = 0
  · subst hl
    exact ⟨[], rfl, RowAt.nil _ _, fun x hx => by cases hx⟩
  obtain ⟨b, o, ea, _⟩ := hr 0 (by omega)
  have all : ∀ n, n ≤ l → ∃ bs : List (Option Addr × Nat × List UInt8), bs.length = n ∧ CellsAt (heapOf W) b o (rowC bsC bs) ∧ ∀ q ∈ bs, RowAt byteC 1 (heapOf W) q.1 q.2.2 := by
    intro n
    induction n with
    | zero => exact fun _ => ⟨[], rfl, fun i hi => by simp [rowC] at hi, fun x hx => by cases hx⟩
    | succ n ih =>
      intro hn
      obtain ⟨bs, h1, h2, h3⟩ := ih (by omega)
      obtain ⟨b', o', ea', a', l', c', hc, hr2⟩ := hr n (by omega)
      rw [ea] at ea'; cases ea'
      obtain ⟨xs, hx1, hx2⟩ := bytes_row hr2
      refine ⟨bs ++ [(a', c', xs)], by simp [h1], fun i hi => ?_, fun q hq => ?_⟩
      · have hlen := rowC_length bsC_len bs
        rw [h1, Nat.mul_one] at hlen
        have hg : (rowC bsC (bs ++ [(a', c', xs)]))[i]? = some (rowC bsC (bs ++ [(a', c', xs)]))[i] := List.getElem?_eq_getElem hi
        rw [← hg]
        rw [rowC_length bsC_len, List.length_append, List.length_singleton, h1, Nat.mul_one] at hi
        rw [rowC_append, rowC_one]
        by_cases hc' : i < (rowC bsC bs).length
        · rw [List.getElem?_append_left hc', List.getElem?_eq_getElem hc']; exact h2 i hc'
        · have : i = n := by omega
          subst this
          rw [List.getElem?_append_right (by omega), hlen, Nat.sub_self]
          show _ = some (Value.slice a' xs.length c')
          rw [hx1]; exact hc
      · rcases List.mem_append.1 hq with hq | hq
        · exact h3 q hq
        · rw [List.mem_singleton.1 hq]; exact hx2
  obtain ⟨bs, h1, h2, h3⟩ := all l (Nat.le_refl _)
  refine ⟨bs, h1, ⟨rowC_length bsC_len bs, .inr ⟨b, o, ea, h2⟩⟩, h3⟩
theorem reads_all (W : World) (a : Option Addr) (l c : Nat) (hr : RowOk2 Tryz.prog W 5 a l) (root : Int) {p : Prop} (_ : p) :
    CallsH Tryz.prog law15_BtreeReads.id #[.slice a l c, .int .i64 root] (heapOf W) fun v h' => v = .bool true ∧ Sub (heapOf W) h' := by
  obtain ⟨bs, rfl, h1, h2⟩ := bs_row hr
  exact reads_core a c bs h1 h2 root
end Go.Proofs.YthbogjbcecmopaaGreatDoor
namespace Go.Proofs.YthbogjbcecmopaaGreatDoor.btreeReads
open Go.ChangeShapes Go.WideShapes Go.ChangeAt Go.RowKit Go.Gx
open Go.ChangeMaps (open_string shut_string)
set_option linter.unusedVariables false
theorem own : ownKnob Tryz.prog.godebug = none := by kernel_rfl
theorem laidOut : laidOutB Tryz.prog = true := by kernel_rfl
set_option maxRecDepth 100000 in
theorem lifted (os : Os) (started : os.Started) (H : Type) (enc : TypeId × Value → H) :
    ReturnsInHanded {} Tryz.checked os 3 .any (fun w args => (Rows.btreeReadsSpec.pre enc Tryz.prog Tryz.f3 Rows.btreeReadsRow.domain false w args ∧ laidMetH Tryz.prog Rows.btreeReadsRow.laid w) ∧ sizedMet enc Tryz.prog Tryz.f3 (OpenSpec.ofChange Rows.btreeReadsSpec) false w args) (Rows.btreeReadsSpec.post enc Tryz.prog Tryz.f3 false true false false) := by
  refine returnsInHanded_of_change_and (C := Tryz.checked) (X := fun w _ => laidMetH Tryz.prog Rows.btreeReadsRow.laid w) (fun _ _ _ hh h => h.of_heap hh) own started (by kernel_rfl) Tryz.func3
    (ChangeSpec.witness_shaped (enc := enc) (C := Tryz.checked) (os := os) (X := fun w _ => laidMetH Tryz.prog Rows.btreeReadsRow.laid w) false (World.laidAll Tryz.prog os Rows.btreeReadsRow.laid) #[.slice none 0 0, .int .i64 0] 8 (World.laidAll_os _ _ _)
      (World.shaped_of_ZipB (by kernel_rfl) (by kernel_rfl)) (by kernel_rfl) (by kernel_rfl) (by kernel_rfl)
      (by rw [MakeChecks.laidMetH_plain _ _ _ (by kernel_rfl)]; exact laidMet_laidAll _ (by kernel_rfl) (by kernel_rfl))) ?_
  intro W base args ds gs before hval0 hW hcnd hz _ _
  have hval : ∀ (j : Nat) t v, Tryz.f3.params[j]? = some t → args[j]? = some v → Value.okWide Tryz.prog W .any base t v := hval0
  have hW' := hW
  obtain ⟨p, q, hA0, hV, rfl, hfz, hnd⟩ := hW
  have hA : DataW.TrodAll enc Tryz.prog W 0 (fun _ => true) true Tryz.f3.params.toList args.toList ds p := hA0
  rw [Tryz.params3] at hA hval
  obtain ⟨v0, vs0, d0, ds0, p0, q0, hargs, rfl, rfl, h0, r0⟩ := trodAll_cons hA
  obtain ⟨v1, vs1, d1, ds1, p1, q1, rfl, rfl, rfl, h1, r1⟩ := trodAll_cons r0
  obtain ⟨rfl, rfl, rfl⟩ := trodAll_nil r1
  obtain rfl : args = #[v0, v1] := by cases args; simp_all
  obtain ⟨rfl, rfl⟩ := trodVars_none hV
  have k0 := h0
  have lt0 : ∀ x ∈ p0, x.block < W.heap.size := by obtain ⟨m, hm⟩ := k0; exact DataW.trod_lt m _ _ _ hm
  obtain ⟨a0, l0, c0, rfl⟩ := okWide_slice Tryz.underlying22 (hval 0 22 v0 rfl rfl)
  have w0 := row_ok2 Tryz.underlying22 Tryz.underlying32 (by kernel_rfl) (by kernel_rfl) rfl h0
  have k1 := h1
  have lt1 : ∀ x ∈ p1, x.block < W.heap.size := by obtain ⟨m, hm⟩ := k1; exact DataW.trod_lt m _ _ _ hm
  obtain ⟨a1, rfl, rfl, rfl, w1⟩ := open_int Tryz.underlying3 (hval 1 3 v1 rfl rfl) h1
  clear hA0 hval0
  refine (calls_below (reads_all W a0 l0 c0 w0 a1 w1)).mono fun e W' ⟨he, bel⟩ => ?_
  subst he
  exact ⟨_, rfl, _, _, _, [], _, [], hW', trodAll_mk1 (shut_bool Tryz.underlying4 _), (trodAll_cons_mk (Below.trod laidOut (by kernel_rfl) (of_decide_eq_true (by kernel_rfl)) k0 bel lt0) (trodAll_cons_mk (Below.trod laidOut (by kernel_rfl) (of_decide_eq_true (by kernel_rfl)) k1 bel lt1) trodAll_mk0)), rfl, bel.frame _, fun h => by cases h⟩
theorem over : Rows.btreeReadsRow.holds Tryz.pinned (OpenSpec.ofChange Rows.btreeReadsSpec) :=
  OpenClaim.holds_of_wide 3 Tryz.f3 rfl rfl rfl rfl rfl rfl rfl ⟨rfl, rfl, rfl, rfl, rfl⟩ rfl rfl rfl rfl rfl (by kernel_rfl) Tryz.func3 (by kernel_rfl)
    (of_decide_eq_true (by kernel_rfl)) (by unfold Func.isWrapper; first | (rw [if_pos (by decide +kernel)]; kernel_rfl) | (rw [if_neg (by decide +kernel)]; exact ⟨rfl, rfl⟩))
    (fun os started H enc _ => lifted os started H enc)
theorem proved : Rows.BtreeReadsSaid := over
end Go.Proofs.YthbogjbcecmopaaGreatDoor.btreeReads
namespace Go.Proofs.YthbogjbcecmopaaGreatDoor
theorem btreeReads_holds : Rows.BtreeReadsCardSaid :=
  Claim7.holds_tied_plain_at .later [] [.data, .pinned] true (true, "88b840c6857e141b8992512d7463ed0858dbf39f2fe20160b127cdf65cb1e027") true
    btreeReads.proved (fun _ h => by cases h) (by kernel_rfl) (fun _ h => by cases h) btreeReads_row_tie rfl ⟨rfl, rfl⟩ (by kernel_rfl) rfl
    (fun f fn hf hfn => by
      obtain rfl : f = 3 := Option.some.inj ((show Tryz.prog.funcNamed Rows.btreeReadsRow.func = some 3 by kernel_rfl).symm.trans hf) |>.symm
      obtain rfl : fn = Tryz.f3 := (Option.some.inj (Tryz.func3.symm.trans hfn)).symm
      exact ⟨by kernel_rfl, fun j t ht => by
        rw [Tryz.params3] at ht
        have hm : t ∈ [22, 3] := by simpa using Array.mem_of_getElem? ht
        have hall : ([22, 3].all fun u => !Tryz.prog.wantsStandIn u) = true := by kernel_rfl
        exact (show Tryz.prog.wantsStandIn t = false by simpa using List.all_eq_true.1 hall t hm)⟩)
    (by kernel_rfl)
#print axioms btreeReads_holds
end Go.Proofs.YthbogjbcecmopaaGreatDoor
