/- The reference's functions on states of so many pages: that they answer, with states of as many pages. Conditions: the states lie in memory. -/
import Derived.Test.YtagglohkipioiaaGreatP17
import Derived.Test.YtagglohkipioiaaGreatP9
import Derived.Test.YtagglohkipioiaaGreatGC
namespace Go.Proofs.YtagglohkipioiaaGreat
open Go.Gx
set_option maxRecDepth 100000
set_option linter.unusedVariables false

/-- A state of the reference's. -/
structure RS where
  ua : Option Addr
  uc : Nat
  da : Option Addr
  dc : Nat
  us : List Bool
  ds : List ByteArray
  r : Nat → Nat
  s : Nat
def rsC (x : RS) : List Value := stC x.ua x.us.length x.uc x.da x.ds.length x.dc x.r x.s
theorem rsC_len (x : RS) : (rsC x).length = 7 := rfl
theorem rsC_plain (x : RS) : plainP (rsC x) := plainP_of rfl
structure RSOk (h : Hp) (n : Nat) (x : RS) : Prop where
  lu : x.us.length = n
  ld : x.ds.length = n
  ru : RowAt boolC 1 h x.ua x.us
  rd : RowAt strC 1 h x.da x.ds
  rt : ∀ k, k < 4 → x.r k < 128
theorem RSOk.keep {S : Nat → Prop} {h h' : Hp} {n : Nat} {x : RS} (R : RSOk h n x) (s : Keep S h h') (hu : ∀ c, blkOf x.ua c → ¬ S c) (hd : ∀ c, blkOf x.da c → ¬ S c) : RSOk h' n x :=
  ⟨R.lu, R.ld, R.ru.keep s hu, R.rd.keep s hd, R.rt⟩
theorem RSOk.sub {h h' : Hp} {n : Nat} {x : RS} (R : RSOk h n x) (s : Sub h h') : RSOk h' n x := ⟨R.lu, R.ld, R.ru.sub s, R.rd.sub s, R.rt⟩
/-- A state that comes of another one. -/
structure RSTo (h h' : Hp) (n : Nat) (x y : RS) : Prop where
  sub : Sub h h'
  ok : RSOk h' n y
  fu : ∀ c, blkOf y.ua c → blkOf x.ua c ∨ h c = none
  fd : ∀ c, blkOf y.da c → blkOf x.da c ∨ h c = none
theorem RSTo.same {h h' : Hp} {n : Nat} {x : RS} (R : RSOk h n x) (s : Sub h h') : RSTo h h' n x x := ⟨s, R.sub s, fun _ h => .inl h, fun _ h => .inl h⟩
theorem RSTo.back {h0 h h' : Hp} {n : Nat} {x y : RS} (T : RSTo h h' n x y) (s : Sub h0 h) : RSTo h0 h' n x y := ⟨s.trans T.sub, T.ok, fun c hc => (T.fu c hc).imp id fun h => s.none h, fun c hc => (T.fd c hc).imp id fun h => s.none h⟩
variable {h : Hp} {n : Nat} {x : RS} {K : Value → Hp → Prop}
theorem rwhy_spec (R : RSOk h n x) (id : Int) (hK : ∀ v, (v = 0 → ∃ i : Nat, id = (i : Int) ∧ 1 ≤ i ∧ i < n) → K (.int .i64 v) h) : CallsH Tryz.prog ref14_why.id #[.agg (rsC x).toArray, .int .i64 id] h K := by
  have hlu := R.lu
  apply ref14_why.calls
  unfold ref14_why.W
  refine split_dec (fun _ => hK 9 fun e => absurd e (by decide)) fun e1 => split_dec (fun _ => hK 9 fun e => absurd e (by decide)) fun e2 => ?_
  obtain ⟨i, rfl⟩ : ∃ i : Nat, id = (i : Int) := ⟨id.toNat, by omega⟩
  have hi : i < x.us.length := by
    have : ¬ (i : Int) ≥ (x.us.length : Int) := e2
    omega
  obtain ⟨b, o, ea, hc⟩ := R.ru.get boolC_len (by decide) (List.getElem?_eq_getElem hi)
  refine ⟨by omega, by show (i : Int) < (x.us.length : Int); omega, b, o, ea, _, by rw [Int.toNat_natCast]; exact hc 0 _ rfl, split_not (fun _ => hK 6 fun e => absurd e (by decide)) fun _ => hK 0 fun _ => ⟨i, rfl, by omega, by omega⟩⟩
theorem rwith_spec (R : RSOk h n x) {i : Nat} (hi : i < n) (hn : n ≤ 128) (used : Bool) (data : ByteArray) (hK : ∀ h' y, RSTo h h' n x y → K (.agg (rsC y).toArray) h') :
    CallsH Tryz.prog ref14_with.id #[.agg (rsC x).toArray, .int .i64 (i : Nat), .bool used, .string data] h K := by
  have hlu := R.lu
  have hld := R.ld
  apply ref14_with.calls
  unfold ref14_with.W
  refine ⟨_, R.ru, fun a c y => NewR boolC 1 4 h y a c x.us, ?_, append_row appTBool boolC_len boolC_plain (M := x.us) (NewR.nil _ _) rfl rfl rfl (by show (2 * (0 + x.us.length) + 768) * 1 ≤ _; omega) fun a' c' y N => N⟩
  intro a3 c3 h5 N5
  refine ⟨_, R.rd.sub N5.sub, fun a c y => NewR strC 1 9 h5 y a c x.ds, ?_, append_row appTStr strC_len strC_plain (M := x.ds) (NewR.nil _ _) rfl rfl rfl (by show (2 * (0 + x.ds.length) + 768) * 16 ≤ _; omega) fun a' c' y N => N⟩
  intro a8 c9 h10 N10
  have Nu := N5.upd N10.sub
  obtain ⟨b1, e1, so1, N1⟩ := Nu.put boolC_len (i := i) (j := 0) (y := used) (vs := [.bool used]) (List.getElem?_eq_getElem (by omega)) (by decide) (Nat.le_refl _) rfl
  have hne : ∀ c, blkOf a8 c → c ≠ b1 := fun c hc e => by
    have h1 := N10.new c hc
    exact Own.in_heap N5.own ⟨0, none, by rw [e1, e]⟩ h1
  have k1 : Keep (fun c => c = b1) h10 (h10.put b1 (0 + i * 1 + 0) [.bool used]) := Keep.put _ _ _ _ rfl
  have Nd : NewR strC 1 9 h (h10.put b1 (0 + i * 1 + 0) [.bool used]) a8 c9 x.ds := ⟨N1.sub, fun c hc => N5.sub.none (N10.new c hc), N10.own.keep k1 fun c hc e => hne c hc e⟩
  obtain ⟨b2, e2, so2, N2⟩ := Nd.put strC_len (i := i) (j := 0) (y := data) (vs := [.string data]) (List.getElem?_eq_getElem (by omega)) (by decide) (Nat.le_refl _) rfl
  have idx : ∀ k : Nat, k + (i : Int).toNat * 1 = k + i * 1 + 0 := fun k => by rw [Int.toNat_natCast]; rfl
  refine ⟨by omega, by show (i : Int) < ((0 + x.us.length : Nat) : Int); omega, b1, 0, e1, by rw [idx]; exact so1, by omega, by show (i : Int) < ((0 + x.ds.length : Nat) : Int); omega, b2, 0, e2, by rw [idx]; exact so2, ?_⟩
  rw [idx]
  have k2 : Keep (fun c => c = b2) (h10.put b1 (0 + i * 1 + 0) [.bool used]) ((h10.put b1 (0 + i * 1 + 0) [.bool used]).put b2 (0 + i * 1 + 0) [.string data]) := Keep.put _ _ _ _ rfl
  have N1' := N1.own.row.keep k2 fun c hc e => hne b2 ⟨0, none, e2⟩ (by
    obtain ⟨o, s, e'⟩ := hc
    rw [e1] at e'; cases e'; exact e.symm)
  have := hK _ ⟨a3, c3, a8, c9, x.us.set i used, x.ds.set i data, x.r, x.s⟩ ⟨N2.sub, ⟨by rw [List.length_set]; exact hlu, by rw [List.length_set]; exact hld, N1', N2.own.row, R.rt⟩, fun c hc => .inr (N5.new c hc), fun c hc => .inr (Nd.new c hc)⟩
  unfold rsC stC at this
  rw [List.length_set, List.length_set] at this
  rw [Nat.zero_add, Nat.zero_add]; exact this
/-- What a function of the reference's that changes a state answers. -/
def RAns (h : Hp) (n : Nat) (x : RS) (K : Value → Hp → Prop) : Prop := ∀ h' y e, RSTo h h' n x y → K (.tuple #[.agg (rsC y).toArray, .int .i64 e]) h'
theorem rwrite_spec (R : RSOk h n x) (hn : n ≤ 128) (id : Int) (s : ByteArray) (hK : RAns h n x K) : CallsH Tryz.prog ref14_Write.id #[.agg (rsC x).toArray, .int .i64 id, .string s] h K := by
  apply ref14_Write.calls
  unfold ref14_Write.W
  refine rwhy_spec R id fun v hv => ⟨_, rfl, split_ne (fun _ => hK _ x _ (RSTo.same R (Sub.refl h))) fun e => split_ne (fun _ => hK _ x _ (RSTo.same R (Sub.refl h))) fun _ => ?_⟩
  obtain ⟨i, rfl, h1, h2⟩ := hv e
  exact rwith_spec R h2 hn true s fun h' y T => ⟨_, _, _, _, _, _, _, _, _, _, _, rfl, hK h' y 0 T⟩
theorem ralloc_spec (R : RSOk h n x) (h1 : 1 ≤ n) (hn : n ≤ 128) (hK : ∀ h' y v e, RSTo h h' n x y → K (.tuple #[.agg (rsC y).toArray, .int .i64 v, .int .i64 e]) h') : CallsH Tryz.prog ref14_Alloc.id #[.agg (rsC x).toArray] h K := by
  have hlu := R.lu
  apply ref14_Alloc.calls
  unfold ref14_Alloc.W
  refine ⟨fun i _ _ _ _ _ _ _ _ _ _ _ y m => ∃ j : Nat, i = (j : Int) ∧ 1 ≤ j ∧ j ≤ n ∧ m = n - j ∧ y = h, ⟨_, 1, rfl, Nat.le_refl _, h1, rfl, rfl⟩, ?_⟩
  rintro i _ _ _ _ _ _ _ _ _ _ _ y m ⟨j, rfl, hj1, hj2, rfl, rfl⟩
  refine split_dec (fun g => ?_) fun g => hK _ x _ _ (RSTo.same R (Sub.refl _))
  have g : j < n := by have : (j : Int) < (x.us.length : Int) := g; omega
  obtain ⟨b, o, ea, hc⟩ := R.ru.get boolC_len (by decide) (List.getElem?_eq_getElem (show j < x.us.length by omega))
  refine ⟨by omega, by show (j : Int) < (x.us.length : Int); omega, b, o, ea, _, by rw [Int.toNat_natCast]; exact hc 0 _ rfl, split_not (fun _ => ?_) fun _ => ⟨n - (j + 1), by omega, j + 1, by rw [wid (by omega) (by omega)]; omega, by omega, by omega, rfl, rfl⟩⟩
  exact blank_spec fun h1 s1 => ⟨_, rfl, s1, rwith_spec (R.sub s1) g hn true _ fun h' y T => ⟨_, _, _, _, _, _, _, _, _, _, _, rfl, hK h' y _ _ (T.back s1)⟩⟩
theorem rgive_spec (R : RSOk h n x) (hn : n ≤ 128) (id : Int) (hK : RAns h n x K) : CallsH Tryz.prog ref14_Give.id #[.agg (rsC x).toArray, .int .i64 id] h K := by
  apply ref14_Give.calls
  unfold ref14_Give.W
  intro k1 hk1
  have B : Blk (h.upd k1 (.cells (rsC x).toArray 36 (0, 0))) k1 36 (rsC x) := Blk.new h k1 36 (rsC x)
  have s1 : Sub h (h.upd k1 (.cells (rsC x).toArray 36 (0, 0))) := Sub.upd hk1 _
  refine ⟨_, _, _, B.cell' 0 rfl, _, _, _, B.cell' 1 rfl, _, B.cell' 2 rfl, _, B.cell' 3 rfl, _, B.cell' 4 rfl, _, B.cell' 5 rfl, _, B.cell' 6 rfl, ?_⟩
  show CallsH _ _ _ (h.upd k1 (.cells (rsC x).toArray 36 (0, 0))) _
  generalize h.upd k1 (.cells (rsC x).toArray 36 (0, 0)) = z at B s1
  have same : ∀ e, K (.tuple #[.agg (rsC x).toArray, .int .i64 e]) z := fun e => hK z x e (RSTo.same R s1)
  refine rwhy_spec (R.sub s1) id fun v hv => ⟨_, rfl, split_ne (fun _ => ⟨_, _, _, B.cell' 0 rfl, _, _, _, B.cell' 1 rfl, _, B.cell' 2 rfl, _, B.cell' 3 rfl, _, B.cell' 4 rfl, _, B.cell' 5 rfl, _, B.cell' 6 rfl, same _⟩) fun e => ?_⟩
  obtain ⟨i, rfl, h1, h2⟩ := hv e
  refine ⟨fun i _ _ _ _ _ _ _ _ _ _ _ y m => ∃ j : Nat, i = (j : Int) ∧ j ≤ 4 ∧ m = 4 - j ∧ y = z, ⟨_, 0, rfl, by decide, rfl, rfl⟩, ?_⟩
  rintro _ _ _ _ _ _ _ _ _ _ _ _ y m ⟨j, rfl, hj, rfl, rfl⟩
  refine split_dec (fun g => ?_) fun g => ?_
  · have g : j < 4 := by have : (j : Int) < 4 := g; omega
    refine ⟨by omega, by omega, _, by rw [Int.toNat_natCast, Nat.mul_one]; exact B.cell' _ (stC_root g), split_eq (fun _ => ⟨_, _, _, B.cell' 0 rfl, _, _, _, B.cell' 1 rfl, _, B.cell' 2 rfl, _, B.cell' 3 rfl, _, B.cell' 4 rfl, _, B.cell' 5 rfl, _, B.cell' 6 rfl, same _⟩) fun _ => ⟨4 - (j + 1), by omega, j + 1, by rw [wid (by omega) (by omega)]; omega, by omega, rfl, rfl⟩⟩
  · refine ⟨_, _, _, B.cell' 0 rfl, _, _, _, B.cell' 1 rfl, _, B.cell' 2 rfl, _, B.cell' 3 rfl, _, B.cell' 4 rfl, _, B.cell' 5 rfl, _, B.cell' 6 rfl, ?_⟩
    exact blank_spec fun hb sb => ⟨_, rfl, sb, rwith_spec ((R.sub s1).sub sb) h2 hn false _ fun h' y T => ⟨_, _, _, _, _, _, _, _, _, _, _, rfl, hK h' y _ (T.back (s1.trans sb))⟩⟩
theorem rpoint_spec (R : RSOk h n x) (h1 : 1 ≤ n) (hn : n ≤ 128) (k id : Int) (hK : RAns h n x K) : CallsH Tryz.prog ref14_Point.id #[.agg (rsC x).toArray, .int .i64 k, .int .i64 id] h K := by
  apply ref14_Point.calls
  unfold ref14_Point.W
  intro k1 hk1
  have B : Blk (h.upd k1 (.cells (rsC x).toArray 36 (0, 0))) k1 36 (rsC x) := Blk.new h k1 36 (rsC x)
  have s1 : Sub h (h.upd k1 (.cells (rsC x).toArray 36 (0, 0))) := Sub.upd hk1 _
  have same : ∀ e, K (.tuple #[.agg (rsC x).toArray, .int .i64 e]) (h.upd k1 (.cells (rsC x).toArray 36 (0, 0))) := fun e => hK _ x e (RSTo.same R s1)
  refine split_dec (fun _ => ⟨_, _, _, B.cell' 0 rfl, _, _, _, B.cell' 1 rfl, _, B.cell' 2 rfl, _, B.cell' 3 rfl, _, B.cell' 4 rfl, _, B.cell' 5 rfl, _, B.cell' 6 rfl, same _⟩) fun g0 => split_dec (fun _ => ⟨_, _, _, B.cell' 0 rfl, _, _, _, B.cell' 1 rfl, _, B.cell' 2 rfl, _, B.cell' 3 rfl, _, B.cell' 4 rfl, _, B.cell' 5 rfl, _, B.cell' 6 rfl, same _⟩) fun g3 => ?_
  obtain ⟨t, rfl⟩ : ∃ t : Nat, k = (t : Int) := ⟨k.toNat, by omega⟩
  have ht : t < 4 := by omega
  refine ⟨fun _ _ _ _ _ _ _ _ _ _ _ y => y = h.upd k1 (.cells (rsC x).toArray 36 (0, 0)) ∧ ∃ j : Nat, id = (j : Int) ∧ j < n, ?_, split_ne (fun _ => ⟨_, _, _, B.cell' 0 rfl, _, _, _, B.cell' 1 rfl, _, B.cell' 2 rfl, _, B.cell' 3 rfl, _, B.cell' 4 rfl, _, B.cell' 5 rfl, _, B.cell' 6 rfl, ?_⟩) fun e => ⟨rfl, 0, e, by omega⟩⟩
  · rintro _ _ _ _ _ _ _ _ _ _ _ y ⟨rfl, j, rfl, hj⟩
    have B2 := B.put (2 + t) [.int .i64 ((j : Nat) : Int)]
    have e2 : setL (rsC x) (2 + t) [.int .i64 ((j : Nat) : Int)] = rsC ⟨x.ua, x.uc, x.da, x.dc, x.us, x.ds, upR x.r t j, x.s⟩ := stC_setR _ ht
    rw [e2] at B2
    have idx : 2 + (t : Int).toNat * 1 = 2 + t := by rw [Int.toNat_natCast]; omega
    rw [idx]
    have sp : Sub h ((h.upd k1 (.cells (rsC x).toArray 36 (0, 0))).put k1 (2 + t) [.int .i64 ((j : Nat) : Int)]) := (Keep.put (fun c => c = k1) _ _ _ rfl).sub s1 fun c e => by rw [e]; exact hk1
    refine ⟨by omega, by omega, B.store (by rw [rsC_len]; show 2 + t + 1 ≤ 7; omega), _, _, _, B2.cell' 0 rfl, _, _, _, B2.cell' 1 rfl, _, B2.cell' 2 rfl, _, B2.cell' 3 rfl, _, B2.cell' 4 rfl, _, B2.cell' 5 rfl, _, B2.cell' 6 rfl, ?_⟩
    refine hK _ ⟨x.ua, x.uc, x.da, x.dc, x.us, x.ds, upR x.r t j, x.s⟩ _ ⟨sp, ⟨R.lu, R.ld, R.ru.sub sp, R.rd.sub sp, fun k hk => ?_⟩, fun c hc => .inl hc, fun c hc => .inl hc⟩
    show upR x.r t j k < 128
    unfold upR
    split
    · omega
    · exact R.rt k hk
  · show CallsH _ _ _ (h.upd k1 (.cells (rsC x).toArray 36 (0, 0))) _
    refine rwhy_spec (R.sub s1) id fun v hv => ⟨_, rfl, split_ne (fun _ => ⟨_, _, _, B.cell' 0 rfl, _, _, _, B.cell' 1 rfl, _, B.cell' 2 rfl, _, B.cell' 3 rfl, _, B.cell' 4 rfl, _, B.cell' 5 rfl, _, B.cell' 6 rfl, same _⟩) fun e => ⟨rfl, ?_⟩⟩
    obtain ⟨i, hi, h1, h2⟩ := hv e
    exact ⟨i, hi, h2⟩
theorem rread_spec (R : RSOk h n x) (id : Int) (hK : ∀ s e, K (.tuple #[.string s, .int .i64 e]) h) : CallsH Tryz.prog ref14_Read.id #[.agg (rsC x).toArray, .int .i64 id] h K := by
  have hld := R.ld
  apply ref14_Read.calls
  unfold ref14_Read.W
  refine rwhy_spec R id fun v hv => ⟨_, rfl, split_ne (fun _ => hK _ _) fun e => ?_⟩
  obtain ⟨i, rfl, h1, h2⟩ := hv e
  obtain ⟨b, o, ea, hc⟩ := R.rd.get strC_len (by decide) (List.getElem?_eq_getElem (show i < x.ds.length by omega))
  exact ⟨by omega, by show (i : Int) < (x.ds.length : Int); omega, b, o, ea, _, by rw [Int.toNat_natCast]; exact hc 0 _ rfl, hK _ _⟩
end Go.Proofs.YtagglohkipioiaaGreat
