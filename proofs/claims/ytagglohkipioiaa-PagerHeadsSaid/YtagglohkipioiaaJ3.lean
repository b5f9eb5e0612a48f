/- What a mark on a disk tells, one page after another; a journal that is opened. Conditions: they stand as they are named. -/
import Derived.Test.YtagglohkipioiaaJ2
import Derived.Test.YtagglohkipioiaaGA2
namespace Go.Proofs.Ytagglohkipioiaa
open Go.Gx
set_option maxRecDepth 100000
set_option linter.unusedVariables false

def bitT (s : ByteArray) (i : Nat) : Bool := IntKind.u8.wrap (iand IntKind.u8 (ishr IntKind.u8 (byteAt s (i / 8)) ((i % 8 : Nat) : Int)) 1) == 1
def bitsOf (s : ByteArray) : List Nat := (List.range 128).filter (bitT s)
theorem cell_sub {h h' : Hp} (s : Sub h h') {b o : Nat} {v : Value} (hc : h.cell b o = some v) : h'.cell b o = some v := by
  unfold Hp.cell at hc ⊢
  cases e : h b with
  | none => rw [e] at hc; cases hc
  | some x => rw [e] at hc; rw [s b x e]; exact hc
theorem filter_get {p : Nat → Bool} {i n : Nat} (hi : i < n) (hp : p i = true) : ((List.range n).filter p)[((List.range i).filter p).length]? = some i := by
  have e : List.range n = List.range i ++ (i :: List.range' (i + 1) (n - (i + 1))) := by
    rw [List.range_eq_range', List.range_eq_range']
    have : n = i + (1 + (n - (i + 1))) := by omega
    conv => lhs; rw [this, ← List.range'_append_1, Nat.zero_add, ← List.range'_append_1]
    rfl
  rw [e, List.filter_append, List.filter_cons_of_pos hp, List.getElem?_append_right (Nat.le_refl _), Nat.sub_self]; rfl
theorem told_iter (mark : ByteArray) (hm : 16 ≤ mark.size) (pb : Nat) : IterH Try.prog 97 [.pointer (some ⟨pb, 0, none⟩)] (fun k vs => ∃ i : Nat, (bitsOf mark)[k]? = some i ∧ vs = [.int .i64 (i : Nat)]) (fun k => k = (bitsOf mark).length) (fun h => h.cell pb 0 = some (.string mark)) := by
  intro l J Jx hJP hY h hJ
  refine journal_told_1_0y.calls l pb 0 ?_
  unfold journal_told_1_0y.W
  refine ⟨fun n x m => ∃ i : Nat, n = (i : Int) ∧ i ≤ 128 ∧ m = 128 - i ∧ J ((List.range i).filter (bitT mark)).length x, ⟨_, 0, rfl, by decide, rfl, hJ⟩, ?_⟩
  rintro n x m ⟨i, rfl, hi, rfl, hJi⟩
  refine split_dec (fun g => ?_) fun g => ?_
  · have g : i < 128 := by have : (i : Int) < 128 := g; omega
    have hsucc : (List.range (i + 1)).filter (bitT mark) = (List.range i).filter (bitT mark) ++ if bitT mark i then [i] else [] := by
      rw [List.range_succ, List.filter_append]
      rw [List.filter_cons, List.filter_nil]
    have e1 : (i : Int).tdiv 8 = ((i / 8 : Nat) : Int) := by rw [Int.tdiv_eq_ediv_of_nonneg (by omega)]; omega
    have e2 : (i : Int).tmod 8 = ((i % 8 : Nat) : Int) := by rw [Int.tmod_eq_emod_of_nonneg (by omega)]; omega
    have e3 : IntKind.i64.wrap ((i / 8 : Nat) : Int) = ((i / 8 : Nat) : Int) := wid (by omega) (by omega)
    rw [e1, e2, e3, Int.toNat_natCast]
    have e4 : IntKind.i64.wrap ((i : Int) + 1) = ((i + 1 : Nat) : Int) := by rw [wid (by omega) (by omega)]; omega
    refine ⟨mark, hJP _ _ hJi, by decide, by omega, by show ((i / 8 : Nat) : Int) < (mark.size : Int); omega, by decide, by omega, ?_⟩
    rw [hb_eq]
    refine split_cond (fun eb => ?_) fun eb => ?_
    · have eb : bitT mark i = true := eb
      refine YieldH.mono (hY _ _ x hJi ⟨i, filter_get g eb, rfl⟩) fun v h' hq => ?_
      rcases hq with ⟨rfl, hj⟩ | ⟨rfl, hj⟩
      · refine ⟨true, rfl, 128 - (i + 1), by omega, i + 1, e4, by omega, rfl, ?_⟩
        rw [hsucc, if_pos eb, List.length_append]; exact hj
      · exact ⟨false, rfl, .inr hj⟩
    · have eb : bitT mark i = false := eb
      refine ⟨128 - (i + 1), by omega, i + 1, e4, by omega, rfl, ?_⟩
      rw [hsucc, if_neg (by simp [eb]), List.append_nil]; exact hJi
  · have : i = 128 := by
      have : ¬ (i : Int) < 128 := g
      omega
    subst this
    exact .inl ⟨_, rfl, hJi⟩
theorem need_spec {h : Hp} {K : Value → Hp → Prop} (n : Nat) (h1 : 1 ≤ n) (h2 : n ≤ 128) (hK : K (.int .i64 ((8 * n + 1 : Nat) : Int)) h) : CallsH Try.prog journal_Need.id #[.int .i64 (n : Nat)] h K := by
  apply journal_Need.calls
  unfold journal_Need.W
  refine split_dec (fun e => by have e : (n : Int) < 1 := e; omega) fun _ => split_dec (fun e => by have e : (n : Int) > 128 := e; omega) fun _ => ?_
  have e : IntKind.i64.wrap (IntKind.i64.wrap (8 * (n : Int)) + 1) = ((8 * n + 1 : Nat) : Int) := by
    rw [wid (x := 8 * (n : Int)) (by omega) (by omega), wid (by omega) (by omega)]; omega
  rw [e]; exact hK
theorem bits_zero : bitsOf (zeroB 256) = [] := by decide +kernel
/-- A journal is opened on a disk whose mark tells no page. -/
theorem jopen_spec {h : Hp} {db : Nat} {S : Nat → Prop} {D : Dk} {K : Value → Hp → Prop} (H : DkAt h db S D) (hd : D.down = false) (n : Nat) (h1 : 1 ≤ n) (h2 : n ≤ 128) (hl : 8 * n + 1 ≤ D.l.length) (hm : D.read 0 = zeroB 256)
    (hK : ∀ h' jb S', JAt h' jb db S' n D → Sub h h' → (∀ c, S' c → S c ∨ h c = none) → K (.tuple #[.pointer (some ⟨jb, 0, none⟩), .int .i64 0]) h') : CallsH Try.prog journal_Open.id #[.pointer (some ⟨db, 0, none⟩), .int .i64 (n : Nat)] h K := by
  have hll := H.len
  apply journal_Open.calls
  unfold journal_Open.W
  intro k1 hk1 k2 hk2 k3 hk3
  have d21 : k2 ≠ k1 := fun e => by rw [e, Hp.upd_same] at hk2; cases hk2
  have B1 : Blk (((h.upd k1 (.cells #[.int .i64 (n : Nat)] 3 (0, 0))).upd k2 (.cells #[.pointer none] 35 (0, 0))).upd k3 (.cells #[.int .i64 0] 25 (0, 0))) k1 3 [.int .i64 (n : Nat)] := ((Blk.new h k1 3 _).upd hk2 _).upd hk3 _
  have B2 : Blk (((h.upd k1 (.cells #[.int .i64 (n : Nat)] 3 (0, 0))).upd k2 (.cells #[.pointer none] 35 (0, 0))).upd k3 (.cells #[.int .i64 0] 25 (0, 0))) k2 35 [.pointer none] := (Blk.new _ k2 35 _).upd hk3 _
  have B3 : Blk (((h.upd k1 (.cells #[.int .i64 (n : Nat)] 3 (0, 0))).upd k2 (.cells #[.pointer none] 35 (0, 0))).upd k3 (.cells #[.int .i64 0] 25 (0, 0))) k3 25 [.int .i64 0] := Blk.new _ k3 25 _
  have s3 : Sub h (((h.upd k1 (.cells #[.int .i64 (n : Nat)] 3 (0, 0))).upd k2 (.cells #[.pointer none] 35 (0, 0))).upd k3 (.cells #[.int .i64 0] 25 (0, 0))) := ((Sub.upd hk1 _).trans (Sub.upd hk2 _)).trans (Sub.upd hk3 _)
  have n2 : h k2 = none := (Sub.upd hk1 _).none hk2
  have n3 : h k3 = none := ((Sub.upd hk1 _).trans (Sub.upd hk2 _)).none hk3
  have d32 : k3 ≠ k2 := fun e => by rw [e, Hp.upd_same] at hk3; cases hk3
  generalize ((h.upd k1 (.cells #[.int .i64 (n : Nat)] 3 (0, 0))).upd k2 (.cells #[.pointer none] 35 (0, 0))).upd k3 (.cells #[.int .i64 0] 25 (0, 0)) = h3 at B1 B2 B3 s3
  have H3 := H.sub s3
  refine ⟨_, B1.cell' 0 rfl, need_spec n h1 h2 ⟨_, rfl, Sub.refl _, split_eq (fun e => by have e : ((8 * n + 1 : Nat) : Int) = 0 := e; omega) fun _ => ⟨_, B1.cell' 0 rfl, size_spec H3 ⟨_, rfl, Sub.refl _, need_spec n h1 h2 ⟨_, rfl, split_dec (fun e => by have e : (D.l.length : Int) < ((8 * n + 1 : Nat) : Int) := e; omega) fun _ => ?_⟩⟩⟩⟩⟩
  refine read_spec (i := 0) H3 (by omega) hd ⟨_, _, rfl, split_ne (fun e => absurd rfl e) fun _ => ?_⟩
  rw [hm]
  refine ⟨_, B1.cell' 0 rfl, fun k26 hk26 k27 hk27 => ?_⟩
  have hk27' : (h3.upd k26 (.cells #[.pointer (some ⟨db, 0, none⟩), .int .i64 (n : Nat)] 104 (0, 0))) k27 = none := hk27
  have d27 : k27 ≠ k26 := fun e => by rw [e, Hp.upd_same] at hk27'; cases hk27'
  have n27 : h3 k27 = none := by rw [Hp.upd_ne _ _ d27] at hk27'; exact hk27'
  have C26 : Blk (h3.upd k26 (.cells #[.pointer (some ⟨db, 0, none⟩), .int .i64 (n : Nat)] 104 (0, 0))) k26 104 [.pointer (some ⟨db, 0, none⟩), .int .i64 (n : Nat)] := Blk.new h3 k26 104 _
  have C27 := (Blk.new (h3.upd k26 (.cells #[.pointer (some ⟨db, 0, none⟩), .int .i64 (n : Nat)] 104 (0, 0))) k27 35 [.pointer none])
  have lift1 : ∀ {b t vs}, Blk (h3.upd k26 (.cells #[.pointer (some ⟨db, 0, none⟩), .int .i64 (n : Nat)] 104 (0, 0))) b t vs → Blk (((h3.upd k26 (.cells #[.pointer (some ⟨db, 0, none⟩), .int .i64 (n : Nat)] 104 (0, 0))).upd k27 (.cells #[.pointer none] 35 (0, 0))).put k27 0 [.pointer (some ⟨k26, 0, none⟩)]) b t vs :=
    fun H => (H.upd hk27' _).put_ne 0 _ (H.ne hk27')
  refine ⟨C27.store (Nat.le_refl 1), fun k28 hk28 => ⟨(Blk.new _ k28 4 [.bool false]).store (Nat.le_refl 1), journal_told.calls _ fun k hk => ⟨_, rfl, [.pointer (some ⟨k, 0, none⟩)], rfl, ?_⟩⟩⟩
  have hk28' : (((h3.upd k26 (.cells #[.pointer (some ⟨db, 0, none⟩), .int .i64 (n : Nat)] 104 (0, 0))).upd k27 (.cells #[.pointer none] 35 (0, 0))).put k27 0 [.pointer (some ⟨k26, 0, none⟩)]) k28 = none := hk28
  have hk' : ((((((h3.upd k26 (.cells #[.pointer (some ⟨db, 0, none⟩), .int .i64 (n : Nat)] 104 (0, 0))).upd k27 (.cells #[.pointer none] 35 (0, 0))).put k27 0 [.pointer (some ⟨k26, 0, none⟩)])).upd k28 (.cells #[.bool false] 4 (0, 0))).put k28 0 [.bool false]) k = none := hk
  have C27p := C27.put 0 [.pointer (some ⟨k26, 0, none⟩)]
  have C28 := (Blk.new (((h3.upd k26 (.cells #[.pointer (some ⟨db, 0, none⟩), .int .i64 (n : Nat)] 104 (0, 0))).upd k27 (.cells #[.pointer none] 35 (0, 0))).put k27 0 [.pointer (some ⟨k26, 0, none⟩)]) k28 4 [.bool false]).put 0 [.bool false]
  have lift2 : ∀ {b t vs}, Blk (((h3.upd k26 (.cells #[.pointer (some ⟨db, 0, none⟩), .int .i64 (n : Nat)] 104 (0, 0))).upd k27 (.cells #[.pointer none] 35 (0, 0))).put k27 0 [.pointer (some ⟨k26, 0, none⟩)]) b t vs →
      Blk ((((((h3.upd k26 (.cells #[.pointer (some ⟨db, 0, none⟩), .int .i64 (n : Nat)] 104 (0, 0))).upd k27 (.cells #[.pointer none] 35 (0, 0))).put k27 0 [.pointer (some ⟨k26, 0, none⟩)])).upd k28 (.cells #[.bool false] 4 (0, 0))).put k28 0 [.bool false]) b t vs := fun H => (H.upd hk28' _).put_ne 0 _ (H.ne hk28')
  have E27 := lift2 C27p
  have E26 := lift2 (lift1 C26)
  have E2 := lift2 (lift1 (B2.upd hk26 _))
  have E3 := lift2 (lift1 (B3.upd hk26 _))
  have sA : ∀ c o, h c = some o → c ≠ k26 ∧ c ≠ k27 ∧ c ≠ k28 ∧ c ≠ k2 ∧ c ≠ k3 := fun c o hc => by
    have hc3 := s3 c o hc
    refine ⟨fun e => ?_, fun e => ?_, fun e => ?_, fun e => ?_, fun e => ?_⟩
    · rw [e, hk26] at hc3; cases hc3
    · rw [e, n27] at hc3; cases hc3
    · have h27 : k28 ≠ k27 := fun e2 => by rw [e2] at hk28'; unfold Blk at C27p; rw [C27p] at hk28'; cases hk28'
      have h26 : k28 ≠ k26 := fun e2 => by rw [e2] at hk28'; have := lift1 C26; unfold Blk at this; rw [this] at hk28'; cases hk28'
      rw [Gx.put_ne _ _ _ h27, Hp.upd_ne _ _ h27, Hp.upd_ne _ _ h26, ← e, hc3] at hk28'
      cases hk28'
    · rw [e, n2] at hc; cases hc
    · rw [e, n3] at hc; cases hc
  have sX : Sub h ((((((h3.upd k26 (.cells #[.pointer (some ⟨db, 0, none⟩), .int .i64 (n : Nat)] 104 (0, 0))).upd k27 (.cells #[.pointer none] 35 (0, 0))).put k27 0 [.pointer (some ⟨k26, 0, none⟩)])).upd k28 (.cells #[.bool false] 4 (0, 0))).put k28 0 [.bool false]) := fun c o hc => by
    obtain ⟨a1, a2, a3, _⟩ := sA c o hc
    rw [Gx.put_ne _ _ _ a3, Hp.upd_ne _ _ a3, Gx.put_ne _ _ _ a2, Hp.upd_ne _ _ a2, Hp.upd_ne _ _ a1]
    exact s3 c o hc
  have n26 : h k26 = none := s3.none hk26
  refine ⟨_, _, _, fun k x => k = 0 ∧ x = _, fun _ _ => False, told_iter (zeroB 256) (by rw [zeroB_size]; omega) k, ?_, ?_, ⟨rfl, rfl⟩, ?_, ?_, ?_, ?_, ?_, trivial⟩
  · intro h0 b o hb hp
    exact cell_sub (Sub.upd hb o) hp
  · rintro _ x ⟨_, rfl⟩
    exact (Blk.new _ k 9 [.string (zeroB 256)]).cell' 0 rfl
  · rintro _ vs ⟨i, hi, rfl⟩
    exact ⟨_, rfl⟩
  · rintro _ _ ⟨i, hi, _⟩
    rw [bits_zero] at hi; cases hi
  · rintro _ x ⟨rfl, rfl⟩ _ D' hD
    have U := fun {b t vs} (H : Blk ((((((h3.upd k26 (.cells #[.pointer (some ⟨db, 0, none⟩), .int .i64 (n : Nat)] 104 (0, 0))).upd k27 (.cells #[.pointer none] 35 (0, 0))).put k27 0 [.pointer (some ⟨k26, 0, none⟩)])).upd k28 (.cells #[.bool false] 4 (0, 0))).put k28 0 [.bool false]) b t vs) => (H.upd hk' (.cells #[.string (zeroB 256)] 9 (0, 0))).upd hD (.deferred (some []))
    have dD : ∀ {b t vs}, Blk ((((((h3.upd k26 (.cells #[.pointer (some ⟨db, 0, none⟩), .int .i64 (n : Nat)] 104 (0, 0))).upd k27 (.cells #[.pointer none] 35 (0, 0))).put k27 0 [.pointer (some ⟨k26, 0, none⟩)])).upd k28 (.cells #[.bool false] 4 (0, 0))).put k28 0 [.bool false]) b t vs → b ≠ D' := fun H => (H.upd hk' _).ne hD
    have d2 := dD E2
    have d3 := dD E3
    have F2 := (U E2).put 0 [.pointer (some ⟨k26, 0, none⟩)]
    have F3 := (U E3).put_ne 0 [.pointer (some ⟨k26, 0, none⟩)] d32
    have G2 := F2.put_ne 0 [.int .i64 0] (Ne.symm d32)
    have G3 := F3.put 0 [.int .i64 0]
    have del : ∀ {y : Hp} {b : Nat} {t : TypeId} {vs : List Value}, Blk y b t vs → b ≠ D' → Blk (y.del D') b t vs := fun H e => by
      unfold Blk Hp.del
      rw [if_neg e]; exact H
    have d26 : k26 ≠ k2 ∧ k26 ≠ k3 := ⟨(B2.ne hk26).symm, (B3.ne hk26).symm⟩
    have hD' := hD
    refine ⟨false, (U C28).cell' 0 rfl, _, (U E27).cell' 0 rfl, (U E2).store (Nat.le_refl 1), F3.store (Nat.le_refl 1), ?_, _, (del G2 d2).cell' 0 rfl, _, (del G3 d3).cell' 0 rfl, ?_⟩
    · rw [Gx.put_ne _ _ _ (Ne.symm d3), Gx.put_ne _ _ _ (Ne.symm d2), Hp.upd_same]
    · have sY : Gx.Sub h ((((((((((h3.upd k26 (.cells #[.pointer (some ⟨db, 0, none⟩), .int .i64 (n : Nat)] 104 (0, 0))).upd k27 (.cells #[.pointer none] 35 (0, 0))).put k27 0 [.pointer (some ⟨k26, 0, none⟩)]).upd k28 (.cells #[.bool false] 4 (0, 0))).put k28 0 [.bool false]).upd k (.cells #[.string (zeroB 256)] 9 (0, 0))).upd D' (.deferred (some []))).put k2 0 [.pointer (some ⟨k26, 0, none⟩)]).put k3 0 [.int .i64 0]).del D') := fun c o hc => by
        obtain ⟨_, _, _, a4, a5⟩ := sA c o hc
        have hx := sX c o hc
        have ck : c ≠ k := fun e => by rw [e, hk'] at hx; cases hx
        have hx2 := Sub.upd hk' (.cells #[.string (zeroB 256)] 9 (0, 0)) c o hx
        have cD : c ≠ D' := fun e => by rw [e] at hx2; rw [hx2] at hD; cases hD
        unfold Hp.del
        rw [if_neg cD, Gx.put_ne _ _ _ a5, Gx.put_ne _ _ _ a4, Hp.upd_ne _ _ cD]
        exact hx2
      refine hK _ k26 (fun c => c = k26 ∨ S c) ⟨⟨S, del (((U E26).put_ne 0 _ d26.1).put_ne 0 _ d26.2) (dD E26), H.sub sY, fun hc => H.in_heap hc n26, fun c => Iff.rfl⟩, h1, h2, hl⟩ sY ?_
      rintro c (rfl | hc)
      · exact .inr n26
      · exact .inl hc
  · rintro x hf; exact hf.elim
  · rintro x hf; exact hf.elim
end Go.Proofs.Ytagglohkipioiaa
