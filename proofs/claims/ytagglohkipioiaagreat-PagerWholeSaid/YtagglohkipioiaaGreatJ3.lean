/- What a mark on a disk tells, one page after another; a journal that is opened. Conditions: they stand as they are named. What slices.Collect makes of slices.Values of changes. Conditions: not too many. Why changes can be committed. Conditions: they are right. -/
import Derived.Test.YtagglohkipioiaaGreatJ1
import Derived.Test.YtagglohkipioiaaGreatGA2
namespace Go.Proofs.YtagglohkipioiaaGreat
open Go.Gx
set_option maxRecDepth 100000
set_option linter.unusedVariables false

def bitT (s : ByteArray) (i : Nat) : Bool := IntKind.u8.wrap (iand IntKind.u8 (ishr IntKind.u8 (byteAt s (i / 8)) ((i % 8 : Nat) : Int)) 1) == 1
def bitsOf (s : ByteArray) : List Nat := (List.range 128).filter (bitT s)
theorem cell_sub {h h' : Hp} (s : Sub h h') {b o : Nat} {v : Value} (hc : h.cell b o = some v) : h'.cell b o = some v := by
  unfold Hp.cell at hc ⊢
  cases e : h b with
  | none => rw [e] at hc; cases hc
  | some x => rw [e] at hc; rw [s b x e]; exact hc
theorem filter_get {p : Nat → Bool} {i n : Nat} (hi : i < n) (hp : p i = true) : ((List.range n).filter p)[((List.range i).filter p).length]? = some i := by
  have e : List.range n = List.range i ++ (i :: List.range' (i + 1) (n - (i + 1))) := by
    rw [List.range_eq_range', List.range_eq_range']
    have : n = i + (1 + (n - (i + 1))) := by omega
    conv => lhs; rw [this, ← List.range'_append_1, Nat.zero_add, ← List.range'_append_1]
    rfl
  rw [e, List.filter_append, List.filter_cons_of_pos hp, List.getElem?_append_right (Nat.le_refl _), Nat.sub_self]; rfl
theorem told_iter (mark : ByteArray) (hm : 16 ≤ mark.size) (pb : Nat) : IterH Tryz.prog 80 [.pointer (some ⟨pb, 0, none⟩)] (fun k vs => ∃ i : Nat, (bitsOf mark)[k]? = some i ∧ vs = [.int .i64 (i : Nat)]) (fun k => k = (bitsOf mark).length) (fun h => h.cell pb 0 = some (.string mark)) := by
  intro l J Jx hJP hY h hJ
  refine journal_told_1_0y.calls l pb 0 ?_
  unfold journal_told_1_0y.W
  refine ⟨fun n x m => ∃ i : Nat, n = (i : Int) ∧ i ≤ 128 ∧ m = 128 - i ∧ J ((List.range i).filter (bitT mark)).length x, ⟨_, 0, rfl, by decide, rfl, hJ⟩, ?_⟩
  rintro n x m ⟨i, rfl, hi, rfl, hJi⟩
  refine split_dec (fun g => ?_) fun g => ?_
  · have g : i < 128 := by have : (i : Int) < 128 := g; omega
    have hsucc : (List.range (i + 1)).filter (bitT mark) = (List.range i).filter (bitT mark) ++ if bitT mark i then [i] else [] := by
      rw [List.range_succ, List.filter_append]
      rw [List.filter_cons, List.filter_nil]
    have e1 : (i : Int).tdiv 8 = ((i / 8 : Nat) : Int) := by rw [Int.tdiv_eq_ediv_of_nonneg (by omega)]; omega
    have e2 : (i : Int).tmod 8 = ((i % 8 : Nat) : Int) := by rw [Int.tmod_eq_emod_of_nonneg (by omega)]; omega
    have e3 : IntKind.i64.wrap ((i / 8 : Nat) : Int) = ((i / 8 : Nat) : Int) := wid (by omega) (by omega)
    rw [e1, e2, e3, Int.toNat_natCast]
    have e4 : IntKind.i64.wrap ((i : Int) + 1) = ((i + 1 : Nat) : Int) := by rw [wid (by omega) (by omega)]; omega
    refine ⟨mark, hJP _ _ hJi, by decide, by omega, by show ((i / 8 : Nat) : Int) < (mark.size : Int); omega, by decide, by omega, ?_⟩
    rw [hb_eq]
    refine split_cond (fun eb => ?_) fun eb => ?_
    · have eb : bitT mark i = true := eb
      refine YieldH.mono (hY _ _ x hJi ⟨i, filter_get g eb, rfl⟩) fun v h' hq => ?_
      rcases hq with ⟨rfl, hj⟩ | ⟨rfl, hj⟩
      · refine ⟨true, rfl, 128 - (i + 1), by omega, i + 1, e4, by omega, rfl, ?_⟩
        rw [hsucc, if_pos eb, List.length_append]; exact hj
      · exact ⟨false, rfl, .inr hj⟩
    · have eb : bitT mark i = false := eb
      refine ⟨128 - (i + 1), by omega, i + 1, e4, by omega, rfl, ?_⟩
      rw [hsucc, if_neg (by simp [eb]), List.append_nil]; exact hJi
  · have : i = 128 := by
      have : ¬ (i : Int) < 128 := g
      omega
    subst this
    exact .inl ⟨_, rfl, hJi⟩
theorem need_spec {h : Hp} {K : Value → Hp → Prop} (n : Nat) (h1 : 1 ≤ n) (h2 : n ≤ 128) (hK : K (.int .i64 ((8 * n + 1 : Nat) : Int)) h) : CallsH Tryz.prog journal_Need.id #[.int .i64 (n : Nat)] h K := by
  apply journal_Need.calls
  unfold journal_Need.W
  refine split_dec (fun e => by have e : (n : Int) < 1 := e; omega) fun _ => split_dec (fun e => by have e : (n : Int) > 128 := e; omega) fun _ => ?_
  have e : IntKind.i64.wrap (IntKind.i64.wrap (8 * (n : Int)) + 1) = ((8 * n + 1 : Nat) : Int) := by
    rw [wid (x := 8 * (n : Int)) (by omega) (by omega), wid (by omega) (by omega)]; omega
  rw [e]; exact hK
theorem bits_zero : bitsOf (zeroB 256) = [] := by decide +kernel
/-- A journal is opened on a disk whose mark tells no page. -/
theorem jopen_spec {h : Hp} {db : Nat} {S : Nat → Prop} {D : Dk} {K : Value → Hp → Prop} (H : DkAt h db S D) (hd : D.down = false) (n : Nat) (h1 : 1 ≤ n) (h2 : n ≤ 128) (hl : 8 * n + 1 ≤ D.l.length) (hm : D.read 0 = zeroB 256)
    (hK : ∀ h' jb S', JAt h' jb db S' n D → Sub h h' → (∀ c, S' c → S c ∨ h c = none) → K (.tuple #[.pointer (some ⟨jb, 0, none⟩), .int .i64 0]) h') : CallsH Tryz.prog journal_Open.id #[.pointer (some ⟨db, 0, none⟩), .int .i64 (n : Nat)] h K := by
  have hll := H.len
  apply journal_Open.calls
  unfold journal_Open.W
  intro k1 hk1 k2 hk2 k3 hk3
  have d21 : k2 ≠ k1 := fun e => by rw [e, Hp.upd_same] at hk2; cases hk2
  have B1 : Blk (((h.upd k1 (.cells #[.int .i64 (n : Nat)] 3 (0, 0))).upd k2 (.cells #[.pointer none] 29 (0, 0))).upd k3 (.cells #[.int .i64 0] 44 (0, 0))) k1 3 [.int .i64 (n : Nat)] := ((Blk.new h k1 3 _).upd hk2 _).upd hk3 _
  have B2 : Blk (((h.upd k1 (.cells #[.int .i64 (n : Nat)] 3 (0, 0))).upd k2 (.cells #[.pointer none] 29 (0, 0))).upd k3 (.cells #[.int .i64 0] 44 (0, 0))) k2 29 [.pointer none] := (Blk.new _ k2 29 _).upd hk3 _
  have B3 : Blk (((h.upd k1 (.cells #[.int .i64 (n : Nat)] 3 (0, 0))).upd k2 (.cells #[.pointer none] 29 (0, 0))).upd k3 (.cells #[.int .i64 0] 44 (0, 0))) k3 44 [.int .i64 0] := Blk.new _ k3 44 _
  have s3 : Sub h (((h.upd k1 (.cells #[.int .i64 (n : Nat)] 3 (0, 0))).upd k2 (.cells #[.pointer none] 29 (0, 0))).upd k3 (.cells #[.int .i64 0] 44 (0, 0))) := ((Sub.upd hk1 _).trans (Sub.upd hk2 _)).trans (Sub.upd hk3 _)
  have n2 : h k2 = none := (Sub.upd hk1 _).none hk2
  have n3 : h k3 = none := ((Sub.upd hk1 _).trans (Sub.upd hk2 _)).none hk3
  have d32 : k3 ≠ k2 := fun e => by rw [e, Hp.upd_same] at hk3; cases hk3
  generalize ((h.upd k1 (.cells #[.int .i64 (n : Nat)] 3 (0, 0))).upd k2 (.cells #[.pointer none] 29 (0, 0))).upd k3 (.cells #[.int .i64 0] 44 (0, 0)) = h3 at B1 B2 B3 s3
  have H3 := H.sub s3
  refine ⟨_, B1.cell' 0 rfl, need_spec n h1 h2 ⟨_, rfl, Sub.refl _, split_eq (fun e => by have e : ((8 * n + 1 : Nat) : Int) = 0 := e; omega) fun _ => ⟨_, B1.cell' 0 rfl, size_spec H3 ⟨_, rfl, Sub.refl _, need_spec n h1 h2 ⟨_, rfl, split_dec (fun e => by have e : (D.l.length : Int) < ((8 * n + 1 : Nat) : Int) := e; omega) fun _ => ?_⟩⟩⟩⟩⟩
  refine read_spec (i := 0) H3 (by omega) hd ⟨_, _, rfl, split_ne (fun e => absurd rfl e) fun _ => ?_⟩
  rw [hm]
  refine ⟨_, B1.cell' 0 rfl, fun k26 hk26 k27 hk27 => ?_⟩
  have hk27' : (h3.upd k26 (.cells #[.pointer (some ⟨db, 0, none⟩), .int .i64 (n : Nat)] 110 (0, 0))) k27 = none := hk27
  have d27 : k27 ≠ k26 := fun e => by rw [e, Hp.upd_same] at hk27'; cases hk27'
  have n27 : h3 k27 = none := by rw [Hp.upd_ne _ _ d27] at hk27'; exact hk27'
  have C26 : Blk (h3.upd k26 (.cells #[.pointer (some ⟨db, 0, none⟩), .int .i64 (n : Nat)] 110 (0, 0))) k26 110 [.pointer (some ⟨db, 0, none⟩), .int .i64 (n : Nat)] := Blk.new h3 k26 110 _
  have C27 := (Blk.new (h3.upd k26 (.cells #[.pointer (some ⟨db, 0, none⟩), .int .i64 (n : Nat)] 110 (0, 0))) k27 29 [.pointer none])
  have lift1 : ∀ {b t vs}, Blk (h3.upd k26 (.cells #[.pointer (some ⟨db, 0, none⟩), .int .i64 (n : Nat)] 110 (0, 0))) b t vs → Blk (((h3.upd k26 (.cells #[.pointer (some ⟨db, 0, none⟩), .int .i64 (n : Nat)] 110 (0, 0))).upd k27 (.cells #[.pointer none] 29 (0, 0))).put k27 0 [.pointer (some ⟨k26, 0, none⟩)]) b t vs :=
    fun H => (H.upd hk27' _).put_ne 0 _ (H.ne hk27')
  refine ⟨C27.store (Nat.le_refl 1), fun k28 hk28 => ⟨(Blk.new _ k28 4 [.bool false]).store (Nat.le_refl 1), journal_told.calls _ fun k hk => ⟨_, rfl, [.pointer (some ⟨k, 0, none⟩)], rfl, ?_⟩⟩⟩
  have hk28' : (((h3.upd k26 (.cells #[.pointer (some ⟨db, 0, none⟩), .int .i64 (n : Nat)] 110 (0, 0))).upd k27 (.cells #[.pointer none] 29 (0, 0))).put k27 0 [.pointer (some ⟨k26, 0, none⟩)]) k28 = none := hk28
  have hk' : ((((((h3.upd k26 (.cells #[.pointer (some ⟨db, 0, none⟩), .int .i64 (n : Nat)] 110 (0, 0))).upd k27 (.cells #[.pointer none] 29 (0, 0))).put k27 0 [.pointer (some ⟨k26, 0, none⟩)])).upd k28 (.cells #[.bool false] 4 (0, 0))).put k28 0 [.bool false]) k = none := hk
  have C27p := C27.put 0 [.pointer (some ⟨k26, 0, none⟩)]
  have C28 := (Blk.new (((h3.upd k26 (.cells #[.pointer (some ⟨db, 0, none⟩), .int .i64 (n : Nat)] 110 (0, 0))).upd k27 (.cells #[.pointer none] 29 (0, 0))).put k27 0 [.pointer (some ⟨k26, 0, none⟩)]) k28 4 [.bool false]).put 0 [.bool false]
  have lift2 : ∀ {b t vs}, Blk (((h3.upd k26 (.cells #[.pointer (some ⟨db, 0, none⟩), .int .i64 (n : Nat)] 110 (0, 0))).upd k27 (.cells #[.pointer none] 29 (0, 0))).put k27 0 [.pointer (some ⟨k26, 0, none⟩)]) b t vs →
      Blk ((((((h3.upd k26 (.cells #[.pointer (some ⟨db, 0, none⟩), .int .i64 (n : Nat)] 110 (0, 0))).upd k27 (.cells #[.pointer none] 29 (0, 0))).put k27 0 [.pointer (some ⟨k26, 0, none⟩)])).upd k28 (.cells #[.bool false] 4 (0, 0))).put k28 0 [.bool false]) b t vs := fun H => (H.upd hk28' _).put_ne 0 _ (H.ne hk28')
  have E27 := lift2 C27p
  have E26 := lift2 (lift1 C26)
  have E2 := lift2 (lift1 (B2.upd hk26 _))
  have E3 := lift2 (lift1 (B3.upd hk26 _))
  have sA : ∀ c o, h c = some o → c ≠ k26 ∧ c ≠ k27 ∧ c ≠ k28 ∧ c ≠ k2 ∧ c ≠ k3 := fun c o hc => by
    have hc3 := s3 c o hc
    refine ⟨fun e => ?_, fun e => ?_, fun e => ?_, fun e => ?_, fun e => ?_⟩
    · rw [e, hk26] at hc3; cases hc3
    · rw [e, n27] at hc3; cases hc3
    · have h27 : k28 ≠ k27 := fun e2 => by rw [e2] at hk28'; unfold Blk at C27p; rw [C27p] at hk28'; cases hk28'
      have h26 : k28 ≠ k26 := fun e2 => by rw [e2] at hk28'; have := lift1 C26; unfold Blk at this; rw [this] at hk28'; cases hk28'
      rw [Gx.put_ne _ _ _ h27, Hp.upd_ne _ _ h27, Hp.upd_ne _ _ h26, ← e, hc3] at hk28'
      cases hk28'
    · rw [e, n2] at hc; cases hc
    · rw [e, n3] at hc; cases hc
  have sX : Sub h ((((((h3.upd k26 (.cells #[.pointer (some ⟨db, 0, none⟩), .int .i64 (n : Nat)] 110 (0, 0))).upd k27 (.cells #[.pointer none] 29 (0, 0))).put k27 0 [.pointer (some ⟨k26, 0, none⟩)])).upd k28 (.cells #[.bool false] 4 (0, 0))).put k28 0 [.bool false]) := fun c o hc => by
    obtain ⟨a1, a2, a3, _⟩ := sA c o hc
    rw [Gx.put_ne _ _ _ a3, Hp.upd_ne _ _ a3, Gx.put_ne _ _ _ a2, Hp.upd_ne _ _ a2, Hp.upd_ne _ _ a1]
    exact s3 c o hc
  have n26 : h k26 = none := s3.none hk26
  refine ⟨_, _, _, fun k x => k = 0 ∧ x = _, fun _ _ => False, told_iter (zeroB 256) (by rw [zeroB_size]; omega) k, ?_, ?_, ⟨rfl, rfl⟩, ?_, ?_, ?_, ?_, ?_, trivial⟩
  · intro h0 b o hb hp
    exact cell_sub (Sub.upd hb o) hp
  · rintro _ x ⟨_, rfl⟩
    exact (Blk.new _ k 9 [.string (zeroB 256)]).cell' 0 rfl
  · rintro _ vs ⟨i, hi, rfl⟩
    exact ⟨_, rfl⟩
  · rintro _ _ ⟨i, hi, _⟩
    rw [bits_zero] at hi; cases hi
  · rintro _ x ⟨rfl, rfl⟩ _ D' hD
    have U := fun {b t vs} (H : Blk ((((((h3.upd k26 (.cells #[.pointer (some ⟨db, 0, none⟩), .int .i64 (n : Nat)] 110 (0, 0))).upd k27 (.cells #[.pointer none] 29 (0, 0))).put k27 0 [.pointer (some ⟨k26, 0, none⟩)])).upd k28 (.cells #[.bool false] 4 (0, 0))).put k28 0 [.bool false]) b t vs) => (H.upd hk' (.cells #[.string (zeroB 256)] 9 (0, 0))).upd hD (.deferred (some []))
    have dD : ∀ {b t vs}, Blk ((((((h3.upd k26 (.cells #[.pointer (some ⟨db, 0, none⟩), .int .i64 (n : Nat)] 110 (0, 0))).upd k27 (.cells #[.pointer none] 29 (0, 0))).put k27 0 [.pointer (some ⟨k26, 0, none⟩)])).upd k28 (.cells #[.bool false] 4 (0, 0))).put k28 0 [.bool false]) b t vs → b ≠ D' := fun H => (H.upd hk' _).ne hD
    have d2 := dD E2
    have d3 := dD E3
    have F2 := (U E2).put 0 [.pointer (some ⟨k26, 0, none⟩)]
    have F3 := (U E3).put_ne 0 [.pointer (some ⟨k26, 0, none⟩)] d32
    have G2 := F2.put_ne 0 [.int .i64 0] (Ne.symm d32)
    have G3 := F3.put 0 [.int .i64 0]
    have del : ∀ {y : Hp} {b : Nat} {t : TypeId} {vs : List Value}, Blk y b t vs → b ≠ D' → Blk (y.del D') b t vs := fun H e => by
      unfold Blk Hp.del
      rw [if_neg e]; exact H
    have d26 : k26 ≠ k2 ∧ k26 ≠ k3 := ⟨(B2.ne hk26).symm, (B3.ne hk26).symm⟩
    have hD' := hD
    refine ⟨false, (U C28).cell' 0 rfl, _, (U E27).cell' 0 rfl, (U E2).store (Nat.le_refl 1), F3.store (Nat.le_refl 1), ?_, _, (del G2 d2).cell' 0 rfl, _, (del G3 d3).cell' 0 rfl, ?_⟩
    · rw [Gx.put_ne _ _ _ (Ne.symm d3), Gx.put_ne _ _ _ (Ne.symm d2), Hp.upd_same]
    · have sY : Gx.Sub h ((((((((((h3.upd k26 (.cells #[.pointer (some ⟨db, 0, none⟩), .int .i64 (n : Nat)] 110 (0, 0))).upd k27 (.cells #[.pointer none] 29 (0, 0))).put k27 0 [.pointer (some ⟨k26, 0, none⟩)]).upd k28 (.cells #[.bool false] 4 (0, 0))).put k28 0 [.bool false]).upd k (.cells #[.string (zeroB 256)] 9 (0, 0))).upd D' (.deferred (some []))).put k2 0 [.pointer (some ⟨k26, 0, none⟩)]).put k3 0 [.int .i64 0]).del D') := fun c o hc => by
        obtain ⟨_, _, _, a4, a5⟩ := sA c o hc
        have hx := sX c o hc
        have ck : c ≠ k := fun e => by rw [e, hk'] at hx; cases hx
        have hx2 := Sub.upd hk' (.cells #[.string (zeroB 256)] 9 (0, 0)) c o hx
        have cD : c ≠ D' := fun e => by rw [e] at hx2; rw [hx2] at hD; cases hD
        unfold Hp.del
        rw [if_neg cD, Gx.put_ne _ _ _ a5, Gx.put_ne _ _ _ a4, Hp.upd_ne _ _ cD]
        exact hx2
      refine hK _ k26 (fun c => c = k26 ∨ S c) ⟨⟨S, del (((U E26).put_ne 0 _ d26.1).put_ne 0 _ d26.2) (dD E26), H.sub sY, fun hc => H.in_heap hc n26, fun c => Iff.rfl⟩, h1, h2, hl⟩ sY ?_
      rintro c (rfl | hc)
      · exact .inr n26
      · exact .inl hc
  · rintro x hf; exact hf.elim
  · rintro x hf; exact hf.elim
end Go.Proofs.YtagglohkipioiaaGreat
namespace Go.Proofs.YtagglohkipioiaaGreat
open Go.Gx
set_option maxRecDepth 100000
set_option linter.unusedVariables false

abbrev Ch := Nat × ByteArray
theorem appTCh : AppT Tryz.prog 103 2 24 := AppT.of (by kernel_rfl)
theorem upd_del {h : Hp} {D : Nat} (o : Obj) (hD : h D = none) : (h.upd D o).del D = h := by
  funext c
  unfold Hp.del
  by_cases e : c = D
  · rw [if_pos e, e, hD]
  · rw [if_neg e, Hp.upd_ne _ _ e]
theorem values_iter (la : Option Addr) (lc : Nat) (cs : List Ch) (hl : cs.length < 1000000) (pb : Nat) : IterH Tryz.prog 87 [.pointer (some ⟨pb, 0, none⟩)] (fun k vs => ∃ c, cs[k]? = some c ∧ vs = [.agg (wrC c).toArray]) (fun k => k = cs.length)
    (fun h => h.cell pb 0 = some (.slice la cs.length lc) ∧ RowAt wrC 2 h la cs) := by
  intro l J Jx hJP hY h hJ
  refine slices_Values_journal_Change_journal_Change_1_0y.calls l pb 0 ?_
  unfold slices_Values_journal_Change_journal_Change_1_0y.W
  refine ⟨_, _, _, (hJP _ _ hJ).1, fun n x m => ∃ i : Nat, n = (i : Int) ∧ i ≤ cs.length ∧ m = cs.length - i ∧ J i x, ⟨_, 0, rfl, Nat.zero_le _, rfl, hJ⟩, ?_⟩
  rintro n x m ⟨i, rfl, hi, rfl, hJi⟩
  refine split_dec (fun g => ?_) fun g => ?_
  · have g : i < cs.length := by have : (i : Int) < (cs.length : Int) := g; omega
    have hq : cs[i]? = some cs[i] := List.getElem?_eq_getElem g
    generalize cs[i] = c at hq
    obtain ⟨b, o, ea, hc⟩ := (hJP _ _ hJi).2.get wrC_len (by decide) hq
    have e4 : IntKind.i64.wrap ((i : Int) + 1) = ((i + 1 : Nat) : Int) := by rw [wid (by omega) (by omega)]; omega
    refine ⟨by omega, by show (i : Int) < (cs.length : Int); omega, b, o, ea, _, hc 0 _ rfl, _, hc 1 _ rfl, ?_⟩
    refine YieldH.mono (hY i _ x hJi ⟨c, hq, rfl⟩) fun v h' hq => ?_
    rcases hq with ⟨rfl, hj⟩ | ⟨rfl, hj⟩
    · exact ⟨true, rfl, cs.length - (i + 1), by omega, i + 1, e4, by omega, rfl, hj⟩
    · exact ⟨false, rfl, .inr hj⟩
  · have : i = cs.length := by
      have : ¬ (i : Int) < (cs.length : Int) := g
      omega
    exact .inl ⟨i, this, hJi⟩
variable {h : Hp} {K : Value → Hp → Prop}
theorem collect_spec (la : Option Addr) (lc : Nat) (cs : List Ch) (hl : cs.length < 1000000) (pb : Nat) (hp : h.cell pb 0 = some (.slice la cs.length lc)) (R : RowAt wrC 2 h la cs)
    (hK : ∀ y a c, NewR wrC 2 103 h y a c cs → K (.slice a cs.length c) y) : CallsH Tryz.prog 85 #[.func (.func 87) #[] #[.pointer (some ⟨pb, 0, none⟩)]] h K := by
  refine slices_Collect_journal_Change__0f87.calls pb 0 ?_
  unfold slices_Collect_journal_Change__0f87.W
  refine slices_AppendSeq_journal_Change_journal_Change__1f87.calls none 0 0 pb 0 ?_
  unfold slices_AppendSeq_journal_Change_journal_Change__1f87.W
  intro k1 hk1
  refine ⟨_, _, _, fun k x => k ≤ cs.length ∧ Sub h x ∧ ∃ a c, Blk x k1 104 [.slice a k c] ∧ OwnR wrC 2 x 103 a c (cs.take k) ∧ ∀ b, blkOf a b → b ≠ k1 ∧ h b = none, fun _ _ => False, values_iter la lc cs hl pb, ?_, ?_, ?_, ?_, ?_, ?_, ?_, trivial⟩
  · rintro h0 b o hb ⟨p1, p2⟩
    exact ⟨cell_sub (Sub.upd hb o) p1, p2.sub (Sub.upd hb o)⟩
  · rintro k x ⟨_, s, _⟩
    exact ⟨cell_sub s hp, R.sub s⟩
  · exact ⟨Nat.zero_le _, Sub.upd hk1 _, none, 0, Blk.new h k1 104 _, OwnR.nil _ _, fun b ⟨o, s, e⟩ => by cases e⟩
  · rintro _ vs ⟨c, hc, rfl⟩
    exact ⟨_, _, rfl⟩
  · rintro k n s ⟨c, hc, e⟩ x ⟨hk, sx, a, cc, Bx, ox, nx⟩ k20 hk20
    have e : n = (c.1 : Int) ∧ s = c.2 := by
      have := (List.cons.inj e).1
      injection this with this
      have := congrArg Array.toList this
      injection this with e1 e2
      injection e1 with _ e1
      injection e2 with e2 _
      injection e2 with e2
      exact ⟨e1, e2⟩
    obtain ⟨rfl, rfl⟩ := e
    have hlt := (List.getElem?_eq_some_iff.1 hc).1
    have C20 := (Blk.new x k20 103 [.int .i64 0, .string (bytesL [])])
    have P20 := C20.put 0 [.int .i64 (c.1 : Nat), .string c.2]
    have d20 : k1 ≠ k20 := Bx.ne hk20
    have By := (Bx.upd hk20 (.cells #[.int .i64 0, .string (bytesL [])] 103 (0, 0))).put_ne 0 [.int .i64 (c.1 : Nat), .string c.2] d20
    have ky : Sub x ((x.upd k20 (.cells #[.int .i64 0, .string (bytesL [])] 103 (0, 0))).put k20 0 [.int .i64 (c.1 : Nat), .string c.2]) := fun b o hb => by
      have hne : b ≠ k20 := fun e => by rw [e, hk20] at hb; cases hb
      rw [Gx.put_ne _ _ _ hne, Hp.upd_ne _ _ hne]; exact hb
    refine ⟨C20.store (Nat.le_refl 2), _, _, _, By.cell' 0 rfl, _, P20.cell' 0 rfl, _, P20.cell' 1 rfl, fun k26 hk26 => ⟨_, (Blk.new _ k26 103 (wrC c)).slice rfl, fun a' c' y => OwnR wrC 2 y 103 a' c' (cs.take (k + 1)) ∧ Keep (blkOf a) x y ∧ ∀ b, blkOf a' b → blkOf a b ∨ x b = none, ?_, ?_⟩⟩
    · rintro a' c' y ⟨o1, o2, o3⟩
      have By := Bx.keep o2 fun hc => (nx _ hc).1 rfl
      have sy : Sub h y := o2.sub sx fun b hb => (nx b hb).2
      have hk1' : ∀ b, blkOf a' b → b ≠ k1 ∧ h b = none := fun b hb => by
        rcases o3 b hb with h' | h'
        · exact nx b h'
        · exact ⟨(fun e => by rw [e] at h'; unfold Blk at Bx; rw [Bx] at h'; cases h'), sx.none h'⟩
      have kp : Keep (fun c => c = k1) y (y.put k1 0 [.slice a' (k + 1) c']) := Keep.put _ y _ _ rfl
      exact ⟨By.store (Nat.le_refl 1), by omega, kp.sub sy (fun c e => by rw [e]; exact hk1), a', c', By.put 0 _, o1.keep kp fun c hc e => (hk1' c hc).1 e, hk1'⟩
    · have s26 := ky.trans (Sub.upd hk26 (.cells (wrC c).toArray 103 (0, 0)))
      refine append_ownR appTCh wrC_len wrC_plain (M := [c]) (ox.sub s26) (by rw [List.length_take]; omega) rfl (rowC_one _).symm (by simp; omega) fun a' c' y o k' nw => ⟨?_, fun b o' hb hn => k' b o' (s26 b o' hb) hn, fun b hb => ?_⟩
      · rw [List.take_add_one, hc]; exact o
      · rcases nw b hb with h | h
        · exact .inl h
        · exact .inr (s26.none h)
  · rintro _ x ⟨_, sx, a, cc, Bx, ox, nx⟩ rfl D' hD
    have hne := Bx.ne hD
    refine ⟨_, _, _, (Bx.upd hD _).cell' 0 rfl, Hp.upd_same _ _ _, ?_⟩
    rw [upd_del _ hD]
    rw [List.take_length] at ox
    exact ⟨_, _, _, rfl, hK x a cc ⟨sx, fun b hb => (nx b hb).2, ox⟩⟩
  · rintro x hf; exact hf.elim
end Go.Proofs.YtagglohkipioiaaGreat
namespace Go.Proofs.YtagglohkipioiaaGreat
open Go.Gx
set_option maxRecDepth 100000
set_option linter.unusedVariables false

theorem zero112 : zeroL Tryz.prog 81 = List.replicate 128 (.bool false) := by kernel_rfl
def seenC (l : List Ch) : List Value := (List.range 128).map fun i => .bool (l.any fun c => c.1 == i)
theorem seenC_len (l : List Ch) : (seenC l).length = 128 := by unfold seenC; simp
theorem seenC_get {l : List Ch} {i : Nat} (hi : i < 128) : (seenC l)[i]? = some (.bool (l.any fun c => c.1 == i)) := by
  unfold seenC
  rw [List.getElem?_map, List.getElem?_range hi]; rfl
theorem seenC_nil : seenC [] = List.replicate 128 (.bool false) := by kernel_rfl
theorem seenC_snoc (l : List Ch) (c : Ch) (hc : c.1 < 128) : setL (seenC l) c.1 [.bool true] = seenC (l ++ [c]) := by
  refine List.ext_getElem? fun i => ?_
  rw [setL_get]
  by_cases hi : i < 128
  · have hr := seenC_get (l := l ++ [c]) hi
    rw [hr, List.any_append]
    by_cases e : i = c.1
    · rw [if_pos ⟨e, by rw [seenC_len]; exact hc⟩, e]; simp
    · rw [if_neg (fun h => e h.1), seenC_get hi]
      have : (c.1 == i) = false := by simpa using Ne.symm e
      simp [this]
  · rw [if_neg (fun h => by omega), List.getElem?_eq_none (by rw [seenC_len]; omega), List.getElem?_eq_none (by rw [seenC_len]; omega)]
variable {h : Hp} {jb db n : Nat} {S : Nat → Prop} {D : Dk} {K : Value → Hp → Prop}
theorem check_ok (J : JAt h jb db S n D) {la : Option Addr} {lc : Nat} {cs : List Ch} (R : RowAt wrC 2 h la cs) (hl : cs.length < 1000000) (hc : ∀ c ∈ cs, c.1 < n ∧ c.2.size = 1024) (hd : (cs.map (·.1)).Nodup)
    (hK : ∀ y, Sub h y → K (.int .i64 0) y) : CallsH Tryz.prog journal_Journal_check.id #[.pointer (some ⟨jb, 0, none⟩), .slice la cs.length lc] h K := by
  have hn2 := J.n2
  obtain ⟨S0, j1, _⟩ := J.ex
  apply journal_Journal_check.calls
  unfold journal_Journal_check.W
  intro k1 hk1
  rw [zero112]
  have B0 : Blk (h.upd k1 (.cells (List.replicate 128 (.bool false)).toArray 81 (0, 0))) k1 81 (seenC []) := by rw [seenC_nil]; exact Blk.new h k1 81 _
  have hlen : (List.replicate 128 (Value.bool false)).length = 128 := List.length_replicate
  refine ⟨hlen, (fun v hv => by rw [(List.mem_replicate.1 hv).2]; exact ⟨(fun c h => by cases h), (fun c h => by cases h)⟩), B0.store (by rw [hlen, seenC_len]; exact Nat.le_refl _), ?_⟩
  have e0 : (h.upd k1 (.cells (List.replicate 128 (.bool false)).toArray 81 (0, 0))).put k1 0 (List.replicate 128 (.bool false)) = h.upd k1 (.cells (List.replicate 128 (.bool false)).toArray 81 (0, 0)) := by
    have B0' : Blk (h.upd k1 (.cells (List.replicate 128 (.bool false)).toArray 81 (0, 0))) k1 81 (List.replicate 128 (.bool false)) := Blk.new h k1 81 _
    rw [put_get B0']
    have e1 : setL (List.replicate 128 (Value.bool false)) 0 (List.replicate 128 (.bool false)) = List.replicate 128 (.bool false) := by kernel_rfl
    rw [e1]
    funext c
    by_cases e : c = k1
    · rw [e, Hp.upd_same, Hp.upd_same]
    · rw [Hp.upd_ne _ _ e]
  rw [e0]
  have s0 : Sub h (h.upd k1 (.cells (List.replicate 128 (.bool false)).toArray 81 (0, 0))) := Sub.upd hk1 _
  generalize h.upd k1 (.cells (List.replicate 128 (.bool false)).toArray 81 (0, 0)) = h1 at B0 s0
  have get : ∀ {x : Hp} {j : Nat}, Sub h x → j < cs.length → ∃ c b o, cs[j]? = some c ∧ c ∈ cs ∧ la = some ⟨b, o, none⟩ ∧ x.cell b (o + j * 2) = some (.int .i64 (c.1 : Nat)) ∧ x.cell b (o + j * 2 + 1) = some (.string c.2) := by
    intro x j sx hj
    have hq : cs[j]? = some cs[j] := List.getElem?_eq_getElem hj
    obtain ⟨b, o, ea, hcell⟩ := (R.sub sx).get wrC_len (by decide) hq
    exact ⟨_, b, o, hq, List.getElem_mem hj, ea, hcell 0 _ rfl, hcell 1 _ rfl⟩
  refine ⟨fun i x m => ∃ j : Nat, i = (j : Int) ∧ j ≤ cs.length ∧ m = cs.length - j ∧ x = h1, ⟨_, 0, rfl, Nat.zero_le _, rfl, rfl⟩, ?_⟩
  rintro i x m ⟨j, rfl, hj, rfl, rfl⟩
  have e4 : ∀ j : Nat, j < cs.length → IntKind.i64.wrap ((j : Int) + 1) = ((j + 1 : Nat) : Int) := fun j hj => by rw [wid (by omega) (by omega)]; omega
  refine split_dec (fun g => ?_) fun _ => ?_
  · have g : j < cs.length := by have : (j : Int) < (cs.length : Int) := g; omega
    obtain ⟨c, b, o, hq, hm, ea, c0, c1⟩ := get s0 g
    have hcn := (hc c hm).1
    exact ⟨by omega, by show (j : Int) < (cs.length : Int); omega, b, o, ea, _, c0, _, c1, split_dec (fun e => by have e : (c.1 : Int) < 0 := e; omega) fun _ => ⟨_, (j1.sub s0).cell' 1 rfl, split_dec (fun e => by have e : (c.1 : Int) ≥ (n : Int) := e; omega) fun _ => ⟨cs.length - (j + 1), by omega, j + 1, e4 j g, by omega, rfl, rfl⟩⟩⟩
  refine ⟨fun i x m => ∃ j : Nat, i = (j : Int) ∧ j ≤ cs.length ∧ m = cs.length - j ∧ Sub h x ∧ Blk x k1 81 (seenC (cs.take j)), ⟨_, 0, rfl, Nat.zero_le _, rfl, s0, B0⟩, ?_⟩
  rintro i x m ⟨j, rfl, hj, rfl, sx, Bx⟩
  refine split_dec (fun g => ?_) fun _ => ?_
  · have g : j < cs.length := by have : (j : Int) < (cs.length : Int) := g; omega
    obtain ⟨c, b, o, hq, hm, ea, c0, c1⟩ := get sx g
    have hcn := (hc c hm).1
    have hnot : ((cs.take j).any fun d => d.1 == c.1) = false := by
      rw [List.any_eq_false]
      intro d hd' e
      have e : d.1 = c.1 := by simpa using e
      obtain ⟨i, hi⟩ := List.mem_iff_getElem?.1 hd'
      have hij : i < j := by
        have := (List.getElem?_eq_some_iff.1 hi).1
        rw [List.length_take] at this; omega
      rw [List.getElem?_take_of_lt hij] at hi
      have h1 : (cs.map (·.1))[i]? = some d.1 := by rw [List.getElem?_map, hi]; rfl
      have h2 : (cs.map (·.1))[j]? = some d.1 := by rw [List.getElem?_map, hq, e]; rfl
      have := (List.getElem?_inj (by rw [List.length_map]; omega) hd).1 (h1.trans h2.symm)
      omega
    have eidx : 0 + (c.1 : Int).toNat * 1 = c.1 := by rw [Int.toNat_natCast]; omega
    refine ⟨by omega, by show (j : Int) < (cs.length : Int); omega, b, o, ea, _, c0, _, c1, by omega, by omega, false, ?_, by omega, by omega, ?_, cs.length - (j + 1), by omega, j + 1, e4 j g, by omega, rfl, ?_, ?_⟩
    · rw [eidx, Bx.cell, seenC_get (by omega), hnot]
    · rw [eidx]; exact Bx.store (by rw [seenC_len]; omega)
    · exact (Keep.put (fun c => c = k1) x _ _ rfl).sub sx fun c e => by rw [e]; exact hk1
    · rw [eidx]
      have := Bx.put c.1 [.bool true]
      rw [seenC_snoc _ _ (by omega)] at this
      rw [List.take_add_one, hq]; exact this
  refine ⟨fun i y m => ∃ j : Nat, i = (j : Int) ∧ j ≤ cs.length ∧ m = cs.length - j ∧ y = x, ⟨_, 0, rfl, Nat.zero_le _, rfl, rfl⟩, ?_⟩
  rintro i y m ⟨j, rfl, hj, rfl, rfl⟩
  refine split_dec (fun g => ?_) fun _ => hK y sx
  have g : j < cs.length := by have : (j : Int) < (cs.length : Int) := g; omega
  obtain ⟨c, b, o, hq, hm, ea, c0, c1⟩ := get sx g
  have hcn := (hc c hm).2
  exact ⟨by omega, by show (j : Int) < (cs.length : Int); omega, b, o, ea, _, c0, _, c1, split_ne (fun e => absurd (by show (c.2.size : Int) = 1024; omega) e) fun _ => ⟨cs.length - (j + 1), by omega, j + 1, e4 j g, by omega, rfl, rfl⟩⟩
end Go.Proofs.YtagglohkipioiaaGreat
