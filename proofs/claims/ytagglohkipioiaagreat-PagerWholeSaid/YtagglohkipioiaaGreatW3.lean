/- A journal is opened behind a failure. Conditions: the power is on, no failure is set, nothing waits. -/
import Derived.Test.YtagglohkipioiaaGreatW1
namespace Go.Proofs.YtagglohkipioiaaGreat
open Go.Gx
set_option maxRecDepth 100000
set_option linter.unusedVariables false

theorem read_ws {D : Dk} {W : List (Nat × ByteArray)} {j : Nat} (h : ∀ w ∈ W, w.1 ≠ j) : ({ D with ws := W } : Dk).read j = D.l.getD j (bytesL []) := by
  unfold Dk.read
  show W.foldl (pick j) (D.l.getD j (bytesL [])) = _
  generalize D.l.getD j (bytesL []) = s
  induction W with
  | nil => rfl
  | cons w W ih =>
    rw [List.foldl_cons]
    have : pick j s w = s := by unfold pick; rw [if_neg (h w List.mem_cons_self)]
    rw [this]; exact ih fun v hv => h v (List.mem_cons_of_mem _ hv)
theorem page_ws {D : Dk} {W : List (Nat × ByteArray)} {a : Nat} (h : ∀ w ∈ W, w.1 < a ∨ a + 4 ≤ w.1) : ({ D with ws := W } : Dk).page a = pageL D.l a := by
  unfold Dk.page pageL secs
  unfold Dk.look Dk.look Dk.look Dk.look Dk.look
  rw [read_ws fun w hw => by have := h w hw; omega, read_ws fun w hw => by have := h w hw; omega, read_ws fun w hw => by have := h w hw; omega, read_ws fun w hw => by have := h w hw; omega, List.nil_append]; rfl
/-- What stands while a journal is opened. -/
structure OpS (h : Hp) (S S' : Nat → Prop) (db k1 k2 k3 k26 k27 k28 k n : Nat) (mark : ByteArray) (D : Dk) (b : Bool) (x : Hp) : Prop where
  j : JAt x k26 db S' n D
  nw : ∀ c, S' c → S c ∨ h c = none
  b1 : Blk x k1 3 [.int .i64 (n : Nat)]
  b2 : Blk x k2 29 [.pointer none]
  b3 : Blk x k3 44 [.int .i64 0]
  b27 : Blk x k27 29 [.pointer (some ⟨k26, 0, none⟩)]
  b28 : Blk x k28 4 [.bool b]
  bk : Blk x k 9 [.string mark]
  s1 : ¬ S' k1
  s2 : ¬ S' k2
  s3 : ¬ S' k3
  s27 : ¬ S' k27
  s28 : ¬ S' k28
  sk : ¬ S' k
  kp : Keep S h x
  h2 : h k2 = none
  h3 : h k3 = none
  h28 : h k28 = none
  e1 : k28 ≠ k1
  e2 : k28 ≠ k2
  e3 : k28 ≠ k3
  e27 : k28 ≠ k27
  ek : k28 ≠ k
  e23 : k2 ≠ k3
variable {h : Hp} {S S' : Nat → Prop} {db k1 k2 k3 k26 k27 k28 k n : Nat} {mark : ByteArray} {D : Dk} {b : Bool} {x : Hp}
theorem OpS.step {S2 : Nat → Prop} {D' : Dk} {x' : Hp} (O : OpS h S S' db k1 k2 k3 k26 k27 k28 k n mark D b x) (J : JAt x' k26 db S2 n D') (st : Step S' x S2 x') : OpS h S S2 db k1 k2 k3 k26 k27 k28 k n mark D' b x' := by
  have kp' : Keep S h x' := fun c o hc hn => st.1 c o (O.kp c o hc hn) fun hs => (O.nw c hs).elim hn fun e => by rw [hc] at e; cases e
  refine ⟨J, fun c hc => ?_, O.b1.keep st.1 O.s1, O.b2.keep st.1 O.s2, O.b3.keep st.1 O.s3, O.b27.keep st.1 O.s27, O.b28.keep st.1 O.s28, O.bk.keep st.1 O.sk, (st.out O.b1 O.s1).2, (st.out O.b2 O.s2).2, (st.out O.b3 O.s3).2, (st.out O.b27 O.s27).2, (st.out O.b28 O.s28).2, (st.out O.bk O.sk).2, kp', O.h2, O.h3, O.h28, O.e1, O.e2, O.e3, O.e27, O.ek, O.e23⟩
  by_cases hS : S c
  · exact .inl hS
  · rcases st.2 c hc with h' | h'
    · exact O.nw c h'
    · right
      cases e : h c with
      | none => rfl
      | some o => rw [O.kp c o e hS] at h'; cases h'
theorem OpS.sub {x' : Hp} (O : OpS h S S' db k1 k2 k3 k26 k27 k28 k n mark D b x) (s : Sub x x') : OpS h S S' db k1 k2 k3 k26 k27 k28 k n mark D b x' := O.step (O.j.sub s) (Step.sub s)
theorem OpS.set28 (O : OpS h S S' db k1 k2 k3 k26 k27 k28 k n mark D b x) : OpS h S S' db k1 k2 k3 k26 k27 k28 k n mark D true (x.put k28 0 [.bool true]) ∧ StoreOk x k28 0 1 := by
  have kz : Keep (fun c => c = k28) x (x.put k28 0 [.bool true]) := Keep.put _ _ _ _ rfl
  refine ⟨⟨O.j.out kz fun c hc e => O.s28 (e ▸ hc), O.nw, O.b1.keep kz (Ne.symm O.e1), O.b2.keep kz (Ne.symm O.e2), O.b3.keep kz (Ne.symm O.e3), O.b27.keep kz (Ne.symm O.e27), O.b28.put 0 [.bool true], O.bk.keep kz (Ne.symm O.ek), O.s1, O.s2, O.s3, O.s27, O.s28, O.sk, (fun c o hc hn => kz c o (O.kp c o hc hn) fun e => by rw [e, O.h28] at hc; cases hc), O.h2, O.h3, O.h28, O.e1, O.e2, O.e3, O.e27, O.ek, O.e23⟩, O.b28.store (Nat.le_refl 1)⟩
theorem OpS.fin {d : Nat} (O : OpS h S S' db k1 k2 k3 k26 k27 k28 k n mark D b x) (hd : x d = some (.deferred (some []))) (nd : ¬ S' d) (hn : ∀ o, h d = some o → S d) :
    StoreOk x k2 0 1 ∧ StoreOk (x.put k2 0 [.pointer (some ⟨k26, 0, none⟩)]) k3 0 1 ∧ ((x.put k2 0 [.pointer (some ⟨k26, 0, none⟩)]).put k3 0 [.int .i64 0]) d = some (.deferred (some [])) ∧
      (((x.put k2 0 [.pointer (some ⟨k26, 0, none⟩)]).put k3 0 [.int .i64 0]).del d).cell k2 0 = some (.pointer (some ⟨k26, 0, none⟩)) ∧ (((x.put k2 0 [.pointer (some ⟨k26, 0, none⟩)]).put k3 0 [.int .i64 0]).del d).cell k3 0 = some (.int .i64 0) ∧
      JAt (((x.put k2 0 [.pointer (some ⟨k26, 0, none⟩)]).put k3 0 [.int .i64 0]).del d) k26 db S' n D ∧ Step S h S' (((x.put k2 0 [.pointer (some ⟨k26, 0, none⟩)]).put k3 0 [.int .i64 0]).del d) := by
  have d2 : d ≠ k2 := fun e => by have := O.b2; unfold Blk at this; rw [← e, hd] at this; cases this
  have d3 : d ≠ k3 := fun e => by have := O.b3; unfold Blk at this; rw [← e, hd] at this; cases this
  have P2 := O.b2.put 0 [.pointer (some ⟨k26, 0, none⟩)]
  have P3 := O.b3.put_ne 0 [.pointer (some ⟨k26, 0, none⟩)] (Ne.symm O.e23)
  have Q2 := P2.put_ne 0 [.int .i64 0] O.e23
  have Q3 := P3.put 0 [.int .i64 0]
  have del : ∀ {y : Hp} {b : Nat} {t : TypeId} {vs : List Value}, Blk y b t vs → b ≠ d → Blk (y.del d) b t vs := fun H e => by
    unfold Blk Hp.del
    rw [if_neg e]; exact H
  have kz : Keep (fun c => c = k2 ∨ c = k3 ∨ c = d) x (((x.put k2 0 [.pointer (some ⟨k26, 0, none⟩)]).put k3 0 [.int .i64 0]).del d) := fun c o hc hne => by
    unfold Hp.del
    rw [if_neg fun e => hne (.inr (.inr e)), Gx.put_ne _ _ _ fun e => hne (.inr (.inl e)), Gx.put_ne _ _ _ fun e => hne (.inl e)]; exact hc
  refine ⟨O.b2.store (Nat.le_refl 1), P3.store (Nat.le_refl 1), by rw [Gx.put_ne _ _ _ d3, Gx.put_ne _ _ _ d2]; exact hd, (del Q2 (Ne.symm d2)).cell' 0 rfl, (del Q3 (Ne.symm d3)).cell' 0 rfl, O.j.out kz ?_, fun c o hc hn2 => kz c o (O.kp c o hc hn2) ?_, O.nw⟩
  · rintro c hc (rfl | rfl | rfl)
    · exact O.s2 hc
    · exact O.s3 hc
    · exact nd hc
  · rintro (rfl | rfl | rfl)
    · rw [O.h2] at hc; cases hc
    · rw [O.h3] at hc; cases hc
    · exact hn2 (hn o hc)
def isK (n : Nat) (mark : ByteArray) (j : Nat) : List Nat := ((bitsOf mark).take j).filter fun i => decide (i < n)
theorem isK_len (n : Nat) (mark : ByteArray) (j : Nat) : (isK n mark j).length ≤ 128 := by
  have h1 := List.length_filter_le (fun i => decide (i < n)) ((bitsOf mark).take j)
  have h2 : (bitsOf mark).length ≤ 128 := Nat.le_trans (List.length_filter_le _ _) (by rw [List.length_range]; exact Nat.le_refl _)
  rw [List.length_take] at h1
  unfold isK
  omega
theorem isK_step {n : Nat} {mark : ByteArray} {j i : Nat} (hi : (bitsOf mark)[j]? = some i) : isK n mark (j + 1) = isK n mark j ++ if i < n then [i] else [] := by
  unfold isK
  rw [List.take_add_one, hi, List.filter_append]
  congr 1
  show [i].filter _ = _
  by_cases h : i < n
  · simp [h]
  · simp [h]
def dskK (n : Nat) (D : Dk) (is : List Nat) : Dk := { D with ws := ownW n (logC D is) }
set_option maxHeartbeats 4000000 in
theorem jopen_gen {h : Hp} {db : Nat} {S : Nat → Prop} {D : Dk} {K : Value → Hp → Prop} (H : DkAt h db S D) (hd : D.down = false) (hf : D.fuse = 0) (hw : D.ws = []) (n : Nat) (h1 : 1 ≤ n) (h2 : n ≤ 128) (hl : 8 * n + 1 ≤ D.l.length) (hm : 16 ≤ (D.read 0).size)
    (hK : ∀ h' jb S', JAt h' jb db S' n (recov n D) → Step S h S' h' → K (.tuple #[.pointer (some ⟨jb, 0, none⟩), .int .i64 0]) h') : CallsH Tryz.prog journal_Open.id #[.pointer (some ⟨db, 0, none⟩), .int .i64 (n : Nat)] h K := by
  have hll := H.len
  apply journal_Open.calls
  unfold journal_Open.W
  intro k1 hk1 k2 hk2 k3 hk3
  have d21 : k2 ≠ k1 := fun e => by rw [e, Hp.upd_same] at hk2; cases hk2
  have B1 : Blk (((h.upd k1 (.cells #[.int .i64 (n : Nat)] 3 (0, 0))).upd k2 (.cells #[.pointer none] 29 (0, 0))).upd k3 (.cells #[.int .i64 0] 44 (0, 0))) k1 3 [.int .i64 (n : Nat)] := ((Blk.new h k1 3 _).upd hk2 _).upd hk3 _
  have B2 : Blk (((h.upd k1 (.cells #[.int .i64 (n : Nat)] 3 (0, 0))).upd k2 (.cells #[.pointer none] 29 (0, 0))).upd k3 (.cells #[.int .i64 0] 44 (0, 0))) k2 29 [.pointer none] := (Blk.new _ k2 29 _).upd hk3 _
  have B3 : Blk (((h.upd k1 (.cells #[.int .i64 (n : Nat)] 3 (0, 0))).upd k2 (.cells #[.pointer none] 29 (0, 0))).upd k3 (.cells #[.int .i64 0] 44 (0, 0))) k3 44 [.int .i64 0] := Blk.new _ k3 44 _
  have s3 : Sub h (((h.upd k1 (.cells #[.int .i64 (n : Nat)] 3 (0, 0))).upd k2 (.cells #[.pointer none] 29 (0, 0))).upd k3 (.cells #[.int .i64 0] 44 (0, 0))) := ((Sub.upd hk1 _).trans (Sub.upd hk2 _)).trans (Sub.upd hk3 _)
  have n2 : h k2 = none := (Sub.upd hk1 _).none hk2
  have n3 : h k3 = none := ((Sub.upd hk1 _).trans (Sub.upd hk2 _)).none hk3
  have d32 : k3 ≠ k2 := fun e => by rw [e, Hp.upd_same] at hk3; cases hk3
  generalize ((h.upd k1 (.cells #[.int .i64 (n : Nat)] 3 (0, 0))).upd k2 (.cells #[.pointer none] 29 (0, 0))).upd k3 (.cells #[.int .i64 0] 44 (0, 0)) = h3 at B1 B2 B3 s3
  have H3 := H.sub s3
  refine ⟨_, B1.cell' 0 rfl, need_spec n h1 h2 ⟨_, rfl, Sub.refl _, split_eq (fun e => by have e : ((8 * n + 1 : Nat) : Int) = 0 := e; omega) fun _ => ⟨_, B1.cell' 0 rfl, size_spec H3 ⟨_, rfl, Sub.refl _, need_spec n h1 h2 ⟨_, rfl, split_dec (fun e => by have e : (D.l.length : Int) < ((8 * n + 1 : Nat) : Int) := e; omega) fun _ => ?_⟩⟩⟩⟩⟩
  refine read_spec (i := 0) H3 (by omega) hd ⟨_, _, rfl, split_ne (fun e => absurd rfl e) fun _ => ?_⟩
  generalize emark : D.read 0 = mark at hm
  refine ⟨_, B1.cell' 0 rfl, fun k26 hk26 k27 hk27 => ?_⟩
  have hk27' : (h3.upd k26 (.cells #[.pointer (some ⟨db, 0, none⟩), .int .i64 (n : Nat)] 110 (0, 0))) k27 = none := hk27
  have C26 : Blk (h3.upd k26 (.cells #[.pointer (some ⟨db, 0, none⟩), .int .i64 (n : Nat)] 110 (0, 0))) k26 110 [.pointer (some ⟨db, 0, none⟩), .int .i64 (n : Nat)] := Blk.new h3 k26 110 _
  have s26 : Sub h3 (h3.upd k26 (.cells #[.pointer (some ⟨db, 0, none⟩), .int .i64 (n : Nat)] 110 (0, 0))) := Sub.upd hk26 _
  have C27 := (Blk.new (h3.upd k26 (.cells #[.pointer (some ⟨db, 0, none⟩), .int .i64 (n : Nat)] 110 (0, 0))) k27 29 [.pointer none])
  have s27 : Sub (h3.upd k26 (.cells #[.pointer (some ⟨db, 0, none⟩), .int .i64 (n : Nat)] 110 (0, 0))) (((h3.upd k26 (.cells #[.pointer (some ⟨db, 0, none⟩), .int .i64 (n : Nat)] 110 (0, 0))).upd k27 (.cells #[.pointer none] 29 (0, 0))).put k27 0 [.pointer (some ⟨k26, 0, none⟩)]) :=
    (Keep.put (fun c => c = k27) _ 0 _ rfl).sub (Sub.upd hk27' _) fun c e => by rw [e]; exact hk27'
  have C27p : Blk (((h3.upd k26 (.cells #[.pointer (some ⟨db, 0, none⟩), .int .i64 (n : Nat)] 110 (0, 0))).upd k27 (.cells #[.pointer none] 29 (0, 0))).put k27 0 [.pointer (some ⟨k26, 0, none⟩)]) k27 29 [.pointer (some ⟨k26, 0, none⟩)] := C27.put 0 _
  refine ⟨C27.store (Nat.le_refl 1), fun k28 hk28 => ?_⟩
  have hk28' : (((h3.upd k26 (.cells #[.pointer (some ⟨db, 0, none⟩), .int .i64 (n : Nat)] 110 (0, 0))).upd k27 (.cells #[.pointer none] 29 (0, 0))).put k27 0 [.pointer (some ⟨k26, 0, none⟩)]) k28 = none := hk28
  show StoreOk ((((h3.upd k26 (.cells #[.pointer (some ⟨db, 0, none⟩), .int .i64 (n : Nat)] 110 (0, 0))).upd k27 (.cells #[.pointer none] 29 (0, 0))).put k27 0 [.pointer (some ⟨k26, 0, none⟩)]).upd k28 _) k28 0 1 ∧ CallsH _ _ _ (((((h3.upd k26 (.cells #[.pointer (some ⟨db, 0, none⟩), .int .i64 (n : Nat)] 110 (0, 0))).upd k27 (.cells #[.pointer none] 29 (0, 0))).put k27 0 [.pointer (some ⟨k26, 0, none⟩)]).upd k28 _).put k28 0 _) _
  have sa := s26.trans s27
  have n26 : h k26 = none := s3.none hk26
  have n28 : h k28 = none := (s3.trans sa).none hk28'
  have C26b := C26.sub s27
  have B1b := B1.sub sa
  have B2b := B2.sub sa
  have B3b := B3.sub sa
  have Hb := H3.sub sa
  have h27b : h k27 = none := (s3.trans s26).none hk27'
  generalize (((h3.upd k26 (.cells #[.pointer (some ⟨db, 0, none⟩), .int .i64 (n : Nat)] 110 (0, 0))).upd k27 (.cells #[.pointer none] 29 (0, 0))).put k27 0 [.pointer (some ⟨k26, 0, none⟩)]) = y at sa C27p hk28' C26b B1b B2b B3b Hb
  have hs := s3.trans sa
  have C28 := Blk.new y k28 4 [.bool false]
  have s28 : Sub y ((y.upd k28 (.cells #[.bool false] 4 (0, 0))).put k28 0 [.bool false]) := (Keep.put (fun c => c = k28) _ 0 _ rfl).sub (Sub.upd hk28' _) fun c e => by rw [e]; exact hk28'
  have C28p : Blk ((y.upd k28 (.cells #[.bool false] 4 (0, 0))).put k28 0 [.bool false]) k28 4 [.bool false] := C28.put 0 _
  refine ⟨C28.store (Nat.le_refl 1), journal_told.calls _ fun k hk => ⟨_, rfl, [.pointer (some ⟨k, 0, none⟩)], rfl, ?_⟩⟩
  have hk' : ((y.upd k28 (.cells #[.bool false] 4 (0, 0))).put k28 0 [.bool false]) k = none := hk
  have sk : Sub ((y.upd k28 (.cells #[.bool false] 4 (0, 0))).put k28 0 [.bool false]) (((y.upd k28 (.cells #[.bool false] 4 (0, 0))).put k28 0 [.bool false]).upd k (.cells #[.string mark] 9 (0, 0))) := Sub.upd hk' _
  have Ck := Blk.new ((y.upd k28 (.cells #[.bool false] 4 (0, 0))).put k28 0 [.bool false]) k 9 [.string mark]
  have t := s28.trans sk
  have hne : ∀ {b t vs}, Blk y b t vs → k28 ≠ b := fun B e => by unfold Blk at B; rw [← e, hk28'] at B; cases B
  have nS : ∀ c, h c = none → ¬ S c := fun c hc hs => H.in_heap hs hc
  have nk : h k = none := hs.none (s28.none hk')
  have e26 : ∀ {b t vs}, Blk h3 b t vs → b ≠ k26 := fun B e => by unfold Blk at B; rw [e, hk26] at B; cases B
  have n1 : h k1 = none := hk1
  have e2726 : k27 ≠ k26 := fun e => by
    have h7 := hk27'
    rw [e] at h7
    unfold Blk at C26
    rw [C26] at h7; cases h7
  have O : OpS h S (fun c => c = k26 ∨ S c) db k1 k2 k3 k26 k27 k28 k n mark (dskK n D (isK n mark 0)) false (((y.upd k28 (.cells #[.bool false] 4 (0, 0))).put k28 0 [.bool false]).upd k (.cells #[.string mark] 9 (0, 0))) := by
    have e0 : dskK n D (isK n mark 0) = D := by
      unfold dskK isK
      rw [List.take_zero, List.filter_nil]
      show ({ D with ws := [] } : Dk) = D
      rw [← hw]
    rw [e0]
    refine ⟨⟨⟨S, C26b.sub t, Hb.sub t, nS _ n26, fun c => Iff.rfl⟩, h1, h2, hl⟩, fun c hc => hc.elim (fun e => .inr (by rw [e]; exact n26)) .inl, B1b.sub t, B2b.sub t, B3b.sub t, C27p.sub t, C28p.sub sk, Ck, ?_, ?_, ?_, ?_, ?_, ?_, (hs.trans t).keep S, n2, n3, n28, hne B1b, hne B2b, hne B3b, hne C27p, ?_, Ne.symm d32⟩
    · rintro (e | e)
      · exact e26 B1 e
      · exact nS _ n1 e
    · rintro (e | e)
      · exact e26 B2 e
      · exact nS _ n2 e
    · rintro (e | e)
      · exact e26 B3 e
      · exact nS _ n3 e
    · rintro (e | e)
      · exact e2726 e
      · exact nS _ h27b e
    · rintro (e | e)
      · exact hne C26b e
      · exact nS _ n28 e
    · rintro (e | e)
      · have := C26b.sub s28
        unfold Blk at this
        rw [← e, hk'] at this; cases this
      · exact nS _ nk e
    · intro e
      unfold Blk at C28p
      rw [← e, C28p] at hk'; cases hk'
  have tk : told n D = isK n mark (bitsOf mark).length := by unfold told isK; rw [emark, List.take_length]
  refine ⟨_, _, _, fun j x => ∃ S', OpS h S S' db k1 k2 k3 k26 k27 k28 k n mark (dskK n D (isK n mark j)) (decide (isK n mark j ≠ [])) x, fun _ _ => False, told_iter mark hm k, ?_, ?_, ⟨_, O⟩, ?_, ?_, ?_, ?_, ?_, trivial⟩
  · intro h0 b o hb hp
    exact cell_sub (Sub.upd hb o) hp
  · rintro _ x ⟨S', O⟩
    exact O.bk.cell' 0 rfl
  · rintro _ vs ⟨i, hi, rfl⟩
    exact ⟨_, rfl⟩
  · rintro j v ⟨i, hi, ev⟩ x ⟨S', O⟩
    cases ev
    have hst := isK_step (n := n) hi
    refine ⟨_, O.b1.cell' 0 rfl, split_dec (fun g => ?_) fun g => ?_⟩
    · have g : ¬ i < n := by have : (i : Int) ≥ (n : Int) := g; omega
      rw [if_neg g, List.append_nil] at hst
      show ∃ S', OpS h S S' db k1 k2 k3 k26 k27 k28 k n mark (dskK n D (isK n mark (j + 1))) (decide (isK n mark (j + 1) ≠ [])) x
      rw [hst]; exact ⟨S', O⟩
    have g : i < n := by have : ¬ (i : Int) ≥ (n : Int) := g; omega
    rw [if_pos g] at hst
    obtain ⟨O1, so⟩ := O.set28
    have ew : IntKind.i64.wrap (1 + IntKind.i64.wrap (4 * ((i : Nat) : Int))) = ((1 + 4 * i : Nat) : Int) := by
      rw [wid (x := 4 * ((i : Nat) : Int)) (by omega) (by omega), wid (by omega) (by omega)]; omega
    have hge : ∀ w ∈ ownW n (logC D (isK n mark j)), w.1 < 1 + 4 * i ∨ 1 + 4 * i + 4 ≤ w.1 := fun w hw => by have := own_mem hw; omega
    have hpg : (dskK n D (isK n mark j)).page (1 + 4 * i) = pageL D.l (1 + 4 * i) := page_ws hge
    have hpg2 : D.page (1 + 4 * i) = pageL D.l (1 + 4 * i) := page_L hw _
    have hlen : (dskK n D (isK n mark j)).l.length = D.l.length := rfl
    have hwl : (dskK n D (isK n mark j)).ws.length ≤ 512 := by
      show (ownW n (logC D (isK n mark j))).length ≤ 512
      unfold ownW
      rw [flatW_len _ fun c => parts_len _ _]
      unfold logC
      rw [List.length_map]
      have := isK_len n mark j
      omega
    rw [ew]
    refine ⟨so, _, O1.b27.cell' 0 rfl, look_spec O1.j (1 + 4 * i) (by rw [hlen]; omega) hd fun h52 s52 => ⟨_, _, rfl, split_eq (fun _ => ?_) fun e => absurd rfl e⟩⟩
    have O2 := O1.sub s52
    refine ⟨_, O2.b27.cell' 0 rfl, _, O2.b27.cell' 0 rfl, jown_spec O2.j i (by omega) ⟨_, rfl, Sub.refl _, ?_⟩⟩
    have hsz : ((dskK n D (isK n mark j)).page (1 + 4 * i)).size = 1024 := by
      obtain ⟨S0, q1, q2, q3, q4⟩ := O2.j.ex
      unfold Dk.page
      rw [← size_len]
      exact look_len q2 4 (by rw [hlen]; omega)
    have eo : ∀ c : Ch, wrs (dskK n D (isK n mark j)) (parts (1 + 4 * (n + i)) c.2) = ({ dskK n D (isK n mark j) with ws := (dskK n D (isK n mark j)).ws ++ parts (1 + 4 * (n + i)) c.2 }, 0) := fun c => wrs_on _ _ hd hf
    refine lay_spec O2.j (by rw [hlen]; omega) _ hsz (by omega) fun h61 S3 J61 st61 => ⟨_, rfl, ?_⟩
    have eo' := eo (i, (dskK n D (isK n mark j)).page (1 + 4 * i))
    rw [eo'] at J61 ⊢
    have O3 := O2.step J61 st61
    refine split_ne (fun e => absurd rfl e) fun _ => ⟨S3, ?_⟩
    have ed : { dskK n D (isK n mark j) with ws := (dskK n D (isK n mark j)).ws ++ parts (1 + 4 * (n + i)) ((dskK n D (isK n mark j)).page (1 + 4 * i)) } = dskK n D (isK n mark (j + 1)) := by
      rw [hpg, hst]
      show ({ D with ws := ownW n (logC D (isK n mark j)) ++ parts (1 + 4 * (n + i)) (pageL D.l (1 + 4 * i)) } : Dk) = { D with ws := ownW n (logC D (isK n mark j ++ [i])) }
      unfold logC ownW
      rw [List.map_append, List.flatMap_append, List.map_cons, List.map_nil, List.flatMap_cons, List.flatMap_nil, List.append_nil, hpg2]
    have eb : decide (isK n mark (j + 1) ≠ []) = true := decide_eq_true (by rw [hst]; simp)
    rw [eb, ← ed]; exact O3
  · rintro j x ⟨S', O⟩ hj d hd0
    have hj : j = (bitsOf mark).length := hj
    rw [hj, ← tk] at O
    have sd := Sub.upd hd0 (.deferred (some []))
    have Od := O.sub sd
    have hdd : (x.upd d (.deferred (some []))) d = some (.deferred (some [])) := Hp.upd_same _ _ _
    have nd : ¬ S' d := fun hs => O.j.in_heap hs hd0
    have hnd : ∀ o, h d = some o → S d := fun o e => by
      by_cases hS : S d
      · exact hS
      · have := O.kp d o e hS
        rw [this] at hd0; cases hd0
    generalize x.upd d (.deferred (some [])) = z at Od hdd
    refine ⟨_, Od.b28.cell' 0 rfl, split_cond (fun eb => ?_) fun eb => ?_⟩
    rotate_left
    · have ht : told n D = [] := by simpa using of_decide_eq_false eb
      have er : recov n D = dskK n D (told n D) := by
        unfold recov
        rw [if_pos ht]
        unfold dskK logC ownW
        rw [ht]
        show D = ({ D with ws := [] } : Dk)
        rw [← hw]
      obtain ⟨f1, f2, f3, f4, f5, f6, f7⟩ := Od.fin hdd nd hnd
      have := hK _ k26 S' (by rw [er]; exact f6) f7
      exact ⟨_, Od.b27.cell' 0 rfl, f1, f2, f3, _, f4, _, f5, this⟩
    have ht : told n D ≠ [] := of_decide_eq_true eb
    refine ⟨_, Od.b27.cell' 0 rfl, flushed_spec Od.j 0 fun h69 S2 J69 st69 => ⟨_, rfl, ?_⟩⟩
    have e1 : flD (dskK n D (told n D), 0) = ((dskK n D (told n D)).flush, 0) := flD_on hd
    rw [e1] at J69 ⊢
    have O1 := Od.step J69 st69
    have hd1 := st69.out hdd nd
    refine split_ne (fun e => absurd rfl e) fun _ => ?_
    obtain ⟨hl, r1, r2, r3⟩ := step_rest2 S2 h69
    have B27 := O1.b27.keep r3 O1.s27
    refine ⟨hl, r1, _, B27.cell' 0 rfl, by decide, by decide, by decide, by decide, fun k75 hk75 => ?_⟩
    have s75 := Sub.upd hk75 (.cells (repV 256 [.int .u8 0]).toArray 5 (0, 0))
    have O2 := O1.sub s75
    have hl2 : 1 ≤ (dskK n D (told n D)).flush.l.length := by show 1 ≤ (settleL _ _).length; rw [settleL_len]; show 1 ≤ D.l.length; omega
    refine ⟨r1.trans s75, zeroB 256, zero_slice (Hp.upd_same _ _ _), r1.trans s75, ?_⟩
    obtain ⟨S0, q1, q2, q3⟩ := O2.j.step
    refine jwrite_spec (i := 0) O2.j hl2 (zeroB 256) (zeroB_size 256) (by show (0 : Nat) < 4096; decide) fun h78 S3 J78 st78 => ⟨_, rfl, r2 _ _ ((Step.sub s75).trans st78), ?_⟩
    have e2 : wrs (dskK n D (told n D)).flush [(0, zeroB 256)] = ({ (dskK n D (told n D)).flush with ws := [] ++ [(0, zeroB 256)] }, 0) := wrs_on _ _ hd hf
    rw [e2] at J78 ⊢
    have O3 := O2.step J78 st78
    refine flushed_spec O3.j 0 fun h81 S4 J81 st81 => ⟨_, rfl, split_ne (fun e => absurd (congrArg Prod.snd (flD_on (D := ({ (dskK n D (told n D)).flush with ws := [] ++ [(0, zeroB 256)] } : Dk)) hd)) e) fun _ => ?_⟩
    have e3 : flD (({ (dskK n D (told n D)).flush with ws := [] ++ [(0, zeroB 256)] } : Dk), 0) = (({ (dskK n D (told n D)).flush with ws := [] ++ [(0, zeroB 256)] } : Dk).flush, 0) := flD_on hd
    rw [e3] at J81
    have O4 := O3.step J81 st81
    have er : recov n D = ({ (dskK n D (told n D)).flush with ws := [] ++ [(0, zeroB 256)] } : Dk).flush := by
      unfold recov
      rw [if_neg ht]
      unfold Dk.flush dskK
      show _ = (⟨_, [], D.fuse, D.down⟩ : Dk)
      rw [hd, hf]; rfl
    have hd2 := st81.out ((st78.out (s75 _ _ hd1.1) hd1.2).1) (st78.out (s75 _ _ hd1.1) hd1.2).2
    obtain ⟨f1, f2, f3, f4, f5, f6, f7⟩ := O4.fin hd2.1 hd2.2 hnd
    have := hK _ k26 S4 (by rw [er]; exact f6) f7
    exact ⟨_, O4.b27.cell' 0 rfl, f1, f2, f3, _, f4, _, f5, this⟩
  · rintro x hf; exact hf.elim
  · rintro x hf; exact hf.elim
end Go.Proofs.YtagglohkipioiaaGreat
