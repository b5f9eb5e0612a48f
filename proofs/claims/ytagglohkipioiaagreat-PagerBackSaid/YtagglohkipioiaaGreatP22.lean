/- Whether two states are the same; PagerBack over heaps. Conditions: the rows of steps lie in memory, and each step's byte is one. -/
import Derived.Test.YtagglohkipioiaaGreatP21
namespace Go.Proofs.YtagglohkipioiaaGreat
open Go.Gx
set_option maxRecDepth 100000
set_option linter.unusedVariables false

variable {h : Hp} {pb jb db n zb : Nat} {S : Nat → Prop} {D : Dk} {P : Pg} {R : Pr} {K : Value → Hp → Prop}
/-- Two states tell the same. -/
structure Eqv (x y : RS) : Prop where
  us : x.us = y.us
  ds : ∀ i : Nat, 0 < i → x.us[i]? = some true → x.ds[i]? = y.ds[i]?
  r : ∀ k, k < 4 → x.r k = y.r k
  s : x.s = y.s
set_option maxHeartbeats 1000000 in
theorem same_spec {x y : RS} (X : RSOk h n x) (Y : RSOk h n y) (hn : n ≤ 128) (hK : ∀ b, (Eqv x y → b = true) → K (.bool b) h) : CallsH Tryz.prog ref14_Same.id #[.agg (rsC x).toArray, .agg (rsC y).toArray] h K := by
  have xlu := X.lu
  have xld := X.ld
  have ylu := Y.lu
  have yld := Y.ld
  apply ref14_Same.calls
  unfold ref14_Same.W
  refine ⟨fun z => z = h, ?_, split_ne (fun e => absurd (by show (x.us.length : Int) = (y.us.length : Int); omega) e) fun _ => ⟨_, _, root_lits X.rt, root_lits Y.rt, split_not (fun e => hK false fun q => ?_) fun _ => split_ne (fun e => hK false fun q => absurd (by rw [q.s]) e) fun _ => rfl⟩⟩
  rotate_left
  · exfalso
    have : ((List.range 4).map fun k => Lit.int .i64 (x.r k : Nat)) = (List.range 4).map fun k => Lit.int .i64 (y.r k : Nat) := List.map_congr_left fun k hk => by rw [q.r k (List.mem_range.1 hk)]
    unfold leqL at e
    rw [hb_eq, @decide_eq_true _ (Classical.propDecidable _) this] at e
    cases e
  rintro z rfl
  refine ⟨fun i w m => ∃ j : Nat, i = (j : Int) ∧ j ≤ n ∧ m = n - j ∧ w = z, ⟨_, 0, rfl, Nat.zero_le _, rfl, rfl⟩, ?_⟩
  rintro i w m ⟨j, rfl, hj, rfl, rfl⟩
  refine split_dec (fun g => ?_) fun g => hK true fun _ => rfl
  have g : j < n := by have : (j : Int) < (x.us.length : Int) := g; omega
  have next : ∃ k, k < n - j ∧ ∃ j' : Nat, IntKind.i64.wrap ((j : Int) + 1) = (j' : Int) ∧ j' ≤ n ∧ k = n - j' ∧ w = w := ⟨n - (j + 1), by omega, j + 1, by rw [wid (by omega) (by omega)]; omega, by omega, rfl, rfl⟩
  have hx := List.getElem?_eq_getElem (show j < x.us.length by omega)
  have hy := List.getElem?_eq_getElem (show j < y.us.length by omega)
  have hdx := List.getElem?_eq_getElem (show j < x.ds.length by omega)
  have hdy := List.getElem?_eq_getElem (show j < y.ds.length by omega)
  obtain ⟨b1, o1, e1, c1⟩ := X.ru.get boolC_len (by decide) hx
  obtain ⟨b2, o2, e2, c2⟩ := Y.ru.get boolC_len (by decide) hy
  obtain ⟨b3, o3, e3, c3⟩ := X.rd.get strC_len (by decide) hdx
  obtain ⟨b4, o4, e4, c4⟩ := Y.rd.get strC_len (by decide) hdy
  have idx : (j : Int).toNat * 1 = j * 1 := by rw [Int.toNat_natCast]
  have l1 : (j : Int) < (x.us.length : Int) := by omega
  have l2 : (j : Int) < (y.us.length : Int) := by omega
  have l3 : (j : Int) < (x.ds.length : Int) := by omega
  have l4 : (j : Int) < (y.ds.length : Int) := by omega
  refine ⟨by omega, l1, b1, o1, e1, _, by rw [idx]; exact c1 0 _ rfl, by omega, l2, b2, o2, e2, _, by rw [idx]; exact c2 0 _ rfl, split_cond (fun eb => hK false fun q => ?_) fun _ => ?_⟩
  · exfalso
    have h3 : x.us[j]? = y.us[j]? := by rw [q.us]
    rw [hx, hy] at h3
    cases h3' : x.us[j] <;> cases h4' : y.us[j] <;> rw [h3', h4'] at h3 <;> rw [h3', h4'] at eb <;> first | (cases h3; done) | (cases eb; done)
  refine ⟨by omega, l1, b1, o1, e1, _, by rw [idx]; exact c1 0 _ rfl, split_cond (fun eu => split_dec (fun g0 => ⟨by omega, l3, b3, o3, e3, _, by rw [idx]; exact c3 0 _ rfl, by omega, l4, b4, o4, e4, _, by rw [idx]; exact c4 0 _ rfl, ?_⟩) fun _ => next) fun _ => next⟩
  rw [beqS_val]
  refine split_not (fun e => hK false fun q => ?_) fun _ => next
  exfalso
  have := q.ds j (by omega) (by rw [hx, eu])
  rw [hdx, hdy] at this
  exact of_decide_eq_false e (Option.some.inj this)
theorem sameInts_spec {a b : Option Addr} {c d : Nat} {L M : List Nat} (X : RowAt keyC 1 h a L) (Y : RowAt keyC 1 h b M) (hl : L.length ≤ 1000) (hK : ∀ r, (L = M → r = true) → K (.bool r) h) : CallsH Tryz.prog ref14_SameInts.id #[.slice a L.length c, .slice b M.length d] h K := by
  apply ref14_SameInts.calls
  unfold ref14_SameInts.W
  refine split_ne (fun e => hK false fun q => absurd (by rw [q]) e) fun el => ?_
  have el : L.length = M.length := by
    have : (L.length : Int) = (M.length : Int) := el
    omega
  refine ⟨fun i w m => ∃ j : Nat, i = (j : Int) ∧ j ≤ L.length ∧ m = L.length - j ∧ w = h, ⟨_, 0, rfl, Nat.zero_le _, rfl, rfl⟩, ?_⟩
  rintro i w m ⟨j, rfl, hj, rfl, rfl⟩
  refine split_dec (fun g => ?_) fun g => hK true fun _ => rfl
  have g : j < L.length := by have : (j : Int) < (L.length : Int) := g; omega
  have hx := List.getElem?_eq_getElem g
  have hy := List.getElem?_eq_getElem (show j < M.length by omega)
  obtain ⟨b1, o1, e1, c1⟩ := X.get keyC_len (by decide) hx
  obtain ⟨b2, o2, e2, c2⟩ := Y.get keyC_len (by decide) hy
  have idx : (j : Int).toNat * 1 = j * 1 := by rw [Int.toNat_natCast]
  refine ⟨by omega, by show (j : Int) < (L.length : Int); omega, b1, o1, e1, _, by rw [idx]; exact c1 0 _ rfl, by omega, by show (j : Int) < (M.length : Int); omega, b2, o2, e2, _, by rw [idx]; exact c2 0 _ rfl, split_ne (fun e => hK false fun q => ?_) fun _ => ⟨L.length - (j + 1), by omega, j + 1, by rw [wid (by omega) (by omega)]; omega, by omega, rfl, rfl⟩⟩
  exfalso
  have : L[j]? = M[j]? := by rw [q]
  rw [hx, hy] at this
  exact e (by rw [Option.some.inj this])
theorem Tr.small {P' : Pg} {D' : Dk} {o : Int} (t : Tr n P D o P' D') (ho : o < 4) : D' = D ∧ P'.good = P.good ∧ P'.pts = P.pts := by
  cases t with
  | same => exact ⟨rfl, rfl, rfl⟩
  | alloc => exact ⟨rfl, rfl, rfl⟩
  | give => exact ⟨rfl, rfl, rfl⟩
  | write => exact ⟨rfl, rfl, rfl⟩
  | point => exact ⟨rfl, rfl, rfl⟩
  | save => exact absurd ho (by decide)
  | back => exact absurd ho (by decide)
  | commit0 => exact absurd ho (by decide)
  | commit1 => exact absurd ho (by decide)
  | abort _ h => rcases h with rfl | rfl <;> exact absurd ho (by decide)
  | fresh => exact absurd ho (by decide)
/-- What a pager tells, as a state. -/
def Pg.rs (P : Pg) (D : Dk) (n : Nat) (ua : Option Addr) (uc : Nat) (da : Option Addr) (dc : Nat) : RS := ⟨ua, uc, da, dc, (List.range n).map P.now.u, (List.range n).map (P.stD D n), P.now.r, P.now.s⟩
theorem rs_C {ua da : Option Addr} {uc dc : Nat} : rsC (P.rs D n ua uc da dc) = stC ua n uc da n dc P.now.r P.now.s := by
  unfold rsC Pg.rs
  dsimp only
  rw [List.length_map, List.length_map, List.length_range]
theorem rs_ok {ua da : Option Addr} {uc dc : Nat} (ok : POk n P) (U : OwnR boolC 1 h 4 ua uc ((List.range n).map P.now.u)) (V : OwnR strC 1 h 9 da dc ((List.range n).map (P.stD D n))) : RSOk h n (P.rs D n ua uc da dc) :=
  ⟨by show ((List.range n).map _).length = n; rw [List.length_map, List.length_range], by show ((List.range n).map _).length = n; rw [List.length_map, List.length_range], U.row, V.row, fun k hk => (ok.now.roots k hk).1⟩
theorem st_spec (E : PgAt h pb jb db S n D P) (hK : ∀ h' ua uc da dc, Sub h h' → RSOk h' n (P.rs D n ua uc da dc) → (∀ c, blkOf ua c → h c = none ∧ h' c ≠ none) → (∀ c, blkOf da c → h c = none ∧ h' c ≠ none) → K (.agg (rsC (P.rs D n ua uc da dc)).toArray) h') : CallsH Tryz.prog law14_state.id #[.pointer (some ⟨pb, 0, none⟩)] h K :=
  state_spec E fun h' ua uc da dc s U V fu fd => by
    have := hK h' ua uc da dc s (rs_ok E.ok U V) (fun c hc => ⟨fu c hc, Own.in_heap U hc⟩) fun c hc => ⟨fd c hc, Own.in_heap V hc⟩
    rw [rs_C] at this; exact this
/-- Behind a savepoint. -/
def Bk (h hb : Hp) (T : Nat → Prop) (pb jb db n zb : Nat) (D : Dk) (P : Pg) (x : Hp) : Prop := ∃ S2 P2 R2, Inv h x zb n jb db pb S2 D P2 R2 ∧ P2.good = P.good ∧ P2.pts = P.pts ++ [(P.now, P.d)] ∧ Step T hb (PT S2 zb) x
set_option maxHeartbeats 4000000 in
theorem back_core (pages : Int) (a : Option Addr) (c : Nat) (os : List Op5) (ho : RowAt opC 5 h a os) (hok : ∀ o ∈ os, o.ok) (a2 : Option Addr) (c2 : Nat) (os2 : List Op5) (ho2 : RowAt opC 5 h a2 os2) (hok2 : ∀ o ∈ os2, o.ok) :
    CallsH Tryz.prog law14_PagerBack.id #[.int .i64 pages, .slice a os.length c, .slice a2 os2.length c2] h fun v h' => v = .bool true ∧ Sub h h' := by
  apply law14_PagerBack.calls
  unfold law14_PagerBack.W
  have live : ∀ x, Sub h x → CallsH Tryz.prog law14_lives.id #[] x fun v h' => ∃ b : Bool, v = .bool b ∧ (Value.bool b = .bool true ∧ Sub h h') := fun x s => lives_spec fun h' s' => ⟨_, rfl, rfl, s.trans s'⟩
  by_cases hp : pages < 2 ∨ pages > 10
  · refine begun_bad pages hp ⟨_, rfl, split_cond (fun _ => split_dec (fun _ => live h (Sub.refl h)) fun e => split_dec (fun _ => live h (Sub.refl h)) fun e2 => by omega) fun e => by cases e⟩
  obtain ⟨n, rfl⟩ : ∃ n : Nat, pages = (n : Int) := ⟨pages.toNat, by omega⟩
  have h2 : 2 ≤ n := by omega
  have hn : n ≤ 10 := by omega
  refine inv_begun h2 hn fun hb0 zb I0 => ⟨_, rfl, split_cond (fun e => by cases e) fun _ => ?_⟩
  refine ⟨fun x => InvE h x zb n, ?_, fun i x m => ∃ j : Nat, i = (j : Int) ∧ j ≤ 40 ∧ m = 40 - j ∧ InvE h x zb n, ⟨_, 0, rfl, by decide, rfl, I0⟩, ?_⟩
  rotate_left
  · rintro i x m ⟨j, rfl, hj, rfl, I⟩
    refine split_dec (fun g => split_dec (fun g2 => ?_) fun _ => I) fun _ => I
    have g : j < os.length := by have : (j : Int) < (os.length : Int) := g; omega
    have g2 : j < 40 := by have : (j : Int) < 40 := g2; omega
    have hq : os[j]? = some os[j] := List.getElem?_eq_getElem g
    have hom := hok os[j] (List.getElem_mem g)
    generalize os[j] = o at hq hom
    have sx : Sub h x := by obtain ⟨jb, db, pb, S, D, P, R, i⟩ := I; exact i.sub
    obtain ⟨b, oo, ea, hc⟩ := (ho.sub sx).get opC_len (by decide) hq
    have hc' : ∀ k v, (opC o)[k]? = some v → x.cell b (oo + (j : Int).toNat * 5 + k) = some v := fun k v e => by rw [Int.toNat_natCast]; exact hc k v e
    refine ⟨by omega, by show (j : Int) < (os.length : Int); omega, b, oo, ea, _, hc' 0 _ rfl, _, hc' 1 _ rfl, _, hc' 2 _ rfl, _, hc' 3 _ rfl, _, hc' 4 _ rfl, ?_⟩
    exact inv_step I h2 hn o hom fun b' h' I' => ⟨_, rfl, 40 - (j + 1), by omega, j + 1, by rw [wid (by omega) (by omega)]; omega, by omega, rfl, I'⟩
  rintro x11 ⟨jb, db, pb, S, D, P, R, I⟩
  refine ⟨zb, 0, rfl, _, I.A.blk.cell' 1 rfl, zb, 0, rfl, _, I.A.blk.cell' 1 rfl, ⟨st_spec I.E fun h19 ua uc da dc s19 W fu fd => ⟨_, _, _, _, _, _, _, _, _, _, _, rfl, s19, ⟨changed_spec (I.E.sub s19) fun h32 ca cc NC => ⟨_, _, _, rfl, ?_⟩, s19, changed_spec (I.E.sub s19) fun h32 ca cc NC => ⟨_, _, _, rfl, ?_⟩⟩⟩, Sub.refl _, st_spec I.E fun h19 ua uc da dc s19 W fu fd => ⟨_, _, _, _, _, _, _, _, _, _, _, rfl, s19, changed_spec (I.E.sub s19) fun h32 ca cc NC => ⟨_, _, _, rfl, ?_⟩⟩⟩⟩
  all_goals
    have E32 := (I.E.sub s19).sub NC.sub
    have A32 := (I.A.sub s19).sub NC.sub
    have s32 := s19.trans NC.sub
    have W32 := W.sub NC.sub
    have I32 := I.go E32 A32 (Step.sub s32) I.don
    refine ⟨zb, 0, rfl, _, A32.blk.cell' 1 rfl, save_spec E32 (fun _ => ⟨_, _, rfl, split_ne (fun _ => split_eq (fun _ => live h32 (I.sub.trans s32)) fun e => absurd rfl e) fun e => absurd e (by decide)⟩) fun _ h40 S' E40 st40 => ⟨_, _, rfl, split_ne (fun e => absurd rfl e) fun _ => ?_⟩⟩
    have I40 := I32.go E40 (A32.step st40) (PT.step st40) I.don
    refine ⟨fun x => Bk h h40 (PT S' zb) pb jb db n zb D P x, ?_, fun i x m => ∃ j : Nat, i = (j : Int) ∧ j ≤ 40 ∧ m = 40 - j ∧ Bk h h40 (PT S' zb) pb jb db n zb D P x, ⟨_, 0, rfl, by decide, rfl, S', _, R, I40, rfl, rfl, Step.refl _ _⟩, ?_⟩
    rotate_left
    · rintro i x m ⟨j, rfl, hj, rfl, B⟩
      refine split_dec (fun g => split_dec (fun g2 => ?_) fun _ => B) fun _ => B
      have g : j < os2.length := by have : (j : Int) < (os2.length : Int) := g; omega
      have g2 : j < 40 := by have : (j : Int) < 40 := g2; omega
      have hq : os2[j]? = some os2[j] := List.getElem?_eq_getElem g
      have hom := hok2 os2[j] (List.getElem_mem g)
      generalize os2[j] = o at hq hom
      have sx : Sub h x := by obtain ⟨S2, P2, R2, I2, _⟩ := B; exact I2.sub
      obtain ⟨b, oo, ea, hc⟩ := (ho2.sub sx).get opC_len (by decide) hq
      have hc' : ∀ k v, (opC o)[k]? = some v → x.cell b (oo + (j : Int).toNat * 5 + k) = some v := fun k v e => by rw [Int.toNat_natCast]; exact hc k v e
      have next : IntKind.i64.wrap ((j : Int) + 1) = ((j + 1 : Nat) : Int) := by rw [wid (by omega) (by omega)]; omega
      refine ⟨by omega, by show (j : Int) < (os2.length : Int); omega, b, oo, ea, _, hc' 0 _ rfl, _, hc' 1 _ rfl, _, hc' 2 _ rfl, _, hc' 3 _ rfl, _, hc' 4 _ rfl, split_dec (fun o4 => ?_) fun _ => ⟨40 - (j + 1), by omega, j + 1, next, by omega, rfl, B⟩⟩
      obtain ⟨S2, P2, R2, I2, eg, ep, st2⟩ := B
      refine step_spec I2.E I2.A I2.don h2 hn _ _ _ _ _ hom.1 hom.2 (fun _ => rfl) fun b' h' pb' S3 D3 P3 R3 E3 A3 st3 don3 tr epb => ?_
      obtain ⟨e0, e1, e2⟩ := tr.small o4
      subst e0
      have o4 : o.a < 4 := o4
      have epb := epb (by omega)
      subst epb
      exact ⟨_, rfl, 40 - (j + 1), by omega, j + 1, next, by omega, rfl, S3, P3, R3, I2.go E3 A3 st3 don3, e1.trans eg, e2.trans ep, st2.trans st3⟩
    · rintro x47 ⟨S2, P2, R2, I2, eg, ep, st2⟩
      obtain ⟨hl, r1, r2, r3⟩ := step_rest S2 x47
      have Bl := I2.A.blk.keep r3 I2.A.nz
      have hlen : P2.pts.length = P.pts.length + 1 := by rw [ep, List.length_append]; rfl
      refine ⟨hl, r1, zb, 0, rfl, _, Bl.cell' 1 rfl, back_spec I2.E _ (fun e => by omega) fun k q ek hq h53 S3 E3 st3 => ⟨_, rfl, r2 _ _ st3, split_eq (fun _ => ?_) fun e => absurd rfl e⟩⟩
      have ek : k = P.pts.length := by omega
      subst ek
      have hq2 : q = (P.now, P.d) := by
        rw [ep, List.getElem?_append_right (Nat.le_refl _), Nat.sub_self] at hq
        exact (Option.some.inj hq).symm
      subst hq2
      have A3 := I2.A.step st3
      refine ⟨zb, 0, rfl, _, Bl.cell' 1 rfl, back_spec E3 _ (fun _ => ⟨_, rfl, r2 _ _ st3, split_eq (fun _ => ?_) fun e => absurd rfl e⟩) fun k q ek hq => ?_⟩
      rotate_left
      · exfalso
        have e1 : (P2.back P.pts.length (P.now, P.d)).pts = P.pts := by show P2.pts.take _ = _; rw [ep, List.take_left]
        have : k = P.pts.length := by omega
        rw [e1, this, List.getElem?_eq_none (Nat.le_refl _)] at hq
        cases hq
      refine ⟨zb, 0, rfl, _, Bl.cell' 1 rfl, st_spec E3 fun h65 ua2 uc2 da2 dc2 s65 W2 fu2 fd2 => ⟨_, _, _, _, _, _, _, _, _, _, _, rfl, r2 _ _ (st3.trans (Step.sub s65)), ?_⟩⟩
      have stAll := (((PT.step (zb := zb) st40).trans st2).trans (PT.step st3)).trans (Step.sub s65)
      have nU : ∀ c, x11 c = none → ¬ PT S zb c := fun c hc hs => hs.elim (fun hs => I.E.in_heap hs hc) fun e => I.A.nh (e ▸ hc)
      refine same_spec W2 (W32.keep stAll.1 (fun c hc => nU c (fu c hc).1) fun c hc => nU c (fd c hc).1) (by omega) fun b hb => ⟨_, rfl, ?_⟩
      have eb : b = true := hb ⟨rfl, fun i _ _ => rfl, fun k _ => rfl, rfl⟩
      subst eb
      refine split_cond (fun _ => ?_) fun e => by cases e
      refine ⟨zb, 0, rfl, _, (A3.sub s65).blk.cell' 1 rfl, changed_spec (E3.sub s65) fun h84 ca2 cc2 NC2 => ⟨_, _, _, rfl, ?_⟩⟩
      have ec : (P2.back P.pts.length (P.now, P.d)).chg D n = P.chg D n := by
        have : P2.back P.pts.length (P.now, P.d) = ⟨P2.good, P.now, P.d, P2.pts.take P.pts.length⟩ := rfl
        rw [this, eg]; rfl
      have rc := NC.own.row.keep (stAll.trans (Step.sub NC2.sub)).1 fun c hc => nU c (s19.none (NC.new c hc))
      have hcl := chg_len (P := P2.back P.pts.length (P.now, P.d)) (D := D) (n := n)
      refine sameInts_spec NC2.own.row rc (by omega) fun b hb => ⟨_, rfl, ?_⟩
      have eb : b = true := hb ec
      subst eb
      refine split_cond (fun _ => live h84 ?_) fun e => by cases e
      exact stAll.1.sub (I.sub.trans s32) I.new |>.trans NC2.sub
end Go.Proofs.YtagglohkipioiaaGreat
