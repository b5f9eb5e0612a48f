/- PagerCounts over heaps. Conditions: the row of steps lies in memory, and each step's byte is one. -/
import Derived.Test.YtagglohkipioiaaGreatP20
namespace Go.Proofs.YtagglohkipioiaaGreat
open Go.Gx
set_option maxRecDepth 100000
set_option linter.unusedVariables false

structure Op5 where
  a : Int
  b : Int
  c : Int
  d : Int
  e : Int
def opC (o : Op5) : List Value := [.int .i64 o.a, .int .i64 o.b, .int .i64 o.c, .int .i64 o.d, .int .u8 o.e]
theorem opC_len (o : Op5) : (opC o).length = 5 := rfl
def Op5.ok (o : Op5) : Prop := 0 ≤ o.e ∧ o.e < 256
structure Inv (h0 h : Hp) (zb n jb db pb : Nat) (S : Nat → Prop) (D : Dk) (P : Pg) (R : Pr) : Prop where
  E : PgAt h pb jb db S n D P
  A : PairAt h zb S n (some ⟨jb, 0, none⟩) (some ⟨pb, 0, none⟩) R
  don : DOn D
  sub : Sub h0 h
  new : ∀ c, PT S zb c → h0 c = none
def InvE (h0 h : Hp) (zb n : Nat) : Prop := ∃ jb db pb S D P R, Inv h0 h zb n jb db pb S D P R
variable {h0 h : Hp} {pb jb db n zb : Nat} {S : Nat → Prop} {D : Dk} {P : Pg} {R : Pr} {K : Value → Hp → Prop}
theorem Inv.go {h' : Hp} {pb' : Nat} {S' : Nat → Prop} {D' : Dk} {P' : Pg} {R' : Pr} (I : Inv h0 h zb n jb db pb S D P R) (E : PgAt h' pb' jb db S' n D' P') (A : PairAt h' zb S' n (some ⟨jb, 0, none⟩) (some ⟨pb', 0, none⟩) R') (st : Step (PT S zb) h (PT S' zb) h') (hD : DOn D') :
    Inv h0 h' zb n jb db pb' S' D' P' R' := ⟨E, A, hD, st.1.sub I.sub I.new, fun c hc => (st.2 c hc).elim (I.new c) fun e => I.sub.none e⟩
theorem inv_step (I : InvE h0 h zb n) (h2 : 2 ≤ n) (hn : n ≤ 10) (o : Op5) (ok : o.ok) (hK : ∀ b h', InvE h0 h' zb n → K (.bool b) h') :
    CallsH Tryz.prog law14_pair_step.id #[.pointer (some ⟨zb, 0, none⟩), .agg #[.int .i64 o.a, .int .i64 o.b, .int .i64 o.c, .int .i64 o.d, .int .u8 o.e]] h K := by
  obtain ⟨jb, db, pb, S, D, P, R, i⟩ := I
  exact step_spec i.E i.A i.don h2 hn _ _ _ _ _ ok.1 ok.2 (fun _ => rfl) fun b h' pb' S' D' P' R' E' A' st hD' _ _ => hK b h' ⟨_, _, _, _, _, _, _, i.go E' A' st hD'⟩
theorem inv_begun (h1 : 2 ≤ n) (h2 : n ≤ 10) (hK : ∀ h' zb, InvE h h' zb n → K (.pointer (some ⟨zb, 0, none⟩)) h') : CallsH Tryz.prog law14_begun.id #[.int .i64 (n : Nat)] h K :=
  begun_spec h1 h2 fun h' zb pb jb db S R s E A f => hK h' zb ⟨_, _, _, _, _, _, _, ⟨E, A, ⟨rfl, rfl, rfl⟩, s, f⟩⟩
/-! ### how many are free -/
theorem freeN_alloc {i : Nat} (hu : P.now.u i = false) : ∀ j, (P.alloc i).freeN j + (if i < j then 1 else 0) = P.freeN j
  | 0 => rfl
  | j + 1 => by
    have ih := freeN_alloc hu j
    rw [freeN_step, freeN_step]
    have e : (P.alloc i).now.u j = if j = i then true else P.now.u j := rfl
    rw [e]
    by_cases h : j = i
    · subst h
      have e2 : (if j < j + 1 then 1 else 0 : Nat) = 1 := if_pos (by omega)
      have e3 : (if j < j then 1 else 0 : Nat) = 0 := if_neg (by omega)
      rw [e3] at ih
      rw [if_pos rfl, hu, e2]
      show (P.alloc j).freeN j + 0 + 1 = P.freeN j + 1
      omega
    · rw [if_neg h]
      generalize (if P.now.u j = true then 0 else 1 : Nat) = w
      by_cases h3 : i < j
      · have e2 : (if i < j + 1 then 1 else 0 : Nat) = 1 := if_pos (by omega)
        rw [if_pos h3] at ih; rw [e2]; omega
      · have e2 : (if i < j + 1 then 1 else 0 : Nat) = 0 := if_neg (by omega)
        rw [if_neg h3] at ih; rw [e2]; omega
theorem freeN_give {i : Nat} (hu : P.now.u i = true) : ∀ j, (P.give i).freeN j = P.freeN j + (if i < j then 1 else 0)
  | 0 => rfl
  | j + 1 => by
    have ih := freeN_give hu j
    rw [freeN_step, freeN_step]
    have e : (P.give i).now.u j = if j = i then false else P.now.u j := rfl
    rw [e]
    by_cases h : j = i
    · subst h
      have e2 : (if j < j + 1 then 1 else 0 : Nat) = 1 := if_pos (by omega)
      have e3 : (if j < j then 1 else 0 : Nat) = 0 := if_neg (by omega)
      rw [e3] at ih
      rw [if_pos rfl, hu, e2]
      show (P.give j).freeN j + 1 = P.freeN j + 0 + 1
      omega
    · rw [if_neg h]
      generalize (if P.now.u j = true then 0 else 1 : Nat) = w
      by_cases h3 : i < j
      · have e2 : (if i < j + 1 then 1 else 0 : Nat) = 1 := if_pos (by omega)
        rw [if_pos h3] at ih; rw [e2]; omega
      · have e2 : (if i < j + 1 then 1 else 0 : Nat) = 0 := if_neg (by omega)
        rw [if_neg h3] at ih; rw [e2]; omega
theorem freeN_zero : ∀ {j : Nat}, P.freeN j = 0 ↔ ∀ i, i < j → P.now.u i = true
  | 0 => ⟨fun _ i hi => by omega, fun _ => rfl⟩
  | j + 1 => by
    rw [freeN_step]
    constructor
    · intro h i hi
      by_cases e : i = j
      · subst e
        cases hu : P.now.u i with
        | true => rfl
        | false => rw [hu, if_neg (by simp)] at h; omega
      · exact freeN_zero.1 (by omega : P.freeN j = 0) i (by omega)
    · intro h
      rw [freeN_zero.2 fun i hi => h i (by omega), h j (by omega)]; rfl
/-- Of blocks that a step may touch, the others. -/
theorem step_rest (S : Nat → Prop) (x : Hp) : ∃ hl, Sub hl x ∧ (∀ S' x', Step S x S' x' → Sub hl x') ∧ Keep S x hl := by
  refine ⟨fun c => @ite _ (S c) (Classical.propDecidable _) none (x c), fun c o e => ?_, fun S' x' st c o e => ?_, fun c o e hn => ?_⟩
  · by_cases hs : S c
    · simp only [hs, if_true] at e; cases e
    · simp only [hs, if_false] at e; exact e
  · by_cases hs : S c
    · simp only [hs, if_true] at e; cases e
    · simp only [hs, if_false] at e; exact st.1 c o e hs
  · simp only [hn, if_false]; exact e
/-- Pages that were got one behind the other. -/
structure Got (n : Nat) (P : Pg) (L : List Nat) : Prop where
  nd : L.Nodup
  mem : ∀ p ∈ L, 1 ≤ p ∧ p < n ∧ P.now.u p = true ∧ ∀ t, t < 4 → P.now.r t ≠ p
structure GotAt (h0 x : Hp) (zb n jb db pb : Nat) (S : Nat → Prop) (D : Dk) (P : Pg) (R : Pr) (a : Option Addr) (c : Nat) (L : List Nat) : Prop where
  E : PgAt x pb jb db S n D P
  B : Blk x zb 41 (prC (some ⟨jb, 0, none⟩) (some ⟨pb, 0, none⟩) R)
  nz : ¬ S zb
  sub : Sub h0 x
  new : ∀ c, PT S zb c → h0 c = none
  O : OwnR keyC 1 x 3 a c L
  F : ∀ b, blkOf a b → h0 b = none ∧ ¬ PT S zb b
theorem GotAt.go {x x' : Hp} {a : Option Addr} {c : Nat} {L : List Nat} {P' : Pg} (G : GotAt h0 x zb n jb db pb S D P R a c L) (E : PgAt x' pb jb db S n D P') (st : Step S x S x') : GotAt h0 x' zb n jb db pb S D P' R a c L :=
  ⟨E, G.B.keep st.1 G.nz, G.nz, st.1.sub G.sub fun c hc => G.new c (.inl hc), G.new, G.O.keep st.1 fun b hb hs => (G.F b hb).2 (.inl hs), G.F⟩
theorem GotAt.sub' {x x' : Hp} {a : Option Addr} {c : Nat} {L : List Nat} (G : GotAt h0 x zb n jb db pb S D P R a c L) (s : Sub x x') : GotAt h0 x' zb n jb db pb S D P R a c L := G.go (G.E.sub s) (Step.sub s)
set_option maxHeartbeats 4000000 in
theorem counts_core (pages : Int) (a : Option Addr) (c : Nat) (os : List Op5) (ho : RowAt opC 5 h a os) (hok : ∀ o ∈ os, o.ok) :
    CallsH Tryz.prog law14_PagerCounts.id #[.int .i64 pages, .slice a os.length c] h fun v h' => v = .bool true ∧ Sub h h' := by
  apply law14_PagerCounts.calls
  unfold law14_PagerCounts.W
  have live : ∀ x, Sub h x → CallsH Tryz.prog law14_lives.id #[] x fun v h' => ∃ b : Bool, v = .bool b ∧ (Value.bool b = .bool true ∧ Sub h h') := fun x s => lives_spec fun h' s' => ⟨_, rfl, rfl, s.trans s'⟩
  by_cases hp : pages < 2 ∨ pages > 10
  · refine begun_bad pages hp ⟨_, rfl, split_cond (fun _ => split_dec (fun _ => live h (Sub.refl h)) fun e => split_dec (fun _ => live h (Sub.refl h)) fun e2 => by omega) fun e => by cases e⟩
  obtain ⟨n, rfl⟩ : ∃ n : Nat, pages = (n : Int) := ⟨pages.toNat, by omega⟩
  have h2 : 2 ≤ n := by omega
  have hn : n ≤ 10 := by omega
  refine inv_begun h2 hn fun hb0 zb I0 => ⟨_, rfl, split_cond (fun e => by cases e) fun _ => ?_⟩
  refine ⟨fun x => InvE h x zb n, ?_, fun i x m => ∃ j : Nat, i = (j : Int) ∧ j ≤ 40 ∧ m = 40 - j ∧ InvE h x zb n, ⟨_, 0, rfl, by decide, rfl, I0⟩, ?_⟩
  rotate_left
  · rintro i x m ⟨j, rfl, hj, rfl, I⟩
    refine split_dec (fun g => split_dec (fun g2 => ?_) fun _ => I) fun _ => I
    have g : j < os.length := by have : (j : Int) < (os.length : Int) := g; omega
    have g2 : j < 40 := by have : (j : Int) < 40 := g2; omega
    have hq : os[j]? = some os[j] := List.getElem?_eq_getElem g
    have hom := hok os[j] (List.getElem_mem g)
    generalize os[j] = o at hq hom
    have sx : Sub h x := by obtain ⟨jb, db, pb, S, D, P, R, i⟩ := I; exact i.sub
    obtain ⟨b, oo, ea, hc⟩ := (ho.sub sx).get opC_len (by decide) hq
    have hc' : ∀ k v, (opC o)[k]? = some v → x.cell b (oo + (j : Int).toNat * 5 + k) = some v := fun k v e => by rw [Int.toNat_natCast]; exact hc k v e
    refine ⟨by omega, by show (j : Int) < (os.length : Int); omega, b, oo, ea, _, hc' 0 _ rfl, _, hc' 1 _ rfl, _, hc' 2 _ rfl, _, hc' 3 _ rfl, _, hc' 4 _ rfl, ?_⟩
    exact inv_step I h2 hn o hom fun b' h' I' => ⟨_, rfl, 40 - (j + 1), by omega, j + 1, by rw [wid (by omega) (by omega)]; omega, by omega, rfl, I'⟩
  rintro x11 ⟨jb, db, pb, S, D, P, R, I⟩
  refine ⟨zb, 0, rfl, _, I.A.blk.cell' 1 rfl, free_spec I.E ⟨_, rfl, ?_⟩⟩
  have hf0 := freeN_le P n
  generalize hf : P.freeN n = f0 at hf0
  refine ⟨fun a l c i x m => ∃ (j : Nat) (P' : Pg) (L : List Nat), i = (j : Int) ∧ j ≤ f0 ∧ m = f0 - j ∧ l = L.length ∧ L.length = j ∧ P'.freeN n + j = f0 ∧ GotAt h x zb n jb db pb S D P' R a c L ∧ Got n P' L ∧ (∀ p ∈ L, ∀ q, 1 ≤ q → q ≤ p → P'.now.u q = true),
    ⟨_, 0, P, [], rfl, Nat.zero_le _, rfl, rfl, rfl, hf, ⟨I.E, I.A.blk, I.A.nz, I.sub, I.new, OwnR.nil _ _, (fun b hb => by obtain ⟨o, s, e⟩ := hb; cases e)⟩, ⟨List.nodup_nil, fun p hp => by cases hp⟩, fun p hp => by cases hp⟩, ?_⟩
  rintro a20 l c20 i x m ⟨j, P1, L, rfl, hj, rfl, rfl, hL, hfr, G, ok, low⟩
  refine split_dec (fun g => ?_) fun g => ?_
  · have g : j < f0 := by have : (j : Int) < (f0 : Int) := g; omega
    refine ⟨zb, 0, rfl, _, G.B.cell' 1 rfl, ?_⟩
    refine alloc_spec G.E (fun hall => ?_) fun i i1 i2 iu iall h30 E2 st2 => ⟨_, _, rfl, ?_⟩
    · exfalso
      have : P1.freeN n = 0 := freeN_zero.2 fun q hq => by
        by_cases e : q = 0
        · rw [e]; exact G.E.ok.now.zero
        · exact hall q (by omega) hq
      omega
    have G2 := G.go E2 st2
    have w0 : (P1.alloc i).why n (i : Nat) = 0 := why_i i1 i2 (upU_same _ _ _)
    refine ⟨zb, 0, rfl, _, G2.B.cell' 1 rfl, pgread_spec E2 w0 fun h37 s37 => ⟨_, _, rfl, split_ne (fun e => absurd rfl e) fun _ => split_ne (fun e => absurd rfl e) fun _ => ⟨by decide, by decide, by decide, by decide, fun k40 hk40 => ?_⟩⟩⟩
    have s40 := Sub.upd hk40 (.cells (repV 1024 [.int .u8 0]).toArray 5 (0, 0))
    refine ⟨zeroB 1024, zero_slice (Hp.upd_same _ _ _), ?_⟩
    have ep : (P1.alloc i).page D n i = zeroB 1024 := by
      unfold Pg.page
      show (dget (dset P1.d i (zeroB 1024)) i).getD _ = _
      rw [dget_set, if_pos rfl]; rfl
    rw [ep, beqS_val, decide_eq_true rfl]
    have G4 := (G2.sub' s37).sub' s40
    generalize h37.upd k40 (.cells (repV 1024 [.int .u8 0]).toArray 5 (0, 0)) = z at G4
    have ltn : ∀ p ∈ L, p < i := fun p hp => by
      by_cases e : p < i
      · exact e
      · have := low p hp i i1 (by omega)
        rw [iu] at this; cases this
    have Gt : Got n (P1.alloc i) (L ++ [i]) := by
      refine ⟨?_, fun p hp => ?_⟩
      · rw [List.nodup_append]
        refine ⟨ok.nd, by simp, fun a ha b hb => ?_⟩
        rw [List.mem_singleton.1 hb]; exact Nat.ne_of_lt (ltn a ha)
      · rcases List.mem_append.1 hp with hp | hp
        · obtain ⟨q1, q2, q3, q4⟩ := ok.mem p hp
          exact ⟨q1, q2, by show upU _ _ _ _ = true; rw [upU_ne _ _ (Nat.ne_of_lt (ltn p hp))]; exact q3, q4⟩
        · rw [List.mem_singleton.1 hp]
          refine ⟨i1, i2, upU_same _ _ _, fun t ht e => ?_⟩
          have e : P1.now.r t = i := e
          have := (G.E.ok.now.roots t ht).2 (by omega)
          rw [e, iu] at this; cases this
    have lowt : ∀ p ∈ L ++ [i], ∀ q, 1 ≤ q → q ≤ p → (P1.alloc i).now.u q = true := fun p hp q hq hqp => by
      show upU _ _ _ _ = true
      by_cases e : q = i
      · rw [e, upU_same]
      · rw [upU_ne _ _ e]
        rcases List.mem_append.1 hp with hp | hp
        · exact low p hp q hq hqp
        · rw [List.mem_singleton.1 hp] at hqp
          exact iall q hq (by omega)
    have us : (P1.alloc i).used n (i : Nat) = true := by
      unfold Pg.used
      rw [decide_eq_true (show (0 : Int) ≤ (i : Nat) by omega), decide_eq_true (show ((i : Nat) : Int) < (n : Nat) by omega), Int.toNat_natCast]
      exact upU_same _ _ _
    have fr2 : (P1.alloc i).freeN n + (j + 1) = f0 := by
      have := freeN_alloc iu n
      rw [if_pos i2] at this; omega
    have app : ∀ k51, z k51 = none → ∃ xs, SliceAt (z.upd k51 (.cells #[.int .i64 (i : Nat)] 3 (0, 0))) (some ⟨k51, 0, none⟩) 1 xs ∧ ∃ J : Option Addr → Nat → Hp → Prop, (∀ a' c' y, J a' c' y → GotAt h y zb n jb db pb S D (P1.alloc i) R a' c' (L ++ [i])) ∧ appendC Tryz.prog 3 a20 L.length c20 (z.upd k51 (.cells #[.int .i64 (i : Nat)] 3 (0, 0))) xs 1 J := fun k51 hk51 => by
      have s51 := Sub.upd hk51 (.cells (keyC i).toArray 3 (0, 0))
      have G5 := G4.sub' s51
      refine ⟨_, (Blk.new z k51 3 (keyC i)).slice rfl, fun a' c' y => GotAt h y zb n jb db pb S D (P1.alloc i) R a' c' (L ++ [i]), fun a' c' y H => H, ?_⟩
      refine append_ownR appTInt keyC_len keyC_plain (M := [i]) G5.O rfl rfl (rowC_one _).symm (by show (2 * (L.length + 1) + 768) * 8 ≤ _; omega) fun a' c' y o1 o2 o3 => ?_
      have nS : ∀ b, blkOf a20 b → ¬ S b := fun b hb hs => (G5.F b hb).2 (.inl hs)
      have nz : ∀ b, blkOf a20 b → b ≠ zb := fun b hb e => (G5.F b hb).2 (.inr e)
      have nb : ∀ c, c ∈ ([] : List Nat) → True := fun _ _ => trivial
      refine ⟨G5.E.out o2 fun c hc hb => nS c hb hc, G5.B.keep o2 fun hb => nz _ hb rfl, G5.nz, o2.sub G5.sub fun b hb => (G5.F b hb).1, G5.new, o1, fun b hb => ?_⟩
      rcases o3 b hb with h' | h'
      · exact G5.F b h'
      · exact ⟨G5.sub.none h', fun hs => hs.elim (fun hs => G5.E.in_heap hs h') fun e => by
          have hB : _ = some _ := G5.B
          rw [← e] at hB
          cases hB.symm.trans h'⟩
    have nxt : IntKind.i64.wrap ((j : Int) + 1) = ((j + 1 : Nat) : Int) := by rw [wid (by omega) (by omega)]; omega
    have el : L.length + 1 = (L ++ [i]).length := by rw [List.length_append]; rfl
    have fin : ∀ y a' c', GotAt h y zb n jb db pb S D (P1.alloc i) R a' c' (L ++ [i]) → ∃ k, k < f0 - j ∧ ∃ (j' : Nat) (P' : Pg) (L' : List Nat), IntKind.i64.wrap ((j : Int) + 1) = (j' : Int) ∧ j' ≤ f0 ∧ k = f0 - j' ∧ L.length + 1 = L'.length ∧ L'.length = j' ∧ P'.freeN n + j' = f0 ∧ GotAt h y zb n jb db pb S D P' R a' c' L' ∧ Got n P' L' ∧ (∀ p ∈ L', ∀ q, 1 ≤ q → q ≤ p → P'.now.u q = true) := fun y a' c' H =>
      ⟨f0 - (j + 1), by omega, j + 1, P1.alloc i, L ++ [i], nxt, by omega, rfl, el, by rw [List.length_append, hL]; rfl, fr2, H, Gt, lowt⟩
    refine split_cond (fun e => by cases e) fun _ => split_dec (fun gj => ?_) fun gj => ?_
    · have gj : 0 < j := by have : (j : Int) > 0 := gj; omega
      have ej : IntKind.i64.wrap ((j : Int) - 1) = ((j - 1 : Nat) : Int) := by rw [wid (by omega) (by omega)]; omega
      rw [ej]
      have hq : L[j - 1]? = some L[j - 1] := List.getElem?_eq_getElem (by omega)
      have hm := List.getElem_mem (show j - 1 < L.length by omega)
      generalize L[j - 1] = p at hq hm
      obtain ⟨b, o, ea, hc⟩ := G4.O.row.get keyC_len (by decide) hq
      have hlt := ltn p hm
      refine ⟨by omega, by show ((j - 1 : Nat) : Int) < (L.length : Int); omega, b, o, ea, _, by rw [Int.toNat_natCast]; exact hc 0 _ rfl, split_dec (fun e => by
        exfalso
        have : (p : Int) ≥ (i : Int) := e
        omega) fun _ => ⟨zb, 0, rfl, _, G4.B.cell' 1 rfl, used_spec G4.E _ ⟨_, rfl, ?_⟩⟩⟩
      rw [us]
      refine split_cond (fun e => by cases e) fun _ => fun k51 hk51 => ?_
      obtain ⟨xs, hxs, J, hJ, hA⟩ := app k51 hk51
      exact ⟨xs, hxs, J, fun a' c' y hy => fin y a' c' (hJ a' c' y hy), hA⟩
    · refine ⟨zb, 0, rfl, _, G4.B.cell' 1 rfl, used_spec G4.E _ ⟨_, rfl, ?_⟩⟩
      rw [us]
      refine split_cond (fun e => by cases e) fun _ => fun k51 hk51 => ?_
      obtain ⟨xs, hxs, J, hJ, hA⟩ := app k51 hk51
      exact ⟨xs, hxs, J, fun a' c' y hy => fin y a' c' (hJ a' c' y hy), hA⟩
  have g : j = f0 := by
    have : ¬ (j : Int) < (f0 : Int) := g
    omega
  subst g
  have hz : P1.freeN n = 0 := by omega
  refine ⟨zb, 0, rfl, _, G.B.cell' 1 rfl, alloc_spec G.E (fun _ => ⟨_, _, rfl, split_ne (fun e => absurd rfl e) fun _ => ?_⟩) fun i i1 i2 iu iall h30 E2 st2 => ?_⟩
  rotate_left
  · exfalso
    have := freeN_zero.1 hz i i2
    rw [iu] at this; cases this
  refine ⟨zb, 0, rfl, _, G.B.cell' 1 rfl, free_spec G.E ⟨_, rfl, split_ne (fun e => absurd (by rw [hz]; rfl) e) fun _ => ?_⟩⟩
  refine ⟨fun i x m => ∃ (k : Nat) (P' : Pg), i = (k : Int) ∧ k ≤ L.length ∧ m = L.length - k ∧ P'.freeN n = k ∧ GotAt h x zb n jb db pb S D P' R a20 c20 L ∧ Got n P' (L.drop k), ⟨_, 0, P1, rfl, Nat.zero_le _, rfl, hz, G, ok⟩, ?_⟩
  clear G ok low
  rintro i x m ⟨k, P2, rfl, hk, rfl, hfk, G, ok⟩
  refine split_dec (fun g => ?_) fun g => ?_
  · have g : k < L.length := by have : (k : Int) < (L.length : Int) := g; omega
    have hq : L[k]? = some L[k] := List.getElem?_eq_getElem g
    have hdrop : L.drop k = L[k] :: L.drop (k + 1) := List.drop_eq_getElem_cons g
    generalize L[k] = p at hq hdrop
    rw [hdrop] at ok
    obtain ⟨p1, p2, p3, p4⟩ := ok.mem p List.mem_cons_self
    have hnd := List.nodup_cons.1 ok.nd
    have w0 : P2.why n (p : Nat) = 0 := why_i p1 p2 p3
    obtain ⟨hl, r1, r2, r3⟩ := step_rest S x
    have Bl := G.B.keep r3 G.nz
    obtain ⟨b, o, ea, hc⟩ := (G.O.keep r3 fun b hb hs => (G.F b hb).2 (.inl hs)).row.get keyC_len (by decide) hq
    have idx : (k : Int).toNat * 1 = k * 1 := by rw [Int.toNat_natCast]
    have lt : (k : Int) < (L.length : Int) := by omega
    refine ⟨hl, r1, zb, 0, rfl, _, Bl.cell' 1 rfl, by omega, lt, b, o, ea, _, by rw [idx]; exact hc 0 _ rfl, ?_⟩
    refine give_spec G.E _ (fun e => absurd w0 e) (fun t et _ ⟨r, hr, e⟩ => absurd (by omega) (p4 r hr)) fun t et _ _ h97 E2 st2 => ⟨_, rfl, r2 _ _ st2, split_ne (fun e => absurd rfl e) fun _ => ?_⟩
    have : t = p := by omega
    subst this
    have w6 : (P2.give t).why n (t : Nat) = 6 := by
      unfold Pg.why
      rw [if_neg (by omega), Int.toNat_natCast]
      show (if upU P2.now.u t false t = true then 0 else 6) = (6 : Int)
      rw [upU_same]; rfl
    refine ⟨zb, 0, rfl, _, Bl.cell' 1 rfl, by omega, lt, b, o, ea, _, by rw [idx]; exact hc 0 _ rfl, ?_⟩
    refine give_spec E2 _ (fun _ => ⟨_, rfl, split_ne (fun e => absurd w6 e) fun _ => ?_⟩) (fun _ _ e _ => by rw [w6] at e; cases e) fun _ _ e _ => by rw [w6] at e; cases e
    refine ⟨L.length - (k + 1), by omega, k + 1, P2.give t, by rw [wid (by omega) (by omega)]; omega, by omega, rfl, ?_, G.go E2 st2, ⟨hnd.2, fun q hq' => ?_⟩⟩
    · rw [freeN_give p3 n, if_pos p2, hfk]
    · obtain ⟨q1, q2, q3, q4⟩ := ok.mem q (List.mem_cons_of_mem _ hq')
      refine ⟨q1, q2, ?_, q4⟩
      show upU P2.now.u t false q = true
      have hne : q ≠ t := fun e => hnd.1 (by rw [← e]; exact hq')
      rw [upU_ne _ _ hne]; exact q3
  · have : k = L.length := by
      have : ¬ (k : Int) < (L.length : Int) := g
      omega
    subst this
    refine ⟨zb, 0, rfl, _, G.B.cell' 1 rfl, free_spec G.E ⟨_, rfl, split_eq (fun _ => live x G.sub) fun e => absurd (by rw [hfk, hL]) e⟩⟩
end Go.Proofs.YtagglohkipioiaaGreat
