/- PagerCounts over heaps. Conditions: the row of steps lies in memory, and each step's byte is one. Whether two states are the same; PagerBack over heaps. Conditions: the rows of steps lie in memory, and each step's byte is one. -/
import Derived.Test.YtagglohkipioiaaGreatP20
namespace Go.Proofs.YtagglohkipioiaaGreat
open Go.Gx
set_option maxRecDepth 100000
set_option linter.unusedVariables false

structure Op5 where
  a : Int
  b : Int
  c : Int
  d : Int
  e : Int
def opC (o : Op5) : List Value := [.int .i64 o.a, .int .i64 o.b, .int .i64 o.c, .int .i64 o.d, .int .u8 o.e]
theorem opC_len (o : Op5) : (opC o).length = 5 := rfl
def Op5.ok (o : Op5) : Prop := 0 ≤ o.e ∧ o.e < 256
structure Inv (h0 h : Hp) (zb n jb db pb : Nat) (S : Nat → Prop) (D : Dk) (P : Pg) (R : Pr) : Prop where
  E : PgAt h pb jb db S n D P
  A : PairAt h zb S n (some ⟨jb, 0, none⟩) (some ⟨pb, 0, none⟩) R
  don : DOn D
  sub : Sub h0 h
  new : ∀ c, PT S zb c → h0 c = none
def InvE (h0 h : Hp) (zb n : Nat) : Prop := ∃ jb db pb S D P R, Inv h0 h zb n jb db pb S D P R
variable {h0 h : Hp} {pb jb db n zb : Nat} {S : Nat → Prop} {D : Dk} {P : Pg} {R : Pr} {K : Value → Hp → Prop}
theorem Inv.go {h' : Hp} {pb' : Nat} {S' : Nat → Prop} {D' : Dk} {P' : Pg} {R' : Pr} (I : Inv h0 h zb n jb db pb S D P R) (E : PgAt h' pb' jb db S' n D' P') (A : PairAt h' zb S' n (some ⟨jb, 0, none⟩) (some ⟨pb', 0, none⟩) R') (st : Step (PT S zb) h (PT S' zb) h') (hD : DOn D') :
    Inv h0 h' zb n jb db pb' S' D' P' R' := ⟨E, A, hD, st.1.sub I.sub I.new, fun c hc => (st.2 c hc).elim (I.new c) fun e => I.sub.none e⟩
theorem inv_step (I : InvE h0 h zb n) (h2 : 2 ≤ n) (hn : n ≤ 10) (o : Op5) (ok : o.ok) (hK : ∀ b h', InvE h0 h' zb n → K (.bool b) h') :
    CallsH Tryz.prog law14_pair_step.id #[.pointer (some ⟨zb, 0, none⟩), .agg #[.int .i64 o.a, .int .i64 o.b, .int .i64 o.c, .int .i64 o.d, .int .u8 o.e]] h K := by
  obtain ⟨jb, db, pb, S, D, P, R, i⟩ := I
  exact step_spec i.E i.A i.don h2 hn _ _ _ _ _ ok.1 ok.2 (fun _ => rfl) fun b h' pb' S' D' P' R' E' A' st hD' _ _ => hK b h' ⟨_, _, _, _, _, _, _, i.go E' A' st hD'⟩
theorem inv_begun (h1 : 2 ≤ n) (h2 : n ≤ 10) (hK : ∀ h' zb, InvE h h' zb n → K (.pointer (some ⟨zb, 0, none⟩)) h') : CallsH Tryz.prog law14_begun.id #[.int .i64 (n : Nat)] h K :=
  begun_spec h1 h2 fun h' zb pb jb db S R s E A f => hK h' zb ⟨_, _, _, _, _, _, _, ⟨E, A, ⟨rfl, rfl, rfl⟩, s, f⟩⟩
/-! ### how many are free -/
theorem freeN_alloc {i : Nat} (hu : P.now.u i = false) : ∀ j, (P.alloc i).freeN j + (if i < j then 1 else 0) = P.freeN j
  | 0 => rfl
  | j + 1 => by
    have ih := freeN_alloc hu j
    rw [freeN_step, freeN_step]
    have e : (P.alloc i).now.u j = if j = i then true else P.now.u j := rfl
    rw [e]
    by_cases h : j = i
    · subst h
      have e2 : (if j < j + 1 then 1 else 0 : Nat) = 1 := if_pos (by omega)
      have e3 : (if j < j then 1 else 0 : Nat) = 0 := if_neg (by omega)
      rw [e3] at ih
      rw [if_pos rfl, hu, e2]
      show (P.alloc j).freeN j + 0 + 1 = P.freeN j + 1
      omega
    · rw [if_neg h]
      generalize (if P.now.u j = true then 0 else 1 : Nat) = w
      by_cases h3 : i < j
      · have e2 : (if i < j + 1 then 1 else 0 : Nat) = 1 := if_pos (by omega)
        rw [if_pos h3] at ih; rw [e2]; omega
      · have e2 : (if i < j + 1 then 1 else 0 : Nat) = 0 := if_neg (by omega)
        rw [if_neg h3] at ih; rw [e2]; omega
theorem freeN_give {i : Nat} (hu : P.now.u i = true) : ∀ j, (P.give i).freeN j = P.freeN j + (if i < j then 1 else 0)
  | 0 => rfl
  | j + 1 => by
    have ih := freeN_give hu j
    rw [freeN_step, freeN_step]
    have e : (P.give i).now.u j = if j = i then false else P.now.u j := rfl
    rw [e]
    by_cases h : j = i
    · subst h
      have e2 : (if j < j + 1 then 1 else 0 : Nat) = 1 := if_pos (by omega)
      have e3 : (if j < j then 1 else 0 : Nat) = 0 := if_neg (by omega)
      rw [e3] at ih
      rw [if_pos rfl, hu, e2]
      show (P.give j).freeN j + 1 = P.freeN j + 0 + 1
      omega
    · rw [if_neg h]
      generalize (if P.now.u j = true then 0 else 1 : Nat) = w
      by_cases h3 : i < j
      · have e2 : (if i < j + 1 then 1 else 0 : Nat) = 1 := if_pos (by omega)
        rw [if_pos h3] at ih; rw [e2]; omega
      · have e2 : (if i < j + 1 then 1 else 0 : Nat) = 0 := if_neg (by omega)
        rw [if_neg h3] at ih; rw [e2]; omega
theorem freeN_zero : ∀ {j : Nat}, P.freeN j = 0 ↔ ∀ i, i < j → P.now.u i = true
  | 0 => ⟨fun _ i hi => by omega, fun _ => rfl⟩
  | j + 1 => by
    rw [freeN_step]
    constructor
    · intro h i hi
      by_cases e : i = j
      · subst e
        cases hu : P.now.u i with
        | true => rfl
        | false => rw [hu, if_neg (by simp)] at h; omega
      · exact freeN_zero.1 (by omega : P.freeN j = 0) i (by omega)
    · intro h
      rw [freeN_zero.2 fun i hi => h i (by omega), h j (by omega)]; rfl
/-- Of blocks that a step may touch, the others. -/
theorem step_rest (S : Nat → Prop) (x : Hp) : ∃ hl, Sub hl x ∧ (∀ S' x', Step S x S' x' → Sub hl x') ∧ Keep S x hl := by
  refine ⟨fun c => @ite _ (S c) (Classical.propDecidable _) none (x c), fun c o e => ?_, fun S' x' st c o e => ?_, fun c o e hn => ?_⟩
  · by_cases hs : S c
    · simp only [hs, if_true] at e; cases e
    · simp only [hs, if_false] at e; exact e
  · by_cases hs : S c
    · simp only [hs, if_true] at e; cases e
    · simp only [hs, if_false] at e; exact st.1 c o e hs
  · simp only [hn, if_false]; exact e
/-- Pages that were got one behind the other. -/
structure Got (n : Nat) (P : Pg) (L : List Nat) : Prop where
  nd : L.Nodup
  mem : ∀ p ∈ L, 1 ≤ p ∧ p < n ∧ P.now.u p = true ∧ ∀ t, t < 4 → P.now.r t ≠ p
structure GotAt (h0 x : Hp) (zb n jb db pb : Nat) (S : Nat → Prop) (D : Dk) (P : Pg) (R : Pr) (a : Option Addr) (c : Nat) (L : List Nat) : Prop where
  E : PgAt x pb jb db S n D P
  B : Blk x zb 41 (prC (some ⟨jb, 0, none⟩) (some ⟨pb, 0, none⟩) R)
  nz : ¬ S zb
  sub : Sub h0 x
  new : ∀ c, PT S zb c → h0 c = none
  O : OwnR keyC 1 x 3 a c L
  F : ∀ b, blkOf a b → h0 b = none ∧ ¬ PT S zb b
theorem GotAt.go {x x' : Hp} {a : Option Addr} {c : Nat} {L : List Nat} {P' : Pg} (G : GotAt h0 x zb n jb db pb S D P R a c L) (E : PgAt x' pb jb db S n D P') (st : Step S x S x') : GotAt h0 x' zb n jb db pb S D P' R a c L :=
  ⟨E, G.B.keep st.1 G.nz, G.nz, st.1.sub G.sub fun c hc => G.new c (.inl hc), G.new, G.O.keep st.1 fun b hb hs => (G.F b hb).2 (.inl hs), G.F⟩
theorem GotAt.sub' {x x' : Hp} {a : Option Addr} {c : Nat} {L : List Nat} (G : GotAt h0 x zb n jb db pb S D P R a c L) (s : Sub x x') : GotAt h0 x' zb n jb db pb S D P R a c L := G.go (G.E.sub s) (Step.sub s)
set_option maxHeartbeats 4000000 in
theorem counts_core (pages : Int) (a : Option Addr) (c : Nat) (os : List Op5) (ho : RowAt opC 5 h a os) (hok : ∀ o ∈ os, o.ok) :
    CallsH Tryz.prog law14_PagerCounts.id #[.int .i64 pages, .slice a os.length c] h fun v h' => v = .bool true ∧ Sub h h' := by
  apply law14_PagerCounts.calls
  unfold law14_PagerCounts.W
  have live : ∀ x, Sub h x → CallsH Tryz.prog law14_lives.id #[] x fun v h' => ∃ b : Bool, v = .bool b ∧ (Value.bool b = .bool true ∧ Sub h h') := fun x s => lives_spec fun h' s' => ⟨_, rfl, rfl, s.trans s'⟩
  by_cases hp : pages < 2 ∨ pages > 10
  · refine begun_bad pages hp ⟨_, rfl, split_cond (fun _ => split_dec (fun _ => live h (Sub.refl h)) fun e => split_dec (fun _ => live h (Sub.refl h)) fun e2 => by omega) fun e => by cases e⟩
  obtain ⟨n, rfl⟩ : ∃ n : Nat, pages = (n : Int) := ⟨pages.toNat, by omega⟩
  have h2 : 2 ≤ n := by omega
  have hn : n ≤ 10 := by omega
  refine inv_begun h2 hn fun hb0 zb I0 => ⟨_, rfl, split_cond (fun e => by cases e) fun _ => ?_⟩
  refine ⟨fun x => InvE h x zb n, ?_, fun i x m => ∃ j : Nat, i = (j : Int) ∧ j ≤ 40 ∧ m = 40 - j ∧ InvE h x zb n, ⟨_, 0, rfl, by decide, rfl, I0⟩, ?_⟩
  rotate_left
  · rintro i x m ⟨j, rfl, hj, rfl, I⟩
    refine split_dec (fun g => split_dec (fun g2 => ?_) fun _ => I) fun _ => I
    have g : j < os.length := by have : (j : Int) < (os.length : Int) := g; omega
    have g2 : j < 40 := by have : (j : Int) < 40 := g2; omega
    have hq : os[j]? = some os[j] := List.getElem?_eq_getElem g
    have hom := hok os[j] (List.getElem_mem g)
    generalize os[j] = o at hq hom
    have sx : Sub h x := by obtain ⟨jb, db, pb, S, D, P, R, i⟩ := I; exact i.sub
    obtain ⟨b, oo, ea, hc⟩ := (ho.sub sx).get opC_len (by decide) hq
    have hc' : ∀ k v, (opC o)[k]? = some v → x.cell b (oo + (j : Int).toNat * 5 + k) = some v := fun k v e => by rw [Int.toNat_natCast]; exact hc k v e
    refine ⟨by omega, by show (j : Int) < (os.length : Int); omega, b, oo, ea, _, hc' 0 _ rfl, _, hc' 1 _ rfl, _, hc' 2 _ rfl, _, hc' 3 _ rfl, _, hc' 4 _ rfl, ?_⟩
    exact inv_step I h2 hn o hom fun b' h' I' => ⟨_, rfl, 40 - (j + 1), by omega, j + 1, by rw [wid (by omega) (by omega)]; omega, by omega, rfl, I'⟩
  rintro x11 ⟨jb, db, pb, S, D, P, R, I⟩
  refine ⟨zb, 0, rfl, _, I.A.blk.cell' 1 rfl, free_spec I.E ⟨_, rfl, ?_⟩⟩
  have hf0 := freeN_le P n
  generalize hf : P.freeN n = f0 at hf0
  refine ⟨fun a l c i x m => ∃ (j : Nat) (P' : Pg) (L : List Nat), i = (j : Int) ∧ j ≤ f0 ∧ m = f0 - j ∧ l = L.length ∧ L.length = j ∧ P'.freeN n + j = f0 ∧ GotAt h x zb n jb db pb S D P' R a c L ∧ Got n P' L ∧ (∀ p ∈ L, ∀ q, 1 ≤ q → q ≤ p → P'.now.u q = true),
    ⟨_, 0, P, [], rfl, Nat.zero_le _, rfl, rfl, rfl, hf, ⟨I.E, I.A.blk, I.A.nz, I.sub, I.new, OwnR.nil _ _, (fun b hb => by obtain ⟨o, s, e⟩ := hb; cases e)⟩, ⟨List.nodup_nil, fun p hp => by cases hp⟩, fun p hp => by cases hp⟩, ?_⟩
  rintro a20 l c20 i x m ⟨j, P1, L, rfl, hj, rfl, rfl, hL, hfr, G, ok, low⟩
  refine split_dec (fun g => ?_) fun g => ?_
  · have g : j < f0 := by have : (j : Int) < (f0 : Int) := g; omega
    refine ⟨zb, 0, rfl, _, G.B.cell' 1 rfl, ?_⟩
    refine alloc_spec G.E (fun hall => ?_) fun i i1 i2 iu iall h30 E2 st2 => ⟨_, _, rfl, ?_⟩
    · exfalso
      have : P1.freeN n = 0 := freeN_zero.2 fun q hq => by
        by_cases e : q = 0
        · rw [e]; exact G.E.ok.now.zero
        · exact hall q (by omega) hq
      omega
    have G2 := G.go E2 st2
    have w0 : (P1.alloc i).why n (i : Nat) = 0 := why_i i1 i2 (upU_same _ _ _)
    refine ⟨zb, 0, rfl, _, G2.B.cell' 1 rfl, pgread_spec E2 w0 fun h37 s37 => ⟨_, _, rfl, split_ne (fun e => absurd rfl e) fun _ => split_ne (fun e => absurd rfl e) fun _ => ⟨by decide, by decide, by decide, by decide, fun k40 hk40 => ?_⟩⟩⟩
    have s40 := Sub.upd hk40 (.cells (repV 1024 [.int .u8 0]).toArray 5 (0, 0))
    refine ⟨zeroB 1024, zero_slice (Hp.upd_same _ _ _), ?_⟩
    have ep : (P1.alloc i).page D n i = zeroB 1024 := by
      unfold Pg.page
      show (dget (dset P1.d i (zeroB 1024)) i).getD _ = _
      rw [dget_set, if_pos rfl]; rfl
    rw [ep, beqS_val, decide_eq_true rfl]
    have G4 := (G2.sub' s37).sub' s40
    generalize h37.upd k40 (.cells (repV 1024 [.int .u8 0]).toArray 5 (0, 0)) = z at G4
    have ltn : ∀ p ∈ L, p < i := fun p hp => by
      by_cases e : p < i
      · exact e
      · have := low p hp i i1 (by omega)
        rw [iu] at this; cases this
    have Gt : Got n (P1.alloc i) (L ++ [i]) := by
      refine ⟨?_, fun p hp => ?_⟩
      · rw [List.nodup_append]
        refine ⟨ok.nd, by simp, fun a ha b hb => ?_⟩
        rw [List.mem_singleton.1 hb]; exact Nat.ne_of_lt (ltn a ha)
      · rcases List.mem_append.1 hp with hp | hp
        · obtain ⟨q1, q2, q3, q4⟩ := ok.mem p hp
          exact ⟨q1, q2, by show upU _ _ _ _ = true; rw [upU_ne _ _ (Nat.ne_of_lt (ltn p hp))]; exact q3, q4⟩
        · rw [List.mem_singleton.1 hp]
          refine ⟨i1, i2, upU_same _ _ _, fun t ht e => ?_⟩
          have e : P1.now.r t = i := e
          have := (G.E.ok.now.roots t ht).2 (by omega)
          rw [e, iu] at this; cases this
    have lowt : ∀ p ∈ L ++ [i], ∀ q, 1 ≤ q → q ≤ p → (P1.alloc i).now.u q = true := fun p hp q hq hqp => by
      show upU _ _ _ _ = true
      by_cases e : q = i
      · rw [e, upU_same]
      · rw [upU_ne _ _ e]
        rcases List.mem_append.1 hp with hp | hp
        · exact low p hp q hq hqp
        · rw [List.mem_singleton.1 hp] at hqp
          exact iall q hq (by omega)
    have us : (P1.alloc i).used n (i : Nat) = true := by
      unfold Pg.used
      rw [decide_eq_true (show (0 : Int) ≤ (i : Nat) by omega), decide_eq_true (show ((i : Nat) : Int) < (n : Nat) by omega), Int.toNat_natCast]
      exact upU_same _ _ _
    have fr2 : (P1.alloc i).freeN n + (j + 1) = f0 := by
      have := freeN_alloc iu n
      rw [if_pos i2] at this; omega
    have app : ∀ k51, z k51 = none → ∃ xs, SliceAt (z.upd k51 (.cells #[.int .i64 (i : Nat)] 3 (0, 0))) (some ⟨k51, 0, none⟩) 1 xs ∧ ∃ J : Option Addr → Nat → Hp → Prop, (∀ a' c' y, J a' c' y → GotAt h y zb n jb db pb S D (P1.alloc i) R a' c' (L ++ [i])) ∧ appendC Tryz.prog 3 a20 L.length c20 (z.upd k51 (.cells #[.int .i64 (i : Nat)] 3 (0, 0))) xs 1 J := fun k51 hk51 => by
      have s51 := Sub.upd hk51 (.cells (keyC i).toArray 3 (0, 0))
      have G5 := G4.sub' s51
      refine ⟨_, (Blk.new z k51 3 (keyC i)).slice rfl, fun a' c' y => GotAt h y zb n jb db pb S D (P1.alloc i) R a' c' (L ++ [i]), fun a' c' y H => H, ?_⟩
      refine append_ownR appTInt keyC_len keyC_plain (M := [i]) G5.O rfl rfl (rowC_one _).symm (by show (2 * (L.length + 1) + 768) * 8 ≤ _; omega) fun a' c' y o1 o2 o3 => ?_
      have nS : ∀ b, blkOf a20 b → ¬ S b := fun b hb hs => (G5.F b hb).2 (.inl hs)
      have nz : ∀ b, blkOf a20 b → b ≠ zb := fun b hb e => (G5.F b hb).2 (.inr e)
      have nb : ∀ c, c ∈ ([] : List Nat) → True := fun _ _ => trivial
      refine ⟨G5.E.out o2 fun c hc hb => nS c hb hc, G5.B.keep o2 fun hb => nz _ hb rfl, G5.nz, o2.sub G5.sub fun b hb => (G5.F b hb).1, G5.new, o1, fun b hb => ?_⟩
      rcases o3 b hb with h' | h'
      · exact G5.F b h'
      · exact ⟨G5.sub.none h', fun hs => hs.elim (fun hs => G5.E.in_heap hs h') fun e => by
          have hB : _ = some _ := G5.B
          rw [← e] at hB
          cases hB.symm.trans h'⟩
    have nxt : IntKind.i64.wrap ((j : Int) + 1) = ((j + 1 : Nat) : Int) := by rw [wid (by omega) (by omega)]; omega
    have el : L.length + 1 = (L ++ [i]).length := by rw [List.length_append]; rfl
    have fin : ∀ y a' c', GotAt h y zb n jb db pb S D (P1.alloc i) R a' c' (L ++ [i]) → ∃ k, k < f0 - j ∧ ∃ (j' : Nat) (P' : Pg) (L' : List Nat), IntKind.i64.wrap ((j : Int) + 1) = (j' : Int) ∧ j' ≤ f0 ∧ k = f0 - j' ∧ L.length + 1 = L'.length ∧ L'.length = j' ∧ P'.freeN n + j' = f0 ∧ GotAt h y zb n jb db pb S D P' R a' c' L' ∧ Got n P' L' ∧ (∀ p ∈ L', ∀ q, 1 ≤ q → q ≤ p → P'.now.u q = true) := fun y a' c' H =>
      ⟨f0 - (j + 1), by omega, j + 1, P1.alloc i, L ++ [i], nxt, by omega, rfl, el, by rw [List.length_append, hL]; rfl, fr2, H, Gt, lowt⟩
    refine split_cond (fun e => by cases e) fun _ => split_dec (fun gj => ?_) fun gj => ?_
    · have gj : 0 < j := by have : (j : Int) > 0 := gj; omega
      have ej : IntKind.i64.wrap ((j : Int) - 1) = ((j - 1 : Nat) : Int) := by rw [wid (by omega) (by omega)]; omega
      rw [ej]
      have hq : L[j - 1]? = some L[j - 1] := List.getElem?_eq_getElem (by omega)
      have hm := List.getElem_mem (show j - 1 < L.length by omega)
      generalize L[j - 1] = p at hq hm
      obtain ⟨b, o, ea, hc⟩ := G4.O.row.get keyC_len (by decide) hq
      have hlt := ltn p hm
      refine ⟨by omega, by show ((j - 1 : Nat) : Int) < (L.length : Int); omega, b, o, ea, _, by rw [Int.toNat_natCast]; exact hc 0 _ rfl, split_dec (fun e => by
        exfalso
        have : (p : Int) ≥ (i : Int) := e
        omega) fun _ => ⟨zb, 0, rfl, _, G4.B.cell' 1 rfl, used_spec G4.E _ ⟨_, rfl, ?_⟩⟩⟩
      rw [us]
      refine split_cond (fun e => by cases e) fun _ => fun k51 hk51 => ?_
      obtain ⟨xs, hxs, J, hJ, hA⟩ := app k51 hk51
      exact ⟨xs, hxs, J, fun a' c' y hy => fin y a' c' (hJ a' c' y hy), hA⟩
    · refine ⟨zb, 0, rfl, _, G4.B.cell' 1 rfl, used_spec G4.E _ ⟨_, rfl, ?_⟩⟩
      rw [us]
      refine split_cond (fun e => by cases e) fun _ => fun k51 hk51 => ?_
      obtain ⟨xs, hxs, J, hJ, hA⟩ := app k51 hk51
      exact ⟨xs, hxs, J, fun a' c' y hy => fin y a' c' (hJ a' c' y hy), hA⟩
  have g : j = f0 := by
    have : ¬ (j : Int) < (f0 : Int) := g
    omega
  subst g
  have hz : P1.freeN n = 0 := by omega
  refine ⟨zb, 0, rfl, _, G.B.cell' 1 rfl, alloc_spec G.E (fun _ => ⟨_, _, rfl, split_ne (fun e => absurd rfl e) fun _ => ?_⟩) fun i i1 i2 iu iall h30 E2 st2 => ?_⟩
  rotate_left
  · exfalso
    have := freeN_zero.1 hz i i2
    rw [iu] at this; cases this
  refine ⟨zb, 0, rfl, _, G.B.cell' 1 rfl, free_spec G.E ⟨_, rfl, split_ne (fun e => absurd (by rw [hz]; rfl) e) fun _ => ?_⟩⟩
  refine ⟨fun i x m => ∃ (k : Nat) (P' : Pg), i = (k : Int) ∧ k ≤ L.length ∧ m = L.length - k ∧ P'.freeN n = k ∧ GotAt h x zb n jb db pb S D P' R a20 c20 L ∧ Got n P' (L.drop k), ⟨_, 0, P1, rfl, Nat.zero_le _, rfl, hz, G, ok⟩, ?_⟩
  clear G ok low
  rintro i x m ⟨k, P2, rfl, hk, rfl, hfk, G, ok⟩
  refine split_dec (fun g => ?_) fun g => ?_
  · have g : k < L.length := by have : (k : Int) < (L.length : Int) := g; omega
    have hq : L[k]? = some L[k] := List.getElem?_eq_getElem g
    have hdrop : L.drop k = L[k] :: L.drop (k + 1) := List.drop_eq_getElem_cons g
    generalize L[k] = p at hq hdrop
    rw [hdrop] at ok
    obtain ⟨p1, p2, p3, p4⟩ := ok.mem p List.mem_cons_self
    have hnd := List.nodup_cons.1 ok.nd
    have w0 : P2.why n (p : Nat) = 0 := why_i p1 p2 p3
    obtain ⟨hl, r1, r2, r3⟩ := step_rest S x
    have Bl := G.B.keep r3 G.nz
    obtain ⟨b, o, ea, hc⟩ := (G.O.keep r3 fun b hb hs => (G.F b hb).2 (.inl hs)).row.get keyC_len (by decide) hq
    have idx : (k : Int).toNat * 1 = k * 1 := by rw [Int.toNat_natCast]
    have lt : (k : Int) < (L.length : Int) := by omega
    refine ⟨hl, r1, zb, 0, rfl, _, Bl.cell' 1 rfl, by omega, lt, b, o, ea, _, by rw [idx]; exact hc 0 _ rfl, ?_⟩
    refine give_spec G.E _ (fun e => absurd w0 e) (fun t et _ ⟨r, hr, e⟩ => absurd (by omega) (p4 r hr)) fun t et _ _ h97 E2 st2 => ⟨_, rfl, r2 _ _ st2, split_ne (fun e => absurd rfl e) fun _ => ?_⟩
    have : t = p := by omega
    subst this
    have w6 : (P2.give t).why n (t : Nat) = 6 := by
      unfold Pg.why
      rw [if_neg (by omega), Int.toNat_natCast]
      show (if upU P2.now.u t false t = true then 0 else 6) = (6 : Int)
      rw [upU_same]; rfl
    refine ⟨zb, 0, rfl, _, Bl.cell' 1 rfl, by omega, lt, b, o, ea, _, by rw [idx]; exact hc 0 _ rfl, ?_⟩
    refine give_spec E2 _ (fun _ => ⟨_, rfl, split_ne (fun e => absurd w6 e) fun _ => ?_⟩) (fun _ _ e _ => by rw [w6] at e; cases e) fun _ _ e _ => by rw [w6] at e; cases e
    refine ⟨L.length - (k + 1), by omega, k + 1, P2.give t, by rw [wid (by omega) (by omega)]; omega, by omega, rfl, ?_, G.go E2 st2, ⟨hnd.2, fun q hq' => ?_⟩⟩
    · rw [freeN_give p3 n, if_pos p2, hfk]
    · obtain ⟨q1, q2, q3, q4⟩ := ok.mem q (List.mem_cons_of_mem _ hq')
      refine ⟨q1, q2, ?_, q4⟩
      show upU P2.now.u t false q = true
      have hne : q ≠ t := fun e => hnd.1 (by rw [← e]; exact hq')
      rw [upU_ne _ _ hne]; exact q3
  · have : k = L.length := by
      have : ¬ (k : Int) < (L.length : Int) := g
      omega
    subst this
    refine ⟨zb, 0, rfl, _, G.B.cell' 1 rfl, free_spec G.E ⟨_, rfl, split_eq (fun _ => live x G.sub) fun e => absurd (by rw [hfk, hL]) e⟩⟩
end Go.Proofs.YtagglohkipioiaaGreat
namespace Go.Proofs.YtagglohkipioiaaGreat
open Go.Gx
set_option maxRecDepth 100000
set_option linter.unusedVariables false

variable {h : Hp} {pb jb db n zb : Nat} {S : Nat → Prop} {D : Dk} {P : Pg} {R : Pr} {K : Value → Hp → Prop}
/-- Two states tell the same. -/
structure Eqv (x y : RS) : Prop where
  us : x.us = y.us
  ds : ∀ i : Nat, 0 < i → x.us[i]? = some true → x.ds[i]? = y.ds[i]?
  r : ∀ k, k < 4 → x.r k = y.r k
  s : x.s = y.s
set_option maxHeartbeats 1000000 in
theorem same_spec {x y : RS} (X : RSOk h n x) (Y : RSOk h n y) (hn : n ≤ 128) (hK : ∀ b, (Eqv x y → b = true) → K (.bool b) h) : CallsH Tryz.prog ref14_Same.id #[.agg (rsC x).toArray, .agg (rsC y).toArray] h K := by
  have xlu := X.lu
  have xld := X.ld
  have ylu := Y.lu
  have yld := Y.ld
  apply ref14_Same.calls
  unfold ref14_Same.W
  refine ⟨fun z => z = h, ?_, split_ne (fun e => absurd (by show (x.us.length : Int) = (y.us.length : Int); omega) e) fun _ => ⟨_, _, root_lits X.rt, root_lits Y.rt, split_not (fun e => hK false fun q => ?_) fun _ => split_ne (fun e => hK false fun q => absurd (by rw [q.s]) e) fun _ => rfl⟩⟩
  rotate_left
  · exfalso
    have : ((List.range 4).map fun k => Lit.int .i64 (x.r k : Nat)) = (List.range 4).map fun k => Lit.int .i64 (y.r k : Nat) := List.map_congr_left fun k hk => by rw [q.r k (List.mem_range.1 hk)]
    unfold leqL at e
    rw [hb_eq, @decide_eq_true _ (Classical.propDecidable _) this] at e
    cases e
  rintro z rfl
  refine ⟨fun i w m => ∃ j : Nat, i = (j : Int) ∧ j ≤ n ∧ m = n - j ∧ w = z, ⟨_, 0, rfl, Nat.zero_le _, rfl, rfl⟩, ?_⟩
  rintro i w m ⟨j, rfl, hj, rfl, rfl⟩
  refine split_dec (fun g => ?_) fun g => hK true fun _ => rfl
  have g : j < n := by have : (j : Int) < (x.us.length : Int) := g; omega
  have next : ∃ k, k < n - j ∧ ∃ j' : Nat, IntKind.i64.wrap ((j : Int) + 1) = (j' : Int) ∧ j' ≤ n ∧ k = n - j' ∧ w = w := ⟨n - (j + 1), by omega, j + 1, by rw [wid (by omega) (by omega)]; omega, by omega, rfl, rfl⟩
  have hx := List.getElem?_eq_getElem (show j < x.us.length by omega)
  have hy := List.getElem?_eq_getElem (show j < y.us.length by omega)
  have hdx := List.getElem?_eq_getElem (show j < x.ds.length by omega)
  have hdy := List.getElem?_eq_getElem (show j < y.ds.length by omega)
  obtain ⟨b1, o1, e1, c1⟩ := X.ru.get boolC_len (by decide) hx
  obtain ⟨b2, o2, e2, c2⟩ := Y.ru.get boolC_len (by decide) hy
  obtain ⟨b3, o3, e3, c3⟩ := X.rd.get strC_len (by decide) hdx
  obtain ⟨b4, o4, e4, c4⟩ := Y.rd.get strC_len (by decide) hdy
  have idx : (j : Int).toNat * 1 = j * 1 := by rw [Int.toNat_natCast]
  have l1 : (j : Int) < (x.us.length : Int) := by omega
  have l2 : (j : Int) < (y.us.length : Int) := by omega
  have l3 : (j : Int) < (x.ds.length : Int) := by omega
  have l4 : (j : Int) < (y.ds.length : Int) := by omega
  refine ⟨by omega, l1, b1, o1, e1, _, by rw [idx]; exact c1 0 _ rfl, by omega, l2, b2, o2, e2, _, by rw [idx]; exact c2 0 _ rfl, split_cond (fun eb => hK false fun q => ?_) fun _ => ?_⟩
  · exfalso
    have h3 : x.us[j]? = y.us[j]? := by rw [q.us]
    rw [hx, hy] at h3
    cases h3' : x.us[j] <;> cases h4' : y.us[j] <;> rw [h3', h4'] at h3 <;> rw [h3', h4'] at eb <;> first | (cases h3; done) | (cases eb; done)
  refine ⟨by omega, l1, b1, o1, e1, _, by rw [idx]; exact c1 0 _ rfl, split_cond (fun eu => split_dec (fun g0 => ⟨by omega, l3, b3, o3, e3, _, by rw [idx]; exact c3 0 _ rfl, by omega, l4, b4, o4, e4, _, by rw [idx]; exact c4 0 _ rfl, ?_⟩) fun _ => next) fun _ => next⟩
  rw [beqS_val]
  refine split_not (fun e => hK false fun q => ?_) fun _ => next
  exfalso
  have := q.ds j (by omega) (by rw [hx, eu])
  rw [hdx, hdy] at this
  exact of_decide_eq_false e (Option.some.inj this)
theorem sameInts_spec {a b : Option Addr} {c d : Nat} {L M : List Nat} (X : RowAt keyC 1 h a L) (Y : RowAt keyC 1 h b M) (hl : L.length ≤ 1000) (hK : ∀ r, (L = M → r = true) → K (.bool r) h) : CallsH Tryz.prog ref14_SameInts.id #[.slice a L.length c, .slice b M.length d] h K := by
  apply ref14_SameInts.calls
  unfold ref14_SameInts.W
  refine split_ne (fun e => hK false fun q => absurd (by rw [q]) e) fun el => ?_
  have el : L.length = M.length := by
    have : (L.length : Int) = (M.length : Int) := el
    omega
  refine ⟨fun i w m => ∃ j : Nat, i = (j : Int) ∧ j ≤ L.length ∧ m = L.length - j ∧ w = h, ⟨_, 0, rfl, Nat.zero_le _, rfl, rfl⟩, ?_⟩
  rintro i w m ⟨j, rfl, hj, rfl, rfl⟩
  refine split_dec (fun g => ?_) fun g => hK true fun _ => rfl
  have g : j < L.length := by have : (j : Int) < (L.length : Int) := g; omega
  have hx := List.getElem?_eq_getElem g
  have hy := List.getElem?_eq_getElem (show j < M.length by omega)
  obtain ⟨b1, o1, e1, c1⟩ := X.get keyC_len (by decide) hx
  obtain ⟨b2, o2, e2, c2⟩ := Y.get keyC_len (by decide) hy
  have idx : (j : Int).toNat * 1 = j * 1 := by rw [Int.toNat_natCast]
  refine ⟨by omega, by show (j : Int) < (L.length : Int); omega, b1, o1, e1, _, by rw [idx]; exact c1 0 _ rfl, by omega, by show (j : Int) < (M.length : Int); omega, b2, o2, e2, _, by rw [idx]; exact c2 0 _ rfl, split_ne (fun e => hK false fun q => ?_) fun _ => ⟨L.length - (j + 1), by omega, j + 1, by rw [wid (by omega) (by omega)]; omega, by omega, rfl, rfl⟩⟩
  exfalso
  have : L[j]? = M[j]? := by rw [q]
  rw [hx, hy] at this
  exact e (by rw [Option.some.inj this])
theorem Tr.small {P' : Pg} {D' : Dk} {o : Int} (t : Tr n P D o P' D') (ho : o < 4) : D' = D ∧ P'.good = P.good ∧ P'.pts = P.pts := by
  cases t with
  | same => exact ⟨rfl, rfl, rfl⟩
  | alloc => exact ⟨rfl, rfl, rfl⟩
  | give => exact ⟨rfl, rfl, rfl⟩
  | write => exact ⟨rfl, rfl, rfl⟩
  | point => exact ⟨rfl, rfl, rfl⟩
  | save => exact absurd ho (by decide)
  | back => exact absurd ho (by decide)
  | commit0 => exact absurd ho (by decide)
  | commit1 => exact absurd ho (by decide)
  | abort _ h => rcases h with rfl | rfl <;> exact absurd ho (by decide)
  | fresh => exact absurd ho (by decide)
/-- What a pager tells, as a state. -/
def Pg.rs (P : Pg) (D : Dk) (n : Nat) (ua : Option Addr) (uc : Nat) (da : Option Addr) (dc : Nat) : RS := ⟨ua, uc, da, dc, (List.range n).map P.now.u, (List.range n).map (P.stD D n), P.now.r, P.now.s⟩
theorem rs_C {ua da : Option Addr} {uc dc : Nat} : rsC (P.rs D n ua uc da dc) = stC ua n uc da n dc P.now.r P.now.s := by
  unfold rsC Pg.rs
  dsimp only
  rw [List.length_map, List.length_map, List.length_range]
theorem rs_ok {ua da : Option Addr} {uc dc : Nat} (ok : POk n P) (U : OwnR boolC 1 h 4 ua uc ((List.range n).map P.now.u)) (V : OwnR strC 1 h 9 da dc ((List.range n).map (P.stD D n))) : RSOk h n (P.rs D n ua uc da dc) :=
  ⟨by show ((List.range n).map _).length = n; rw [List.length_map, List.length_range], by show ((List.range n).map _).length = n; rw [List.length_map, List.length_range], U.row, V.row, fun k hk => (ok.now.roots k hk).1⟩
theorem st_spec (E : PgAt h pb jb db S n D P) (hK : ∀ h' ua uc da dc, Sub h h' → RSOk h' n (P.rs D n ua uc da dc) → (∀ c, blkOf ua c → h c = none ∧ h' c ≠ none) → (∀ c, blkOf da c → h c = none ∧ h' c ≠ none) → K (.agg (rsC (P.rs D n ua uc da dc)).toArray) h') : CallsH Tryz.prog law14_state.id #[.pointer (some ⟨pb, 0, none⟩)] h K :=
  state_spec E fun h' ua uc da dc s U V fu fd => by
    have := hK h' ua uc da dc s (rs_ok E.ok U V) (fun c hc => ⟨fu c hc, Own.in_heap U hc⟩) fun c hc => ⟨fd c hc, Own.in_heap V hc⟩
    rw [rs_C] at this; exact this
/-- Behind a savepoint. -/
def Bk (h hb : Hp) (T : Nat → Prop) (pb jb db n zb : Nat) (D : Dk) (P : Pg) (x : Hp) : Prop := ∃ S2 P2 R2, Inv h x zb n jb db pb S2 D P2 R2 ∧ P2.good = P.good ∧ P2.pts = P.pts ++ [(P.now, P.d)] ∧ Step T hb (PT S2 zb) x
set_option maxHeartbeats 4000000 in
theorem back_core (pages : Int) (a : Option Addr) (c : Nat) (os : List Op5) (ho : RowAt opC 5 h a os) (hok : ∀ o ∈ os, o.ok) (a2 : Option Addr) (c2 : Nat) (os2 : List Op5) (ho2 : RowAt opC 5 h a2 os2) (hok2 : ∀ o ∈ os2, o.ok) :
    CallsH Tryz.prog law14_PagerBack.id #[.int .i64 pages, .slice a os.length c, .slice a2 os2.length c2] h fun v h' => v = .bool true ∧ Sub h h' := by
  apply law14_PagerBack.calls
  unfold law14_PagerBack.W
  have live : ∀ x, Sub h x → CallsH Tryz.prog law14_lives.id #[] x fun v h' => ∃ b : Bool, v = .bool b ∧ (Value.bool b = .bool true ∧ Sub h h') := fun x s => lives_spec fun h' s' => ⟨_, rfl, rfl, s.trans s'⟩
  by_cases hp : pages < 2 ∨ pages > 10
  · refine begun_bad pages hp ⟨_, rfl, split_cond (fun _ => split_dec (fun _ => live h (Sub.refl h)) fun e => split_dec (fun _ => live h (Sub.refl h)) fun e2 => by omega) fun e => by cases e⟩
  obtain ⟨n, rfl⟩ : ∃ n : Nat, pages = (n : Int) := ⟨pages.toNat, by omega⟩
  have h2 : 2 ≤ n := by omega
  have hn : n ≤ 10 := by omega
  refine inv_begun h2 hn fun hb0 zb I0 => ⟨_, rfl, split_cond (fun e => by cases e) fun _ => ?_⟩
  refine ⟨fun x => InvE h x zb n, ?_, fun i x m => ∃ j : Nat, i = (j : Int) ∧ j ≤ 40 ∧ m = 40 - j ∧ InvE h x zb n, ⟨_, 0, rfl, by decide, rfl, I0⟩, ?_⟩
  rotate_left
  · rintro i x m ⟨j, rfl, hj, rfl, I⟩
    refine split_dec (fun g => split_dec (fun g2 => ?_) fun _ => I) fun _ => I
    have g : j < os.length := by have : (j : Int) < (os.length : Int) := g; omega
    have g2 : j < 40 := by have : (j : Int) < 40 := g2; omega
    have hq : os[j]? = some os[j] := List.getElem?_eq_getElem g
    have hom := hok os[j] (List.getElem_mem g)
    generalize os[j] = o at hq hom
    have sx : Sub h x := by obtain ⟨jb, db, pb, S, D, P, R, i⟩ := I; exact i.sub
    obtain ⟨b, oo, ea, hc⟩ := (ho.sub sx).get opC_len (by decide) hq
    have hc' : ∀ k v, (opC o)[k]? = some v → x.cell b (oo + (j : Int).toNat * 5 + k) = some v := fun k v e => by rw [Int.toNat_natCast]; exact hc k v e
    refine ⟨by omega, by show (j : Int) < (os.length : Int); omega, b, oo, ea, _, hc' 0 _ rfl, _, hc' 1 _ rfl, _, hc' 2 _ rfl, _, hc' 3 _ rfl, _, hc' 4 _ rfl, ?_⟩
    exact inv_step I h2 hn o hom fun b' h' I' => ⟨_, rfl, 40 - (j + 1), by omega, j + 1, by rw [wid (by omega) (by omega)]; omega, by omega, rfl, I'⟩
  rintro x11 ⟨jb, db, pb, S, D, P, R, I⟩
  refine ⟨zb, 0, rfl, _, I.A.blk.cell' 1 rfl, zb, 0, rfl, _, I.A.blk.cell' 1 rfl, ⟨st_spec I.E fun h19 ua uc da dc s19 W fu fd => ⟨_, _, _, _, _, _, _, _, _, _, _, rfl, s19, ⟨changed_spec (I.E.sub s19) fun h32 ca cc NC => ⟨_, _, _, rfl, ?_⟩, s19, changed_spec (I.E.sub s19) fun h32 ca cc NC => ⟨_, _, _, rfl, ?_⟩⟩⟩, Sub.refl _, st_spec I.E fun h19 ua uc da dc s19 W fu fd => ⟨_, _, _, _, _, _, _, _, _, _, _, rfl, s19, changed_spec (I.E.sub s19) fun h32 ca cc NC => ⟨_, _, _, rfl, ?_⟩⟩⟩⟩
  all_goals
    have E32 := (I.E.sub s19).sub NC.sub
    have A32 := (I.A.sub s19).sub NC.sub
    have s32 := s19.trans NC.sub
    have W32 := W.sub NC.sub
    have I32 := I.go E32 A32 (Step.sub s32) I.don
    refine ⟨zb, 0, rfl, _, A32.blk.cell' 1 rfl, save_spec E32 (fun _ => ⟨_, _, rfl, split_ne (fun _ => split_eq (fun _ => live h32 (I.sub.trans s32)) fun e => absurd rfl e) fun e => absurd e (by decide)⟩) fun _ h40 S' E40 st40 => ⟨_, _, rfl, split_ne (fun e => absurd rfl e) fun _ => ?_⟩⟩
    have I40 := I32.go E40 (A32.step st40) (PT.step st40) I.don
    refine ⟨fun x => Bk h h40 (PT S' zb) pb jb db n zb D P x, ?_, fun i x m => ∃ j : Nat, i = (j : Int) ∧ j ≤ 40 ∧ m = 40 - j ∧ Bk h h40 (PT S' zb) pb jb db n zb D P x, ⟨_, 0, rfl, by decide, rfl, S', _, R, I40, rfl, rfl, Step.refl _ _⟩, ?_⟩
    rotate_left
    · rintro i x m ⟨j, rfl, hj, rfl, B⟩
      refine split_dec (fun g => split_dec (fun g2 => ?_) fun _ => B) fun _ => B
      have g : j < os2.length := by have : (j : Int) < (os2.length : Int) := g; omega
      have g2 : j < 40 := by have : (j : Int) < 40 := g2; omega
      have hq : os2[j]? = some os2[j] := List.getElem?_eq_getElem g
      have hom := hok2 os2[j] (List.getElem_mem g)
      generalize os2[j] = o at hq hom
      have sx : Sub h x := by obtain ⟨S2, P2, R2, I2, _⟩ := B; exact I2.sub
      obtain ⟨b, oo, ea, hc⟩ := (ho2.sub sx).get opC_len (by decide) hq
      have hc' : ∀ k v, (opC o)[k]? = some v → x.cell b (oo + (j : Int).toNat * 5 + k) = some v := fun k v e => by rw [Int.toNat_natCast]; exact hc k v e
      have next : IntKind.i64.wrap ((j : Int) + 1) = ((j + 1 : Nat) : Int) := by rw [wid (by omega) (by omega)]; omega
      refine ⟨by omega, by show (j : Int) < (os2.length : Int); omega, b, oo, ea, _, hc' 0 _ rfl, _, hc' 1 _ rfl, _, hc' 2 _ rfl, _, hc' 3 _ rfl, _, hc' 4 _ rfl, split_dec (fun o4 => ?_) fun _ => ⟨40 - (j + 1), by omega, j + 1, next, by omega, rfl, B⟩⟩
      obtain ⟨S2, P2, R2, I2, eg, ep, st2⟩ := B
      refine step_spec I2.E I2.A I2.don h2 hn _ _ _ _ _ hom.1 hom.2 (fun _ => rfl) fun b' h' pb' S3 D3 P3 R3 E3 A3 st3 don3 tr epb => ?_
      obtain ⟨e0, e1, e2⟩ := tr.small o4
      subst e0
      have o4 : o.a < 4 := o4
      have epb := epb (by omega)
      subst epb
      exact ⟨_, rfl, 40 - (j + 1), by omega, j + 1, next, by omega, rfl, S3, P3, R3, I2.go E3 A3 st3 don3, e1.trans eg, e2.trans ep, st2.trans st3⟩
    · rintro x47 ⟨S2, P2, R2, I2, eg, ep, st2⟩
      obtain ⟨hl, r1, r2, r3⟩ := step_rest S2 x47
      have Bl := I2.A.blk.keep r3 I2.A.nz
      have hlen : P2.pts.length = P.pts.length + 1 := by rw [ep, List.length_append]; rfl
      refine ⟨hl, r1, zb, 0, rfl, _, Bl.cell' 1 rfl, back_spec I2.E _ (fun e => by omega) fun k q ek hq h53 S3 E3 st3 => ⟨_, rfl, r2 _ _ st3, split_eq (fun _ => ?_) fun e => absurd rfl e⟩⟩
      have ek : k = P.pts.length := by omega
      subst ek
      have hq2 : q = (P.now, P.d) := by
        rw [ep, List.getElem?_append_right (Nat.le_refl _), Nat.sub_self] at hq
        exact (Option.some.inj hq).symm
      subst hq2
      have A3 := I2.A.step st3
      refine ⟨zb, 0, rfl, _, Bl.cell' 1 rfl, back_spec E3 _ (fun _ => ⟨_, rfl, r2 _ _ st3, split_eq (fun _ => ?_) fun e => absurd rfl e⟩) fun k q ek hq => ?_⟩
      rotate_left
      · exfalso
        have e1 : (P2.back P.pts.length (P.now, P.d)).pts = P.pts := by show P2.pts.take _ = _; rw [ep, List.take_left]
        have : k = P.pts.length := by omega
        rw [e1, this, List.getElem?_eq_none (Nat.le_refl _)] at hq
        cases hq
      refine ⟨zb, 0, rfl, _, Bl.cell' 1 rfl, st_spec E3 fun h65 ua2 uc2 da2 dc2 s65 W2 fu2 fd2 => ⟨_, _, _, _, _, _, _, _, _, _, _, rfl, r2 _ _ (st3.trans (Step.sub s65)), ?_⟩⟩
      have stAll := (((PT.step (zb := zb) st40).trans st2).trans (PT.step st3)).trans (Step.sub s65)
      have nU : ∀ c, x11 c = none → ¬ PT S zb c := fun c hc hs => hs.elim (fun hs => I.E.in_heap hs hc) fun e => I.A.nh (e ▸ hc)
      refine same_spec W2 (W32.keep stAll.1 (fun c hc => nU c (fu c hc).1) fun c hc => nU c (fd c hc).1) (by omega) fun b hb => ⟨_, rfl, ?_⟩
      have eb : b = true := hb ⟨rfl, fun i _ _ => rfl, fun k _ => rfl, rfl⟩
      subst eb
      refine split_cond (fun _ => ?_) fun e => by cases e
      refine ⟨zb, 0, rfl, _, (A3.sub s65).blk.cell' 1 rfl, changed_spec (E3.sub s65) fun h84 ca2 cc2 NC2 => ⟨_, _, _, rfl, ?_⟩⟩
      have ec : (P2.back P.pts.length (P.now, P.d)).chg D n = P.chg D n := by
        have : P2.back P.pts.length (P.now, P.d) = ⟨P2.good, P.now, P.d, P2.pts.take P.pts.length⟩ := rfl
        rw [this, eg]; rfl
      have rc := NC.own.row.keep (stAll.trans (Step.sub NC2.sub)).1 fun c hc => nU c (s19.none (NC.new c hc))
      have hcl := chg_len (P := P2.back P.pts.length (P.now, P.d)) (D := D) (n := n)
      refine sameInts_spec NC2.own.row rc (by omega) fun b hb => ⟨_, rfl, ?_⟩
      have eb : b = true := hb ec
      subst eb
      refine split_cond (fun _ => live h84 ?_) fun e => by cases e
      exact stAll.1.sub (I.sub.trans s32) I.new |>.trans NC2.sub
end Go.Proofs.YtagglohkipioiaaGreat
