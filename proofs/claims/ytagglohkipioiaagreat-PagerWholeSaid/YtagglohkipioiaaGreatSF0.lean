/- What the comparison of two changes by their pages gives, in whatever world. Condition: pages below 256. slices.SortedFunc of slices.Values at changes, by their pages. Conditions: small pages. -/
import Derived.Test.YtagglohkipioiaaGreatSh2
import Derived.WalkKit
import Derived.Test.YtagglohkipioiaaGreatJ3
namespace Go.Proofs
open Go.Shelf Go.RowKit Go.Lib Go.Sort
def Tryz.encCh (x : Fin 256 × ByteArray) : List Value := [.int .i64 (x.1.val : Nat), .string x.2]
def Tryz.cfCh (x y : Fin 256 × ByteArray) : Int := ((x.1.val : Nat) : Int) - ((y.1.val : Nat) : Int)
theorem Tryz.wrapCh (x y : Fin 256 × ByteArray) : IntKind.i64.wrap (((x.1.val : Nat) : Int) - ((y.1.val : Nat) : Int)) = Tryz.cfCh x y := by
  have h1 := x.1.isLt
  have h2 := y.1.isLt
  unfold Tryz.cfCh IntKind.wrap
  simp only [IntKind.signed, IntKind.bits, Bool.true_and]
  split <;> simp_all <;> omega
set_option maxHeartbeats 1000000 in
theorem Tryz.closure56 (x y : Fin 256 × ByteArray) (W : World) : Calls Tryz.prog 77 #[.agg #[.int .i64 (x.1.val : Nat), .string x.2], .agg #[.int .i64 (y.1.val : Nat), .string y.2]] W fun e w' => e = .returned (.int .i64 (Tryz.cfCh x y)) ∧ ∃ q os', w' = grow (W.drewN q) os' := by
  have hw := Tryz.wrapCh x y
  generalize Tryz.cfCh x y = r at hw ⊢
  go_enter Tryz.func77, Tryz.ntmps77
  go_wp2
  go_ret
  exact ⟨rfl, 0, _, by rw [alloc_eq_grow, alloc_eq_grow, grow_grow]; rfl⟩
theorem Tryz.ltCh (x y : Fin 256 × ByteArray) : ltOf Tryz.cfCh x y = decide (x.1.val < y.1.val) := by
  unfold ltOf Tryz.cfCh
  by_cases h : x.1.val < y.1.val
  · rw [decide_eq_true h]; exact decide_eq_true (by omega)
  · rw [decide_eq_false h]; exact decide_eq_false (by omega)
theorem Tryz.swoCh : SWO (ltOf Tryz.cfCh) where
  irrefl x := by rw [Tryz.ltCh]; simp
  trans x y z h1 h2 := by rw [Tryz.ltCh] at *; simp at *; omega
  ntrans x y z h1 h2 := by rw [Tryz.ltCh] at *; simp at *; omega
theorem Tryz.sort88_at (blk off cap : Nat) (d : Array (Fin 256 × ByteArray)) (w : World) (hH : HoldsK Tryz.encCh 2 w blk off d) (hblk : blk < w.heap.size) (hsz : d.size < 4611686018427387904) :
    Calls Tryz.prog 86 #[.slice (some ⟨blk, off, none⟩) d.size cap, .func (.func 77) #[] #[]] w fun e w' => e = .returned (.tuple #[]) ∧ ∃ d' n os, PermIn 0 d.size d d' ∧ SortedIn (ltOf Tryz.cfCh) 0 d.size d' ∧ w' = sortWorldK Tryz.encCh 2 w blk off n d' os :=
  AnyQ.slices_SortFunc Tryz.sort88 2 Tryz.isAgg103 Tryz.sizeOf103 Tryz.encCh (fun _ => rfl) (fun x v hv => by simp [Tryz.encCh] at hv; rcases hv with rfl | rfl <;> rfl) Tryz.cfCh Tryz.swoCh 77 #[] blk off cap d w (enters_of Tryz.func77 (by kernel_rfl) rfl) (fun _ _ _ _ x y => Tryz.closure56 x y _) hH hblk hsz
theorem Tryz.sort88_none (p : Option Addr) (cap : Nat) (w : World) : Calls Tryz.prog 86 #[.slice p 0 cap, .func (.func 77) #[] #[]] w fun e w' => e = .returned (.tuple #[]) ∧ w' = w :=
  AnyF.slices_SortFunc_none { Tryz.sort88 with } p cap _ w
end Go.Proofs
namespace Go.Proofs.YtagglohkipioiaaGreat
open Go.Gx
open Go.Sort (flatK get_flatK size_flatK HoldsK putRowK grow SortedIn PermIn)
open Go.Proofs (sortWorldK)
set_option linter.unusedVariables false
abbrev Cf := Fin 256 × ByteArray
def ofCf (x : Cf) : Ch := (x.1.val, x.2)
theorem enc_wr (x : Cf) : Tryz.encCh x = wrC (ofCf x) := rfl
theorem lift_cs : ∀ (cs : List Ch), (∀ c ∈ cs, c.1 < 256) → ∃ d : List Cf, d.map ofCf = cs
  | [], _ => ⟨[], rfl⟩
  | c :: cs, h => by
    obtain ⟨d, rfl⟩ := lift_cs cs fun x hx => h x (List.mem_cons_of_mem _ hx)
    exact ⟨(⟨c.1, h c List.mem_cons_self⟩, c.2) :: d, rfl⟩
theorem flat_get_ (d : Array Cf) (t : Nat) (ht : t < d.size * 2) : (rowC wrC (d.toList.map ofCf))[t]? = some ((flatK Tryz.encCh 2 d)[t]!) := by
  have hi : t / 2 < d.size := by omega
  have h1 : (d.toList.map ofCf)[t / 2]? = some (ofCf d[t / 2]!) := by
    rw [List.getElem?_map, Array.getElem?_toList, getElem!_pos d (t / 2) hi, Array.getElem?_eq_getElem hi]; rfl
  have h2 := rowC_get wrC_len _ _ _ h1 (t % 2) (by omega)
  rw [show t / 2 * 2 + t % 2 = t by omega] at h2
  rw [h2, get_flatK _ _ _ _ ht, enc_wr]
  have h3 : t % 2 < (wrC (ofCf d[t / 2]!)).length := by rw [wrC_len]; omega
  rw [List.getElem?_eq_getElem h3, getElem!_pos (wrC (ofCf d[t / 2]!)) (t % 2) h3]
theorem put_flat (d : Array Cf) (A rest : List Value) (hA : A.length = d.size * 2) : Go.Sort.putCells id 0 (flatK Tryz.encCh 2 d) (A ++ rest).toArray = (rowC wrC (d.toList.map ofCf) ++ rest).toArray := by
  have hl : (rowC wrC (d.toList.map ofCf)).length = d.size * 2 := by rw [rowC_length wrC_len, List.length_map, Array.length_toList]
  apply Array.ext_getElem?
  intro t
  unfold Go.Sort.putCells
  rw [Array.getElem?_mapIdx]
  simp only [List.getElem?_toArray, size_flatK, Nat.zero_le, Nat.zero_add, true_and, id]
  by_cases ht : t < d.size * 2
  · rw [List.getElem?_append_left (by omega), List.getElem?_append_left (by omega), flat_get_ d t ht, List.getElem?_eq_getElem (by omega)]
    simp [ht]
  · rw [List.getElem?_append_right (by omega), List.getElem?_append_right (by omega), hA, hl]
    cases rest[t - d.size * 2]? <;> simp [ht]
theorem sortfunc_spec {h y : Hp} {K : Value → Hp → Prop} {a : Option Addr} {c : Nat} {cs : List Ch} (N : NewR wrC 2 103 h y a c cs) (hl : cs.length < 1000000) (hs : ∀ c ∈ cs, c.1 < 256)
    (hK : ∀ y ds, ds.Perm cs → ds.Pairwise (fun a b => a.1 ≤ b.1) → NewR wrC 2 103 h y a c ds → K (.tuple #[]) y) : CallsH Tryz.prog 86 #[.slice a cs.length c, .func (.func 77) #[] #[]] y K := by
  intro W hW
  obtain ⟨o1, o2, ⟨rfl, rfl⟩ | ⟨b, rest, rfl, hb, hr⟩⟩ := id N.own
  · have : cs = [] := List.eq_nil_of_length_eq_zero (by omega)
    subst this
    exact (Tryz.sort88_none none 0 W).mono fun e w' ⟨he, hw⟩ => ⟨_, y, he, hK y [] (List.Perm.refl _) List.Pairwise.nil N, by rw [hw]; exact hW, by rw [hw]; exact Kept.refl _ _⟩
  · obtain ⟨d, rfl⟩ := lift_cs cs hs
    have hWb := hW b _ hb
    have hlt := (Array.getElem?_eq_some_iff.1 hWb).1
    have hA : (rowC wrC (d.map ofCf)).length = d.toArray.size * 2 := by rw [rowC_length wrC_len, List.length_map]; rfl
    have hH : HoldsK Tryz.encCh 2 W b 0 d.toArray := by
      intro j hj
      rw [size_flatK] at hj
      have h1 := flat_get_ d.toArray j hj
      rw [Nat.zero_add]
      refine ⟨?_, ?_⟩
      · unfold World.cell?
        rw [show W.heap[(⟨b, j, none⟩ : Addr).block]? = _ from hWb]
        simp only [List.getElem?_toArray]
        rw [List.getElem?_append_left (by omega)]
        exact h1
      · unfold World.frozen?
        rw [show W.heap[(⟨b, j, none⟩ : Addr).block]? = _ from hWb]
        simp
    have hcall := Tryz.sort88_at b 0 c d.toArray W hH hlt (by simp at hl ⊢; omega)
    rw [show (d.map ofCf).length = d.toArray.size by simp]
    refine hcall.mono fun e w' ⟨he, d', nn, os, hp, hsd, hw⟩ => ?_
    have hsz : d'.size = d.toArray.size := hp.1
    have hperm : d'.toList.Perm d := by
      have := hp.2.2
      rw [Array.extract_eq_self_of_le (by omega), Array.extract_eq_self_of_le (Nat.le_refl _)] at this
      exact this
    have hds : (d'.toList.map ofCf).length = (d.map ofCf).length := by rw [List.length_map, List.length_map, Array.length_toList, hsz]; rfl
    have hheap : ∀ k, k < W.heap.size → w'.heap[k]? = (if k = b then some (.cells (rowC wrC (d'.toList.map ofCf) ++ rest).toArray 103 (0, 0)) else W.heap[k]?) := by
      intro k hk
      rw [hw]
      unfold sortWorldK grow putRowK Go.Sort.putRow Go.Sort.mapBlock Go.Sort.ahead
      show ((W.heap.modify b _) ++ os)[k]? = _
      rw [Array.getElem?_append_left (by simpa using hk), Array.getElem?_modify]
      by_cases e : b = k
      · subst e
        rw [if_pos rfl, if_pos rfl, hWb]
        show some (Obj.cells (Go.Sort.putCells id 0 (flatK Tryz.encCh 2 d') (rowC wrC (d.map ofCf) ++ rest).toArray) 103 (0, 0)) = _
        rw [put_flat d' _ _ (by rw [hA, hsz])]
      · rw [if_neg e, if_neg (Ne.symm e)]
    have hsize : W.heap.size ≤ w'.heap.size := by
      rw [hw]
      unfold sortWorldK grow putRowK Go.Sort.putRow Go.Sort.mapBlock Go.Sort.ahead
      simp
    refine ⟨_, y.upd b (.cells (rowC wrC (d'.toList.map ofCf) ++ rest).toArray 103 (0, 0)), he, hK _ (d'.toList.map ofCf) (hperm.map _) ?_ ⟨?_, N.new, ?_⟩, fun c' o hc => ?_, ⟨by rw [hw]; rfl, by rw [hw]; rfl, by rw [hw]; rfl, hsize, fun c' o hc hn => ?_⟩⟩
    · rw [List.pairwise_iff_getElem]
      intro i j hi hj hij
      simp only [List.length_map, Array.length_toList] at hi hj
      have := hsd i j (Nat.zero_le _) hij (by omega)
      rw [Tryz.ltCh, getElem!_pos d' j hj, getElem!_pos d' i hi] at this
      have := of_decide_eq_false this
      simp only [List.getElem_map, Array.getElem_toList, ofCf]
      omega
    · intro c' o hc
      have hne : c' ≠ b := fun e => by have := N.new b ⟨0, none, rfl⟩; rw [e, this] at hc; cases hc
      rw [Hp.upd_ne _ _ hne]; exact N.sub c' o hc
    · refine ⟨by rw [rowC_length wrC_len], by rw [hds]; exact o2, .inr ⟨b, rest, rfl, Hp.upd_same _ _ _, by rw [hds]; exact hr⟩⟩
    · by_cases e : c' = b
      · rw [e, Hp.upd_same] at hc
        cases hc
        rw [e, hheap b hlt, if_pos rfl]
      · rw [Hp.upd_ne _ _ e] at hc
        have := hW c' o hc
        rw [hheap c' (Array.getElem?_eq_some_iff.1 this).1, if_neg e]; exact this
    · have hne : c' ≠ b := fun e => by rw [e, show y b = _ from hb] at hn; cases hn
      rw [hheap c' (Array.getElem?_eq_some_iff.1 hc).1, if_neg hne, Hp.upd_ne _ _ hne]
      exact ⟨hc, hn⟩
theorem sortedfunc_spec {h : Hp} {K : Value → Hp → Prop} (la : Option Addr) (lc : Nat) (cs : List Ch) (hl : cs.length < 1000000) (pb : Nat) (hp : h.cell pb 0 = some (.slice la cs.length lc)) (R : RowAt wrC 2 h la cs) (hs : ∀ c ∈ cs, c.1 < 256)
    (hK : ∀ y a c ds, ds.Perm cs → ds.Pairwise (fun a b => a.1 ≤ b.1) → NewR wrC 2 103 h y a c ds → K (.slice a ds.length c) y) : CallsH Tryz.prog 75 #[.func (.func 87) #[] #[.pointer (some ⟨pb, 0, none⟩)], .func (.func 77) #[] #[]] h K := by
  refine slices_SortedFunc_journal_Change__0f87_1f77.calls pb 0 ?_
  unfold slices_SortedFunc_journal_Change__0f87_1f77.W
  refine collect_spec la lc cs hl pb hp R fun y a c N => ⟨_, _, _, rfl, sortfunc_spec N hl hs fun y2 ds hpm hsd N2 => ⟨rfl, ?_⟩⟩
  rw [← hpm.length_eq]
  exact hK y2 a c ds hpm hsd N2
end Go.Proofs.YtagglohkipioiaaGreat
