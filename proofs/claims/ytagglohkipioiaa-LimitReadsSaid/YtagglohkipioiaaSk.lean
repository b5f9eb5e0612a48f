/- slices.Sorted(maps.Keys(m)) at keys that are texts: the contract over heaps. Conditions: the keys' lengths and number. -/
import Derived.Test.YtagglohkipioiaaIter
import Derived.Test.YtagglohkipioiaaGxK
namespace Go.Proofs.Ytagglohkipioiaa
open Go.Gx Go.Proofs Go.RowKit Go.Maps Go.Sort Go.Shelf
set_option linter.unusedVariables false
set_option maxRecDepth 100000
def strC (s : ByteArray) : List Value := [.string s]
theorem strC_len (s : ByteArray) : (strC s).length = 1 := rfl
theorem sortedAt {H : Type} {R : Value → Option (DataW H × List MemPlace)} (k b nn : Nat) (D0 : DataW H) (W : World) (hlt : k < W.heap.size) (hk : W.cell? ⟨k, 0, none⟩ = some (.map (some b))) (hown : W.ownsMap Try.prog 9 R b nn D0) (hmax : Maps.size D0 ≤ maxLen) (hbytes : Maps.size D0 * 16 ≤ 140737488355328) :
    CallsIn Fence.wide 5 Try.prog 48 #[.func (.func 84) #[] #[.pointer (some ⟨k, 0, none⟩)]] W fun e w' => ∃ (v : Value) (ss : List (List UInt8)), e = .returned v ∧ ss.Perm (strKeys D0) ∧
      w'.ownsRow W.heap.size 9 1 v ss.length ((ss.mergeSort (fun x y => decide (x ≤ y))).map encStr) ∧ (v = .slice none 0 0 ↔ ss = []) ∧ Go.RowKit.Below W.heap.size W w' := by
  have hseq : SeqGives Fence.wide 2 Try.prog 84 #[.pointer (some ⟨k, 0, none⟩)] encStr (fun ss => ss.Perm (strKeys D0)) (Maps.size D0) W :=
    AnyZ.keys_gives (ρ := Try.keys49_ren) { Try.keys49 with } Fence.wide _ trivial rfl (by omega) k b nn D0 W hlt hk hown
  exact AnyZ.sorted_in Try.sorted48 Fence.wide 5 trivial trivial trivial trivial rfl (by omega) (Try.sorts48 _) (enters_of Try.func83 (by kernel_rfl) rfl) 84 #[.pointer (some ⟨k, 0, none⟩)] trivial (enters_of Try.func84 (by kernel_rfl) rfl) _ _ hmax hbytes _ hseq
def bOf (l : List UInt8) : ByteArray := ⟨l.toArray⟩
theorem bOf_data (b : ByteArray) : bOf b.data.toList = b := by apply ByteArray.ext; simp [bOf]
theorem sorted_spec {h : Hp} {K : Value → Hp → Prop} {k b : Nat} {ks : List ByteArray} {o : Obj} {m : List (Value × Value)} (hk : h.cell k 0 = some (.map (some b))) (hb : h b = some o) (M : MapObj Try.prog 9 o m) (hm : m.map (·.1) = ks.map .string) (hlen : ks.length ≤ 1000000)
    (hsz : ∀ s ∈ ks, s.size ≤ maxLen) (hK : ∀ h' a c rs, rs.Perm ks → (rs.map fun s => s.data.toList).Pairwise (fun x y => x ≤ y) → NewR strC 1 9 h h' a c rs → K (.slice a rs.length c) h') :
    CallsH Try.prog 48 #[.func (.func 84) #[] #[.pointer (some ⟨k, 0, none⟩)]] h K := by
  intro W hW
  obtain ⟨es, clock, rfl, hm2, hst, hok⟩ := M
  have hbW := hW b _ hb
  have hkeys : es.toList.map (·.key) = ks.map Value.string := by
    rw [← hm, ← hm2, List.map_map]; rfl
  have hesl : es.size = ks.length := by
    have := congrArg List.length hkeys
    simpa using this
  have hu : Try.prog.underlying 9 = some .string := Try.underlying9
  have rdk : ∀ x ∈ es.toList, ∃ s, s ∈ ks ∧ x.key = .string s ∧ WideElems.rd (H := Unit) Try.prog 9 (fun _ => some (.nil, [])) x = some (.string s.data.toList, .nil) := by
    intro x hx
    have : x.key ∈ ks.map Value.string := by rw [← hkeys]; exact List.mem_map.2 ⟨x, hx, rfl⟩
    obtain ⟨s, hs, e⟩ := List.mem_map.1 this
    refine ⟨s, hs, e.symm, ?_⟩
    unfold WideElems.rd
    rw [← e, Go.WideMaps.keyOf_string_mk hu (hsz s hs)]; rfl
  have hown : W.ownsMap Try.prog 9 (fun _ => some ((.nil : DataW Unit), [])) b es.size (.map ((es.toList.map (WideElems.rg Try.prog 9 (fun _ => some (.nil, [])))).foldr DataW.insert [])) :=
    ⟨es, clock, hbW, ⟨by have : (1000000 : Nat) ≤ maxLen := by decide
                         omega, hst, fun x hx => by obtain ⟨s, _, _, e⟩ := rdk x hx; exact ⟨_, e⟩⟩, Nat.le_refl _, rfl⟩
  have hsk : (strKeys (H := Unit) (.map ((es.toList.map (WideElems.rg Try.prog 9 (fun _ => some (.nil, [])))).foldr DataW.insert []))).Perm (ks.map fun s => s.data.toList) := by
    refine ((WideShapes.sorted_perm _).map _).trans ?_
    rw [List.map_map]
    have : es.toList.map ((fun p => strOf p.1) ∘ WideElems.rg (H := Unit) Try.prog 9 (fun _ => some (.nil, []))) = ks.map fun s => s.data.toList := by
      have h2 : es.toList.map ((fun p => strOf p.1) ∘ WideElems.rg (H := Unit) Try.prog 9 (fun _ => some (.nil, []))) = (es.toList.map (·.key)).map fun v => match v with
          | .string s => s.data.toList
          | _ => [] := by
        rw [List.map_map]
        refine List.map_congr_left fun x hx => ?_
        obtain ⟨s, _, e1, e2⟩ := rdk x hx
        show strOf (WideElems.rg Try.prog 9 (fun _ => some (.nil, [])) x).1 = _
        unfold WideElems.rg
        rw [e2]
        show s.data.toList = _
        simp only [Function.comp, e1]
      rw [h2, hkeys, List.map_map]; rfl
    rw [this]
  have hlt : k < W.heap.size := by
    unfold Hp.cell at hk
    cases hkk : h k with
    | none => rw [hkk] at hk; cases hk
    | some ob => exact (Array.getElem?_eq_some_iff.1 (hW k ob hkk)).1
  have hcell : W.cell? ⟨k, 0, none⟩ = some (.map (some b)) := by
    unfold Hp.cell at hk
    cases hkk : h k with
    | none => rw [hkk] at hk; cases hk
    | some ob =>
      rw [hkk] at hk
      cases ob with
      | cells c t f =>
        simp only [] at hk
        unfold World.cell?
        simp [hW k _ hkk, hk]
      | _ => cases hk
  have hsize : Maps.size (H := Unit) (.map ((es.toList.map (WideElems.rg Try.prog 9 (fun _ => some (.nil, [])))).foldr DataW.insert [])) = ks.length := by
    rw [Maps.size_eq, (WideShapes.sorted_perm _).length_eq, List.length_map, Array.length_toList, hesl]
  have hmx : (1000000 : Nat) * 16 ≤ maxLen := by decide
  refine (callsIn_wide.1 (sortedAt k b _ _ W hlt hcell hown (by rw [hsize]; omega) (by rw [hsize]; omega))).mono fun e w' ⟨v, ss, he, hp, hrow, hnil, bel⟩ => ?_
  have hp' := hp.trans hsk
  have hlen' : ss.length = ks.length := by rw [hp'.length_eq, List.length_map]
  have hperm : ((ss.mergeSort (fun x y => decide (x ≤ y))).map bOf).Perm ks := by
    have h1 := ((List.mergeSort_perm ss (fun x y => decide (x ≤ y))).trans hp').map bOf
    rw [List.map_map] at h1
    have h2 : ks.map (bOf ∘ fun s => s.data.toList) = ks := by
      have : (bOf ∘ fun s : ByteArray => s.data.toList) = id := funext bOf_data
      rw [this, List.map_id]
    rw [h2] at h1; exact h1
  have hdata : ((ss.mergeSort (fun x y => decide (x ≤ y))).map bOf).map (fun s => s.data.toList) = ss.mergeSort (fun x y => decide (x ≤ y)) := by
    have : ((fun s : ByteArray => s.data.toList) ∘ bOf) = id := funext fun l => rfl
    rw [List.map_map, this, List.map_id]
  have hpw : (ss.mergeSort (fun x y => decide (x ≤ y))).Pairwise (fun x y => x ≤ y) := by
    have := List.pairwise_mergeSort (le := fun (x y : List UInt8) => decide (x ≤ y)) (fun a b c h1 h2 => decide_eq_true (List.le_trans (of_decide_eq_true h1) (of_decide_eq_true h2)))
      (fun a b => by rcases List.le_total a b with h | h <;> simp [h]) ss
    exact this.imp fun h => of_decide_eq_true h
  have hxs : (ss.mergeSort (fun x y => decide (x ≤ y))).map encStr = rowC strC ((ss.mergeSort (fun x y => decide (x ≤ y))).map bOf) := by
    unfold rowC strC
    rw [List.flatMap_map]
    generalize ss.mergeSort (fun x y => decide (x ≤ y)) = l
    induction l with
    | nil => rfl
    | cons x l ih => rw [List.map_cons, List.flatMap_cons, ih]; rfl
  have hml : (ss.mergeSort (fun x y => decide (x ≤ y))).length = ss.length := (List.mergeSort_perm ss _).length_eq
  have hhn : ∀ c, W.heap.size ≤ c → h c = none := fun c hc => by
    cases hh : h c with
    | none => rfl
    | some o => have := (Array.getElem?_eq_some_iff.1 (hW c o hh)).1; omega
  have hWk : ∀ b o, W.heap[b]? = some o → w'.heap[b]? = some o := fun b o e => (bel.block b (Array.getElem?_eq_some_iff.1 e).1).trans e
  obtain ⟨_, ⟨e1, e2⟩ | ⟨g, cap, cur, e1, hg, hcur, hnc, hcm, hcs, htk⟩⟩ := hrow
  · have hss : ss = [] := List.eq_nil_of_length_eq_zero e2
    refine ⟨v, h, he, ?_, fun c o hc => hWk c o (hW c o hc), ⟨bel.os, bel.tape, bel.output, bel.size, fun c o e e' => ⟨hWk c o e, e'⟩⟩⟩
    have := hK h none 0 _ hperm (by rw [hdata]; exact hpw) (by rw [hss, List.mergeSort_nil]; exact NewR.nil _ _)
    rw [List.length_map, hml, e2] at this
    rw [e1]; exact this
  · have hgn := hhn g hg
    refine ⟨v, h.upd g (.cells cur 9 (0, 0)), he, ?_, fun c o hc => ?_, ⟨bel.os, bel.tape, bel.output, bel.size, fun c o e e' => ⟨hWk c o e, ?_⟩⟩⟩
    · have := hK (h.upd g (.cells cur 9 (0, 0))) (some ⟨g, 0, none⟩) cap _ hperm (by rw [hdata]; exact hpw) ⟨Sub.upd hgn _, (by rintro b ⟨o, s, e⟩; cases e; exact hgn), by
        refine ⟨by rw [← hxs]; simp [hml], by rw [List.length_map, hml]; exact hnc, .inr ⟨g, cur.toList.drop (ss.length * 1), rfl, ?_, ?_⟩⟩
        · unfold Blk
          rw [Hp.upd_same, ← hxs, ← htk, List.take_append_drop]
        · rw [List.length_drop, List.length_map, hml, Array.length_toList, hcs, Nat.mul_one, Nat.mul_one, Nat.mul_one]⟩
      rw [List.length_map, hml] at this
      rw [e1]; exact this
    · by_cases hcg : c = g
      · subst hcg; rw [Hp.upd_same] at hc; cases hc; exact hcur
      · rw [Hp.upd_ne _ _ hcg] at hc; exact hWk c o (hW c o hc)
    · by_cases hcg : c = g
      · subst hcg; have := (Array.getElem?_eq_some_iff.1 e).1; omega
      · rw [Hp.upd_ne _ _ hcg]; exact e'
end Go.Proofs.Ytagglohkipioiaa
