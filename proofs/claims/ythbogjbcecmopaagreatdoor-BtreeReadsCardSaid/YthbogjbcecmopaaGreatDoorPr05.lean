/- A map's copy, and its keys in order, over heaps. Conditions: the map's pages are few. When two heads are one; which pages are others. Conditions: numbers that fit. Free pages, writing, pointing, savepoints, going back, aborting. Conditions: the pager stands as it is named. Which pages a commit would change. Conditions: the pager stands as it is named. A commit of a pager. Conditions: the pager stands as it is named, nothing waits on the disk. Plain laws of entries in a list in the order of their keys. Conditions: those that each lemma names. A page as a node: words, the search, what a node tells. Conditions: those that each contract names. The bytes of a page as a node. Conditions: 5 to 4096 bytes. A page read as a node. Conditions: 1024 bytes. Trees of nodes: plain laws. Conditions: those that each lemma names. What Check tells. Conditions: the pager stands as it is named. Trees: opened, checked, their height, what they have of a key. Conditions: the pager stands as it is named. What a tree has of a key; how many entries it has. Conditions: the pager stands as it is named. The entries of a tree from one key to another one. Conditions: the pager stands as it is named. strings.Repeat as the library's shelf has it, laid at this program; the entry behind a key; all entries. Conditions: the pager stands as it is named. -/
import Derived.Test.YthbogjbcecmopaaGreatDoorPr04
import Derived.Shelf.Strings.Repeat
namespace Go.Proofs.YthbogjbcecmopaaGreatDoor
open Go.Gx Go.Proofs Go.RowKit Go.Maps Go.Sort Go.Shelf
set_option maxRecDepth 100000
set_option linter.unusedVariables false

theorem holds_alloc {h : Hp} {W : World} (hW : Holds h W) : h W.heap.size = none := by
  cases hh : h W.heap.size with
  | none => rfl
  | some o => have := (Array.getElem?_eq_some_iff.1 (hW _ o hh)).1; omega
theorem clone_spec {h : Hp} {K : Value → Hp → Prop} {b : Nat} {L : List Ch} (H : DAt h b L) (hK : ∀ k o, h k = none → DAt (h.upd k o) k L → K (.map (some k)) (h.upd k o)) :
    CallsH Tryz.prog 86 #[.map (some b)] h K := by
  obtain ⟨o, hb, M⟩ := H
  intro W hW
  have hn := holds_alloc hW
  have M' := M
  obtain ⟨es, clock, rfl, hm2, hst, hok⟩ := M
  refine (AnyW.maps_Clone Tryz.clone67 b es clock W (hW b _ hb)).mono fun e w' ⟨he, hw⟩ => ?_
  subst hw
  refine ⟨_, h.upd W.heap.size (.map es clock), he, hK _ _ hn ⟨_, Hp.upd_same _ _ _, M'⟩, fun c o hc => ?_, ?_⟩
  · by_cases e : c = W.heap.size
    · rw [e, Hp.upd_same] at hc; cases hc; rw [e]; exact (MapKept.heap_alloc W _).1
    · rw [Hp.upd_ne _ _ e] at hc
      have := hW c o hc
      have hlt := (Array.getElem?_eq_some_iff.1 this).1
      exact (Go.RowKit.Below.heap_alloc _ _ c hlt).trans this
  · refine ⟨rfl, rfl, rfl, by show W.heap.size ≤ (W.heap.push _).size; rw [Array.size_push]; omega, fun c o hc hc2 => ?_⟩
    have hlt := (Array.getElem?_eq_some_iff.1 hc).1
    exact ⟨(Go.RowKit.Below.heap_alloc _ _ c hlt).trans hc, by rw [Hp.upd_ne _ _ (by omega)]; exact hc2⟩
theorem mkeys_spec {h : Hp} {K : Value → Hp → Prop} {b : Nat} (hK : ∀ k, h k = none → K (.func (.func 127) #[] #[.pointer (some ⟨k, 0, none⟩)]) (h.upd k (.cells #[.map (some b)] 84 (0, 0)))) : CallsH Tryz.prog 106 #[.map (some b)] h K := by
  intro W hW
  have hn := holds_alloc hW
  refine (callsIn_wide.1 (AnyZI.keys_in Tryz.keys69 Fence.wide 5 trivial rfl (some b) W)).mono fun e w' ⟨he, hw⟩ => ?_
  subst hw
  refine ⟨_, h.upd W.heap.size (.cells #[.map (some b)] 84 (0, 0)), he, hK _ hn, fun c o hc => ?_, rfl, rfl, rfl, by show W.heap.size ≤ (W.heap.push _).size; rw [Array.size_push]; omega, fun c o hc hc2 => ?_⟩
  · by_cases e : c = W.heap.size
    · rw [e, Hp.upd_same] at hc; cases hc; rw [e]; exact (MapKept.heap_alloc W _).1
    · rw [Hp.upd_ne _ _ e] at hc
      have := hW c o hc
      have hlt := (Array.getElem?_eq_some_iff.1 this).1
      exact (Go.RowKit.Below.heap_alloc _ _ c hlt).trans this
  · have hlt := (Array.getElem?_eq_some_iff.1 hc).1
    exact ⟨(Go.RowKit.Below.heap_alloc _ _ c hlt).trans hc, by rw [Hp.upd_ne _ _ (by omega)]; exact hc2⟩
def keyC (i : Nat) : List Value := [.int .i64 (i : Nat)]
theorem keyC_len (i : Nat) : (keyC i).length = 1 := rfl
theorem keyC_plain (i : Nat) : plainP (keyC i) := plainP_of rfl
theorem sorts68 (m : Nat) : AnyZI.SortsIn Tryz.prog Tryz.sorted68_ren Fence.wide m :=
  ⟨fun blk off cap ss W hH hblk hsz => callsIn_wide.2 (AnyM.slices_Sort_int Tryz.sort94 blk off cap ss W hH hblk hsz),
   fun p cap W => callsIn_wide.2 (AnyM.slices_Sort_int_none Tryz.sort94 p cap W)⟩
theorem sortedAt {H : Type} {R : Value → Option (DataW H × List MemPlace)} (k b nn : Nat) (D0 : DataW H) (W : World) (hlt : k < W.heap.size) (hk : W.cell? ⟨k, 0, none⟩ = some (.map (some b))) (hown : W.ownsMap Tryz.prog 3 R b nn D0) (hmax : Maps.size D0 ≤ maxLen) (hbytes : Maps.size D0 * 8 ≤ 140737488355328) :
    CallsIn Fence.wide 5 Tryz.prog 105 #[.func (.func 127) #[] #[.pointer (some ⟨k, 0, none⟩)]] W fun e w' => ∃ (v : Value) (ss : List Int), e = .returned v ∧ ss.Perm (intKeys D0) ∧
      w'.ownsRow W.heap.size 3 1 v ss.length ((ss.mergeSort (fun x y => decide (x ≤ y))).map encZ) ∧ (v = .slice none 0 0 ↔ ss = []) ∧ Go.RowKit.Below W.heap.size W w' := by
  have hseq : SeqGives Fence.wide 2 Tryz.prog 127 #[.pointer (some ⟨k, 0, none⟩)] encZ (fun ss => ss.Perm (intKeys D0)) (Maps.size D0) W :=
    AnyZI.keys_gives (ρ := Tryz.keys69_ren) { Tryz.keys69 with } Fence.wide _ trivial rfl (by omega) k b nn D0 W hlt hk hown
  exact AnyZI.sorted_in Tryz.sorted68 Fence.wide 5 trivial trivial trivial trivial rfl (by omega) (sorts68 _) (enters_of Tryz.func126 (by kernel_rfl) rfl) 127 #[.pointer (some ⟨k, 0, none⟩)] trivial (enters_of Tryz.func127 (by kernel_rfl) rfl) _ _ hmax hbytes _ hseq
theorem sortedk_spec {h : Hp} {K : Value → Hp → Prop} {k b n : Nat} {L : List Ch} (hk : h.cell k 0 = some (.map (some b))) (H : DAt h b L) (ok : DOk n L) (hn : n ≤ 128)
    (hK : ∀ h' a c rs, rs.Perm (L.map (·.1)) → rs.Pairwise (fun x y => x ≤ y) → NewR keyC 1 3 h h' a c rs → K (.slice a rs.length c) h') :
    CallsH Tryz.prog 105 #[.func (.func 127) #[] #[.pointer (some ⟨k, 0, none⟩)]] h K := by
  intro W hW
  obtain ⟨o, hb, M⟩ := H
  obtain ⟨es, clock, rfl, hm2, hst, hok⟩ := M
  have hbW := hW b _ hb
  have hkeys : es.toList.map (·.key) = (L.map (·.1)).map fun i : Nat => Value.int .i64 (i : Nat) := by
    have e1 : es.toList.map (·.key) = (mapD L).map (·.1) := by rw [← hm2, List.map_map]; rfl
    rw [e1]
    unfold mapD
    rw [List.map_map, List.map_map]; rfl
  have hesl : es.size = L.length := by
    have := congrArg List.length hkeys
    simpa using this
  have hlen : L.length ≤ 128 := Nat.le_trans ok.len hn
  have hu : Tryz.prog.underlying 3 = some (.int .i64) := Tryz.underlying3
  have rdk : ∀ x ∈ es.toList, ∃ i : Nat, i < n ∧ x.key = .int .i64 (i : Nat) ∧ WideElems.rd (H := Unit) Tryz.prog 3 (fun _ => some (.nil, [])) x = some (.int .i64 (i : Nat), .nil) := by
    intro x hx
    have : x.key ∈ (L.map (·.1)).map fun i : Nat => Value.int .i64 (i : Nat) := by rw [← hkeys]; exact List.mem_map.2 ⟨x, hx, rfl⟩
    obtain ⟨i, hi, e⟩ := List.mem_map.1 this
    obtain ⟨c, hc, rfl⟩ := List.mem_map.1 hi
    have hin := (ok.mem c hc).1
    refine ⟨c.1, hin, e.symm, ?_⟩
    unfold WideElems.rd
    have hw : (Lit.int .i64 ((c.1 : Nat) : Int)).wf = true := by
      show (decide (IntKind.i64.min ≤ ((c.1 : Nat) : Int)) && decide (((c.1 : Nat) : Int) ≤ IntKind.i64.max)) = true
      have e3 : IntKind.i64.min = -9223372036854775808 := by decide
      have e4 : IntKind.i64.max = 9223372036854775807 := by decide
      rw [decide_eq_true (by omega), decide_eq_true (by omega)]; rfl
    rw [← e, keyOf_int_mk hu hw]; rfl
  have hown : W.ownsMap Tryz.prog 3 (fun _ => some ((.nil : DataW Unit), [])) b es.size (.map ((es.toList.map (WideElems.rg Tryz.prog 3 (fun _ => some (.nil, [])))).foldr DataW.insert [])) :=
    ⟨es, clock, hbW, ⟨by have : (128 : Nat) ≤ maxLen := by decide
                         omega, hst, fun x hx => by obtain ⟨i, _, _, e⟩ := rdk x hx; exact ⟨_, e⟩⟩, Nat.le_refl _, rfl⟩
  have hsk : (intKeys (H := Unit) (.map ((es.toList.map (WideElems.rg Tryz.prog 3 (fun _ => some (.nil, [])))).foldr DataW.insert []))).Perm ((L.map (·.1)).map fun i : Nat => ((i : Nat) : Int)) := by
    refine ((WideShapes.sorted_perm _).map _).trans ?_
    rw [List.map_map]
    have : es.toList.map ((fun p => Go.intOf p.1) ∘ WideElems.rg (H := Unit) Tryz.prog 3 (fun _ => some (.nil, []))) = (L.map (·.1)).map fun i : Nat => ((i : Nat) : Int) := by
      have h2 : es.toList.map ((fun p => Go.intOf p.1) ∘ WideElems.rg (H := Unit) Tryz.prog 3 (fun _ => some (.nil, []))) = (es.toList.map (·.key)).map fun v => match v with
          | .int _ s => s
          | _ => 0 := by
        rw [List.map_map]
        refine List.map_congr_left fun x hx => ?_
        obtain ⟨i, _, e1, e2⟩ := rdk x hx
        show Go.intOf (WideElems.rg Tryz.prog 3 (fun _ => some (.nil, [])) x).1 = _
        unfold WideElems.rg
        rw [e2]
        show ((i : Nat) : Int) = _
        simp only [Function.comp, e1]
      rw [h2, hkeys, List.map_map]; rfl
    rw [this]
  have hlt : k < W.heap.size := by
    unfold Hp.cell at hk
    cases hkk : h k with
    | none => rw [hkk] at hk; cases hk
    | some ob => exact (Array.getElem?_eq_some_iff.1 (hW k ob hkk)).1
  have hcell : W.cell? ⟨k, 0, none⟩ = some (.map (some b)) := by
    unfold Hp.cell at hk
    cases hkk : h k with
    | none => rw [hkk] at hk; cases hk
    | some ob =>
      rw [hkk] at hk
      cases ob with
      | cells c t f =>
        simp only [] at hk
        unfold World.cell?
        simp [hW k _ hkk, hk]
      | _ => cases hk
  have hsize : Maps.size (H := Unit) (.map ((es.toList.map (WideElems.rg Tryz.prog 3 (fun _ => some (.nil, [])))).foldr DataW.insert [])) = L.length := by
    rw [Maps.size_eq, (WideShapes.sorted_perm _).length_eq, List.length_map, Array.length_toList, hesl]
  have hmx : (128 : Nat) * 8 ≤ maxLen := by decide
  refine (callsIn_wide.1 (sortedAt k b _ _ W hlt hcell hown (by rw [hsize]; omega) (by rw [hsize]; omega))).mono fun e w' ⟨v, ss, he, hp, hrow, hnil, bel⟩ => ?_
  have hp' := hp.trans hsk
  have hlen' : ss.length = L.length := by rw [hp'.length_eq, List.length_map, List.length_map]
  have hid : ∀ l : List Nat, (l.map fun i : Nat => ((i : Nat) : Int)).map Int.toNat = l := fun l => by
    rw [List.map_map]
    have : (Int.toNat ∘ fun i : Nat => ((i : Nat) : Int)) = id := funext fun i => by show Int.toNat ((i : Nat) : Int) = i; exact Int.toNat_natCast i
    rw [this, List.map_id]
  have hperm : ((ss.mergeSort (fun x y => decide (x ≤ y))).map Int.toNat).Perm (L.map (·.1)) := by
    have h1 := ((List.mergeSort_perm ss (fun x y => decide (x ≤ y))).trans hp').map Int.toNat
    rw [hid] at h1; exact h1
  have hpos : ∀ x ∈ ss.mergeSort (fun x y => decide (x ≤ y)), 0 ≤ x := fun x hx => by
    have h1 := ((List.mergeSort_perm ss (fun x y => decide (x ≤ y))).trans hp').mem_iff.1 hx
    obtain ⟨i, _, rfl⟩ := List.mem_map.1 h1
    omega
  have hpw : (ss.mergeSort (fun x y => decide (x ≤ y))).Pairwise (fun x y => x ≤ y) := by
    have := List.pairwise_mergeSort (le := fun (x y : Int) => decide (x ≤ y)) (fun a b c h1 h2 => decide_eq_true (Int.le_trans (of_decide_eq_true h1) (of_decide_eq_true h2)))
      (fun a b => by rcases Int.le_total a b with h | h <;> simp [h]) ss
    exact this.imp fun h => of_decide_eq_true h
  have hpw2 : ((ss.mergeSort (fun x y => decide (x ≤ y))).map Int.toNat).Pairwise (fun x y => x ≤ y) := by
    rw [List.pairwise_map]
    exact hpw.imp fun h => by omega
  have hxs : (ss.mergeSort (fun x y => decide (x ≤ y))).map encZ = rowC keyC ((ss.mergeSort (fun x y => decide (x ≤ y))).map Int.toNat) := by
    unfold rowC keyC
    rw [List.flatMap_map]
    generalize ss.mergeSort (fun x y => decide (x ≤ y)) = l at hpos
    induction l with
    | nil => rfl
    | cons x l ih =>
      rw [List.map_cons, List.flatMap_cons, ih fun y hy => hpos y (List.mem_cons_of_mem _ hy)]
      have := hpos x List.mem_cons_self
      show Value.int .i64 x :: _ = [Value.int .i64 ((x.toNat : Nat) : Int)] ++ _
      rw [show ((x.toNat : Nat) : Int) = x by omega]; rfl
  have hml : (ss.mergeSort (fun x y => decide (x ≤ y))).length = ss.length := (List.mergeSort_perm ss _).length_eq
  have hhn : ∀ c, W.heap.size ≤ c → h c = none := fun c hc => by
    cases hh : h c with
    | none => rfl
    | some o => have := (Array.getElem?_eq_some_iff.1 (hW c o hh)).1; omega
  have hWk : ∀ b o, W.heap[b]? = some o → w'.heap[b]? = some o := fun b o e => (bel.block b (Array.getElem?_eq_some_iff.1 e).1).trans e
  obtain ⟨_, ⟨e1, e2⟩ | ⟨g, cap, cur, e1, hg, hcur, hnc, hcm, hcs, htk⟩⟩ := hrow
  · have hss : ss = [] := List.eq_nil_of_length_eq_zero e2
    refine ⟨v, h, he, ?_, fun c o hc => hWk c o (hW c o hc), ⟨bel.os, bel.tape, bel.output, bel.size, fun c o e e' => ⟨hWk c o e, e'⟩⟩⟩
    have := hK h none 0 _ hperm hpw2 (by rw [hss, List.mergeSort_nil]; exact NewR.nil _ _)
    rw [List.length_map, hml, e2] at this
    rw [e1]; exact this
  · have hgn := hhn g hg
    refine ⟨v, h.upd g (.cells cur 3 (0, 0)), he, ?_, fun c o hc => ?_, ⟨bel.os, bel.tape, bel.output, bel.size, fun c o e e' => ⟨hWk c o e, ?_⟩⟩⟩
    · have := hK (h.upd g (.cells cur 3 (0, 0))) (some ⟨g, 0, none⟩) cap _ hperm hpw2 ⟨Sub.upd hgn _, (by rintro b ⟨o, s, e⟩; cases e; exact hgn), by
        refine ⟨by rw [← hxs]; simp [hml], by rw [List.length_map, hml]; exact hnc, .inr ⟨g, cur.toList.drop (ss.length * 1), rfl, ?_, ?_⟩⟩
        · unfold Blk
          rw [Hp.upd_same, ← hxs, ← htk, List.take_append_drop]
        · rw [List.length_drop, List.length_map, hml, Array.length_toList, hcs, Nat.mul_one, Nat.mul_one, Nat.mul_one]⟩
      rw [List.length_map, hml] at this
      rw [e1]; exact this
    · by_cases hcg : c = g
      · subst hcg; rw [Hp.upd_same] at hc; cases hc; exact hcur
      · rw [Hp.upd_ne _ _ hcg] at hc; exact hWk c o (hW c o hc)
    · by_cases hcg : c = g
      · subst hcg; have := (Array.getElem?_eq_some_iff.1 e).1; omega
      · rw [Hp.upd_ne _ _ hcg]; exact e'
end Go.Proofs.YthbogjbcecmopaaGreatDoor
namespace Go.Proofs.YthbogjbcecmopaaGreatDoor
open Go.Gx
set_option maxRecDepth 100000
set_option linter.unusedVariables false

theorem mapM_some {α β : Type} {f : α → Option β} {g : α → β} : ∀ {l : List α}, (∀ x ∈ l, f x = some (g x)) → l.mapM f = some (l.map g)
  | [], _ => rfl
  | x :: l, h => by
    rw [List.mapM_cons, h x List.mem_cons_self, mapM_some fun y hy => h y (List.mem_cons_of_mem _ hy)]; rfl
def headL (s : Nat) (r : Nat → Nat) (u : Nat → Bool) : List Lit := .int .u64 (s : Nat) :: ((List.range 4).map (fun k => Lit.int .i64 (r k : Nat)) ++ (List.range 128).map fun i => Lit.bool (u i))
theorem rowLits {d e n : Nat} {t : TypeId} {cs : List Value} {g : Nat → Lit} (hu : Tryz.prog.underlying t = some (.array n e)) (hl : cs.length = n) (hc : Tryz.prog.cellsOf t = n) (he : Tryz.prog.cellsOf e = 1)
    (hg : ∀ i, i < n → Tryz.prog.keyLits d e ((cs.drop i).take 1) = some [g i]) : Tryz.prog.keyLits (d + 1) t cs = some ((List.range n).map g) := by
  have h1 : (List.range n).mapM (fun i => Tryz.prog.keyLits d e ((cs.drop (i * Tryz.prog.cellsOf e)).take (Tryz.prog.cellsOf e))) = some ((List.range n).map fun i => [g i]) :=
    mapM_some fun i hi => by rw [he, Nat.mul_one]; exact hg i (List.mem_range.1 hi)
  unfold Program.keyLits
  rw [hu]
  simp only [hl, hc, if_true]
  rw [h1]
  show some _ = some _
  congr 1
  induction List.range n with
  | nil => rfl
  | cons x l ih => rw [List.map_cons, List.flatten_cons, ih]; rfl
theorem drop_take_one {cs : List Value} {i : Nat} {v : Value} (h : cs[i]? = some v) : (cs.drop i).take 1 = [v] := by
  rw [List.drop_eq_getElem_cons (List.getElem?_eq_some_iff.1 h).1, (List.getElem?_eq_some_iff.1 h).2]; rfl
theorem head_lits (s : Nat) (r : Nat → Nat) (u : Nat → Bool) (hs : s < 18446744073709551616) (hr : ∀ k, k < 4 → r k < 9223372036854775808) : LitsAre Tryz.prog 83 (headC s r u) (headL s r u) := by
  refine ⟨by rw [headC_len]; kernel_rfl, 3, ?_⟩
  have w64 : (Lit.int .u64 ((s : Nat) : Int)).wf = true := by
    show (decide (IntKind.u64.min ≤ ((s : Nat) : Int)) && decide (((s : Nat) : Int) ≤ IntKind.u64.max)) = true
    have e3 : IntKind.u64.min = 0 := by decide
    have e4 : IntKind.u64.max = 18446744073709551615 := by decide
    rw [decide_eq_true (by omega), decide_eq_true (by omega)]; rfl
  have wr : ∀ k, k < 4 → (Lit.int .i64 ((r k : Nat) : Int)).wf = true := fun k hk => by
    have := hr k hk
    show (decide (IntKind.i64.min ≤ ((r k : Nat) : Int)) && decide (((r k : Nat) : Int) ≤ IntKind.i64.max)) = true
    have e3 : IntKind.i64.min = -9223372036854775808 := by decide
    have e4 : IntKind.i64.max = 9223372036854775807 := by decide
    rw [decide_eq_true (by omega), decide_eq_true (by omega)]; rfl
  have g1 : Tryz.prog.keyLits 2 79 [.int .u64 (s : Nat)] = some [.int .u64 (s : Nat)] := by
    unfold Program.keyLits
    rw [Tryz.underlying79]
    simp only [w64, and_self, if_true]
  have g2 : Tryz.prog.keyLits 2 80 (rootV r) = some ((List.range 4).map fun k => Lit.int .i64 (r k : Nat)) :=
    rowLits (d := 1) (e := 3) Tryz.underlying80 (rootV_len r) (by kernel_rfl) (by kernel_rfl) fun i hi => by
      rw [drop_take_one (rootV_get hi)]
      unfold Program.keyLits
      rw [Tryz.underlying3]
      simp only [wr i hi, and_self, if_true]
  have g3 : Tryz.prog.keyLits 2 81 (usedV u) = some ((List.range 128).map fun i => Lit.bool (u i)) :=
    rowLits (d := 1) (e := 4) Tryz.underlying81 (usedV_len u) (by kernel_rfl) (by kernel_rfl) fun i hi => by
      rw [drop_take_one (usedV_get hi)]
      unfold Program.keyLits
      rw [Tryz.underlying4]
  have c1 : Tryz.prog.cellsOf 79 = 1 := by kernel_rfl
  have c2 : Tryz.prog.cellsOf 80 = 4 := by kernel_rfl
  have c3 : Tryz.prog.cellsOf 81 = 128 := by kernel_rfl
  have c0 : Tryz.prog.cellsOf 83 = 133 := by kernel_rfl
  have d1 : ((headC s r u).drop 0).take 1 = [.int .u64 (s : Nat)] := rfl
  have d2 : ((headC s r u).drop 1).take 4 = rootV r := by
    show (rootV r ++ usedV u).take 4 = _
    rw [List.take_append_of_le_length (by rw [rootV_len]; exact Nat.le_refl _), List.take_of_length_le (by rw [rootV_len]; exact Nat.le_refl _)]
  have d3 : ((headC s r u).drop 5).take 128 = usedV u := by
    show ((rootV r ++ usedV u).drop 4).take 128 = _
    rw [List.drop_append_of_le_length (by rw [rootV_len]; exact Nat.le_refl _), List.drop_of_length_le (by rw [rootV_len]; exact Nat.le_refl _), List.nil_append, List.take_of_length_le (by rw [usedV_len]; exact Nat.le_refl _)]
  unfold Program.keyLits
  rw [Tryz.underlying83]
  simp only [headC_len, c0, true_and]
  rw [if_pos (by kernel_rfl)]
  simp only [List.mapM_cons, List.mapM_nil, c1, c2, c3, d1, d2, d3, g1, g2, g3]
  rfl
def Hd.lits (H : Hd) : List Lit := headL H.s H.r H.u
theorem HdOk.lits {n : Nat} {H : Hd} (O : HdOk n H) : LitsAre Tryz.prog 83 H.c H.lits := head_lits _ _ _ (by have := O.ser; omega) fun k hk => by have := (O.roots k hk).1; omega
def Hd.same (A B : Hd) : Bool := Nat.beq A.s B.s && ((List.range 4).all (fun k => Nat.beq (A.r k) (B.r k)) && (List.range 128).all fun i => A.u i == B.u i)
theorem Hd.same_eq {A B : Hd} : A.same B = true ↔ A.s = B.s ∧ (∀ k, k < 4 → A.r k = B.r k) ∧ ∀ i, i < 128 → A.u i = B.u i := by
  unfold Hd.same
  rw [Bool.and_eq_true, Bool.and_eq_true, List.all_eq_true, List.all_eq_true]
  constructor
  · rintro ⟨h1, h2, h3⟩
    exact ⟨Nat.eq_of_beq_eq_true h1, fun k hk => Nat.eq_of_beq_eq_true (h2 k (List.mem_range.2 hk)), fun i hi => by simpa using h3 i (List.mem_range.2 hi)⟩
  · rintro ⟨h1, h2, h3⟩
    exact ⟨by rw [h1]; exact Nat.beq_refl _, fun k hk => by rw [h2 k (List.mem_range.1 hk)]; exact Nat.beq_refl _, fun i hi => by rw [h3 i (List.mem_range.1 hi)]; simp⟩
theorem Hd.same_lits {A B : Hd} : A.same B = true ↔ A.lits = B.lits := by
  rw [Hd.same_eq]
  unfold Hd.lits headL
  constructor
  · rintro ⟨h1, h2, h3⟩
    rw [h1, List.map_congr_left fun k hk => by rw [h2 k (List.mem_range.1 hk)], List.map_congr_left (l := List.range 128) fun i hi => by rw [h3 i (List.mem_range.1 hi)]]
  · intro h
    rw [List.cons.injEq] at h
    obtain ⟨h1, h2⟩ := h
    obtain ⟨h2, h3⟩ := List.append_inj h2 (by rw [List.length_map, List.length_map])
    rw [List.map_inj_left] at h2 h3
    refine ⟨?_, fun k hk => ?_, fun i hi => ?_⟩
    · cases A; cases B; simp at h1 ⊢; omega
    · have := h2 k (List.mem_range.2 hk); simp at this; omega
    · have := h3 i (List.mem_range.2 hi); simpa using this
theorem Hd.leq {A B : Hd} : leqL A.lits B.lits = A.same B := by
  unfold leqL
  rw [hb_eq]
  cases h : A.same B with
  | true => exact @decide_eq_true _ (Classical.propDecidable _) (Hd.same_lits.1 h)
  | false => exact @decide_eq_false _ (Classical.propDecidable _) fun e => by rw [Hd.same_lits.2 e] at h; cases h
def Pg.diff (P : Pg) (D : Dk) (n i : Nat) : Bool := match dget P.d i with
  | some s => !decide (D.own n i = s)
  | none => false
def Pg.chg (P : Pg) (D : Dk) (n : Nat) : List Nat := (if P.now.same P.good then [] else [0]) ++ (List.range n).filter (P.diff D n)
theorem keys_eq {n : Nat} {L : List Ch} (ok : DOk n L) {rs : List Nat} (hp : rs.Perm (L.map (·.1))) (hs : rs.Pairwise (fun x y => x ≤ y)) : rs = (List.range n).filter fun i => (dget L i).isSome := by
  have hnd : rs.Nodup := hp.nodup_iff.2 ok.nd
  have h1 : ((List.range n).filter fun i => (dget L i).isSome).Pairwise (fun x y => x ≤ y) := (List.pairwise_lt_range.imp fun h => Nat.le_of_lt h).sublist List.filter_sublist
  refine List.Perm.eq_of_pairwise (le := fun x y => x ≤ y) (fun a b _ _ h1 h2 => Nat.le_antisymm h1 h2) hs h1 ?_
  refine (List.perm_ext_iff_of_nodup hnd (List.nodup_range.sublist List.filter_sublist)).2 fun a => ?_
  rw [hp.mem_iff, List.mem_filter, List.mem_range]
  constructor
  · intro h
    obtain ⟨e, he, rfl⟩ := List.mem_map.1 h
    exact ⟨(ok.mem e he).1, by rw [mem_dget ok.nd (i := e.1) (s := e.2) he]; rfl⟩
  · rintro ⟨_, h⟩
    obtain ⟨s, hs⟩ := Option.isSome_iff_exists.1 h
    exact List.mem_map.2 ⟨_, dget_mem hs, rfl⟩
theorem diff_some {P : Pg} {D : Dk} {n i : Nat} (h : P.diff D n i = true) : ∃ s, dget P.d i = some s ∧ D.own n i ≠ s := by
  unfold Pg.diff at h
  cases e : dget P.d i with
  | none => rw [e] at h; cases h
  | some s => rw [e] at h; exact ⟨s, rfl, by simpa using h⟩
theorem filter_keys {P : Pg} {D : Dk} {n : Nat} : ((List.range n).filter fun i => (dget P.d i).isSome).filter (P.diff D n) = (List.range n).filter (P.diff D n) := by
  rw [List.filter_filter]
  refine List.filter_congr fun i _ => ?_
  cases h : P.diff D n i with
  | false => rfl
  | true => obtain ⟨s, hs, _⟩ := diff_some h; rw [hs]; rfl
end Go.Proofs.YthbogjbcecmopaaGreatDoor
namespace Go.Proofs.YthbogjbcecmopaaGreatDoor
open Go.Gx
set_option maxRecDepth 100000
set_option linter.unusedVariables false

variable {h : Hp} {pb jb db n : Nat} {S : Nat → Prop} {D : Dk} {P : Pg} {K : Value → Hp → Prop}
def Pg.write (P : Pg) (i : Nat) (s : ByteArray) : Pg := { P with d := dset P.d i s }
def Pg.point (P : Pg) (k i : Nat) : Pg := { P with now := { P.now with r := upR P.now.r k i } }
def Pg.save (P : Pg) : Pg := { P with pts := P.pts ++ [(P.now, P.d)] }
def Pg.back (P : Pg) (k : Nat) (q : Hd × List Ch) : Pg := { P with now := q.1, d := q.2, pts := P.pts.take k }
def Pg.reset (g : Hd) : Pg := ⟨g, g, [], []⟩
def Pg.freeN (P : Pg) (j : Nat) : Nat := ((List.range j).filter fun i => !P.now.u i).length
theorem freeN_step (P : Pg) (j : Nat) : P.freeN (j + 1) = P.freeN j + (if P.now.u j then 0 else 1) := by
  unfold Pg.freeN
  rw [List.range_succ, List.filter_append, List.length_append]
  cases h : P.now.u j
  · rw [List.filter_cons_of_pos (by rw [h]; rfl)]; rfl
  · rw [List.filter_cons_of_neg (by rw [h]; simp)]; rfl
theorem freeN_le (P : Pg) (j : Nat) : P.freeN j ≤ j := by
  unfold Pg.freeN
  exact Nat.le_trans (List.length_filter_le _ _) (by rw [List.length_range]; exact Nat.le_refl _)
theorem free_spec (E : PgAt h pb jb db S n D P) (hK : K (.int .i64 (P.freeN n : Nat)) h) : CallsH Tryz.prog pager_Pager_Free.id #[.pointer (some ⟨pb, 0, none⟩)] h K := by
  have hn := E.n2
  apply pager_Pager_Free.calls
  unfold pager_Pager_Free.W
  refine pages_spec E ⟨_, rfl, fun c i x m => ∃ j : Nat, i = (j : Int) ∧ j ≤ n ∧ m = n - j ∧ x = h ∧ c = (P.freeN j : Nat), ⟨_, 0, rfl, Nat.zero_le _, rfl, rfl, rfl⟩, ?_⟩
  rintro c i x m ⟨j, rfl, hj, rfl, rfl, rfl⟩
  have hle := freeN_le P j
  refine split_dec (fun g => ?_) fun g => ?_
  · have g : j < n := by have : (j : Int) < (n : Int) := g; omega
    have idx : 0 + 134 + 5 + (j : Int).toNat * 1 = 134 + 5 + j := by rw [Int.toNat_natCast]; omega
    obtain ⟨S0, mb, pa, pc, Q, e⟩ := E.ex
    have hs := freeN_step P j
    refine ⟨by omega, by omega, _, by rw [idx]; exact e.blk.cell' _ (pgC_used (by omega)), split_not (fun eu => ⟨n - (j + 1), by omega, j + 1, ?_, by omega, rfl, rfl, ?_⟩) fun eu => ⟨n - (j + 1), by omega, j + 1, ?_, by omega, rfl, rfl, ?_⟩⟩
    · rw [wid (by omega) (by omega)]; omega
    · rw [hs, eu, wid (by omega) (by omega)]
      show ((P.freeN j : Nat) : Int) + 1 = ((P.freeN j + 1 : Nat) : Int)
      omega
    · rw [wid (by omega) (by omega)]; omega
    · rw [hs, eu]; rfl
  · have : j = n := by
      have : ¬ (j : Int) < (n : Int) := g
      omega
    subst this
    exact hK
theorem pwrite_spec (E : PgAt h pb jb db S n D P) (i : Int) (s : ByteArray) (hF : P.why n i ≠ 0 → K (.int .i64 (P.why n i)) h) (hL : P.why n i = 0 → s.size ≠ 1024 → K (.int .i64 1) h)
    (hG : ∀ k : Nat, i = (k : Int) → P.why n i = 0 → s.size = 1024 → ∀ h', PgAt h' pb jb db S n D (P.write k s) → Step S h S h' → K (.int .i64 0) h') :
    CallsH Tryz.prog pager_Pager_Write.id #[.pointer (some ⟨pb, 0, none⟩), .int .i64 i, .string s] h K := by
  apply pager_Pager_Write.calls
  unfold pager_Pager_Write.W
  refine puse_spec E i ⟨_, rfl, split_ne (fun e => hF e) fun e0 => split_ne (fun e => hL e0 fun e' => e (by show (s.size : Int) = 1024; omega)) fun e => ?_⟩
  have hs : s.size = 1024 := by
    have : (s.size : Int) = 1024 := e
    omega
  obtain ⟨j, rfl, h1, h2, h3⟩ := why_ok e0
  obtain ⟨S0, mb, pa, pc, Q, e⟩ := E.ex
  obtain ⟨o, ho, hm⟩ := e.d
  have hmpb : mb ≠ pb := e.d.ne e.blk
  refine ⟨_, by rw [Nat.zero_add]; exact e.blk.cell' _ pgC_map, mb, o, mapD P.d, rfl, ho, hm, fun o' hm' => ?_⟩
  rw [mapD_set] at hm'
  obtain ⟨e', st⟩ := e.put (now' := P.now) (d' := dset P.d j s) (Keep.upd o' (.inl (.inr rfl))) (by
    have := e.blk
    unfold Blk at this ⊢
    rw [Hp.upd_ne _ _ (Ne.symm hmpb)]; exact this) ⟨o', Hp.upd_same _ _ _, hm'⟩
  exact hG j rfl e0 hs _ ⟨⟨S0, mb, pa, pc, Q, e'⟩, E.ok.put E.ok.now (E.ok.d.set h1 h2 hs), E.up⟩ st
theorem HdOk.point {n : Nat} {H : Hd} (O : HdOk n H) {k i : Nat} (hi : i < 128) (hu : i ≠ 0 → H.u i = true) : HdOk n { H with r := upR H.r k i } := by
  refine ⟨O.below, fun t ht => ?_, O.zero, O.ser⟩
  show upR H.r k i t < 128 ∧ (upR H.r k i t ≠ 0 → H.u (upR H.r k i t) = true)
  unfold upR
  by_cases e : t = k
  · rw [if_pos e]; exact ⟨hi, hu⟩
  · rw [if_neg e]; exact O.roots t ht
theorem PgEx.fresh {S0 : Nat → Prop} {mb : Nat} {pa : Option Addr} {pc : Nat} {Q : List Pt} (E : PgEx h pb jb db S S0 n D P mb pa pc Q) {h' : Hp} {k : Nat} {g n' : Hd} (hk : h k = none) (kp : Keep (fun c => c = pb) h h')
    (B : Blk h' pb 87 (pgC jb g n' k none 0 0)) (Dm : DAt h' k []) :
    PgEx h' pb jb db (fun c => c = pb ∨ c = k ∨ S0 c) S0 n D ⟨g, n', [], []⟩ k none 0 [] ∧ Step S h (fun c => c = pb ∨ c = k ∨ S0 c) h' := by
  refine ⟨⟨B, E.j.out kp fun c hc e => E.n1 (e ▸ hc), Dm, OwnR.nil _ _, (fun q hq => by cases hq), rfl, E.n1, fun hc => E.j.in_heap hc hk, (fun q hq => by cases hq), (fun c hc => by obtain ⟨o, s, e⟩ := hc; cases e), by simp, fun c => ⟨?_, ?_⟩⟩, kp.mono fun c e => (E.s c).2 (.inl e), ?_⟩
  · rintro (h' | h' | h')
    · exact .inl h'
    · exact .inr (.inl h')
    · exact .inr (.inr (.inl h'))
  · rintro (h' | h' | h' | ⟨o, s, e⟩ | ⟨q, hq, _⟩)
    · exact .inl h'
    · exact .inr (.inl h')
    · exact .inr (.inr h')
    · cases e
    · cases hq
  · rintro c (rfl | rfl | hc)
    · exact .inl ((E.s _).2 (.inl rfl))
    · exact .inr hk
    · exact .inl ((E.s _).2 (.inr (.inr (.inl hc))))
theorem POk.reset {g : Hd} (h : HdOk n g) : POk n (Pg.reset g) := ⟨h, h, DOk.nil n, (fun q hq => by cases hq), Nat.zero_le _⟩
theorem abort_spec (E : PgAt h pb jb db S n D P) (hK : ∀ h' S', PgAt h' pb jb db S' n D (Pg.reset P.good) → Step S h S' h' → K (.tuple #[]) h') : CallsH Tryz.prog pager_Pager_Abort.id #[.pointer (some ⟨pb, 0, none⟩)] h K := by
  apply pager_Pager_Abort.calls
  unfold pager_Pager_Abort.W
  obtain ⟨S0, mb, pa, pc, Q, e⟩ := E.ex
  refine ⟨_, e.blk.cell' 0 pgC_0, jread_spec (i := 0) e.j (by have := e.j.n1; omega) E.up fun h3 s3 => ⟨_, _, rfl, split_eq (fun _ => ?_) fun e => absurd rfl e⟩⟩
  have e3 := e.sub s3
  refine ⟨P.good.c, P.good.len, e3.blk.cellsAt fun i hi => by rw [Nat.zero_add]; exact pgC_good (by rw [P.good.len] at hi; exact hi), fun k7 hk7 o8 m8 => ⟨P.good.len, P.good.plain, ?_⟩⟩
  have s7 := Sub.upd hk7 o8
  have B0 := e3.blk.sub s7
  have B1 := B0.put 134 P.good.c
  rw [pgC_setNow] at B1
  have B2 := B1.put 267 [.map (some k7)]
  rw [pgC_setMap] at B2
  have B3 := B2.put 268 [.slice none 0 0]
  rw [pgC_setPts] at B3
  have hne : k7 ≠ pb := fun e' => by have := e3.blk; unfold Blk at this; rw [← e', hk7] at this; cases this
  have kp : ∀ (z : Hp) (o : Nat) (vs : List Value), Keep (fun c => c = pb) z (z.put pb o vs) := fun z o vs => Keep.put _ z o vs rfl
  have k3 := ((s7.keep (fun c => c = pb)).trans (kp _ 134 P.good.c)).trans ((kp _ 267 [.map (some k7)]).trans (kp _ 268 [.slice none 0 0]))
  obtain ⟨e', st⟩ := e3.fresh hk7 k3 B3 ⟨o8, by rw [put_ne _ _ _ hne, put_ne _ _ _ hne, put_ne _ _ _ hne, Hp.upd_same], m8⟩
  refine ⟨?_, ?_, ?_, hK _ _ ⟨⟨S0, k7, none, 0, [], e'⟩, POk.reset E.ok.good, E.up⟩ ((Step.sub s3).trans st)⟩
  · rw [P.good.len]; exact B0.store (by rw [pgC_len]; decide)
  · exact B1.store (by rw [pgC_len]; decide)
  · exact B2.store (by rw [pgC_len]; decide)
theorem appTPt : AppT Tryz.prog 139 134 176 := AppT.of (by kernel_rfl)
theorem z125 : zeroL Tryz.prog 139 = headC 0 (fun _ => 0) (fun _ => false) ++ [.map none] := by kernel_rfl
theorem ptMake (q : Pt) : setL (zeroRow Tryz.prog 139 1) 0 (setL (setL (zeroL Tryz.prog 139) 0 q.h.c) 133 [.map (some q.m)]) = ptC q := by
  have l0 := headC_len 0 (fun _ => 0) (fun _ => false)
  have e1 : setL (setL (zeroL Tryz.prog 139) 0 q.h.c) 133 [.map (some q.m)] = ptC q := by
    rw [z125, setL_left _ _ _ _ (by rw [q.h.len, l0]; decide), setL_all (by rw [q.h.len, l0]), show (133 : Nat) = q.h.c.length + 0 by rw [q.h.len], setL_right]; rfl
  rw [e1, setL_all]
  rw [ptC_len]
  unfold zeroRow
  rw [z125]
  show _ = (headC 0 (fun _ => 0) (fun _ => false) ++ [Value.map none] ++ []).length
  rw [List.append_nil, List.length_append, l0]; rfl
set_option maxHeartbeats 1000000 in
theorem save_spec (E : PgAt h pb jb db S n D P) (hF : P.pts.length = 16 → K (.tuple #[.int .i64 0, .int .i64 5]) h)
    (hG : P.pts.length < 16 → ∀ h' S', PgAt h' pb jb db S' n D P.save → Step S h S' h' → K (.tuple #[.int .i64 (P.pts.length : Nat), .int .i64 0]) h') :
    CallsH Tryz.prog pager_Pager_Save.id #[.pointer (some ⟨pb, 0, none⟩)] h K := by
  apply pager_Pager_Save.calls
  unfold pager_Pager_Save.W
  obtain ⟨S0, mb, pa, pc, Q, e⟩ := E.ex
  have hQ : Q.length = P.pts.length := by rw [← e.pts, List.length_map]
  have few := E.ok.few
  refine ⟨_, _, _, by rw [Nat.zero_add]; exact e.blk.cell' _ pgC_pts, split_eq (fun g => hF (by have : (Q.length : Int) = 16 := g; omega)) fun g => ?_⟩
  have g : P.pts.length < 16 := by
    have : ¬ (Q.length : Int) = 16 := g
    omega
  refine ⟨_, _, _, by rw [Nat.zero_add]; exact e.blk.cell' _ pgC_pts, P.now.c, P.now.len, e.blk.cellsAt fun i hi => by rw [Nat.zero_add]; exact pgC_now (by rw [P.now.len] at hi; exact hi), _, by rw [Nat.zero_add]; exact e.blk.cell' _ pgC_map, ?_⟩
  refine clone_spec e.d fun k o hk Dk => ⟨_, rfl, Sub.upd hk o, P.now.len, rfl, ?_⟩
  generalize eh : h.upd k o = h10 at Dk
  have s10 : Sub h h10 := by rw [← eh]; exact Sub.upd hk o
  rw [ptMake ⟨P.now, k, P.d⟩]
  refine ⟨by
    have l0 := headC_len 0 (fun _ => 0) (fun _ => false)
    rw [setL_len, setL_len, z125, List.length_append, l0]; rfl, fun k12 hk12 => ?_⟩
  have s12 := Sub.upd hk12 (.cells (ptC ⟨P.now, k, P.d⟩).toArray 139 (0, 0))
  generalize ey : h10.upd k12 (.cells (ptC ⟨P.now, k, P.d⟩).toArray 139 (0, 0)) = y12 at s12
  have B12 : Blk y12 k12 139 (ptC ⟨P.now, k, P.d⟩) := by rw [← ey]; exact Blk.new _ _ _ _
  have s0 := s10.trans s12
  have e12 := e.sub s0
  refine ⟨s0, _, B12.slice (ptC_len _), fun a' c' y => OwnR ptC 134 y 139 a' c' (Q ++ [⟨P.now, k, P.d⟩]) ∧ Keep (blkOf pa) y12 y ∧ ∀ b, blkOf a' b → blkOf pa b ∨ y12 b = none, ?_, ?_⟩
  rotate_left
  · refine append_ownR appTPt ptC_len ptC_plain (M := [⟨P.now, k, P.d⟩]) e12.own rfl rfl (rowC_one _).symm (by rw [hQ]; show (2 * (P.pts.length + 1) + 768) * 176 ≤ _; omega) fun a' c' h' o1 o2 o3 => ⟨o1, o2, o3⟩
  rintro a' c' y ⟨o1, o2, o3⟩
  have hkpb : k ≠ pb := fun e' => by have := e.blk; unfold Blk at this; rw [← e', hk] at this; cases this
  have notPa : ∀ c, h c = none → ¬ blkOf pa c := fun c hc hb => Own.in_heap e.own hb hc
  have By : Blk y pb 87 (pgC jb P.good P.now mb pa Q.length pc) := e12.blk.keep o2 fun hb => (e.n4 _ hb).2 rfl
  have Bz := By.put 268 [.slice a' (Q.length + 1) c']
  rw [pgC_setPts] at Bz
  have kz : Keep (fun c => c = pb) y (y.put pb 268 [.slice a' (Q.length + 1) c']) := Keep.put _ y _ _ rfl
  have ha : ∀ c, blkOf a' c → blkOf pa c ∨ h c = none := fun c hc => (o3 c hc).imp id fun h' => s0.none h'
  have hapb : ∀ c, blkOf a' c → c ≠ pb := fun c hc e' => by
    rcases ha c hc with h' | h'
    · exact (e.n4 c h').2 e'
    · have := e.blk; unfold Blk at this; rw [← e', h'] at this; cases this
  refine ⟨By.store (by rw [pgC_len]; decide), _, _, _, by rw [Nat.zero_add]; exact Bz.cell' _ pgC_pts, ?_⟩
  have ew : IntKind.i64.wrap (((Q.length + 1 : Nat) : Int) - 1) = (P.pts.length : Nat) := by rw [wid (by omega) (by omega)]; omega
  show K (.tuple #[.int .i64 (IntKind.i64.wrap (((Q.length + 1 : Nat) : Int) - 1)), .int .i64 0]) _
  rw [ew]
  rw [Nat.zero_add]
  have dk : ∀ {c : Nat} {L : List Ch}, DAt y12 c L → ¬ blkOf pa c → c ≠ pb → DAt (y.put pb 268 [.slice a' (Q.length + 1) c']) c L := fun H h1 h2 => (H.keep o2 h1).keep kz h2
  refine hG g _ (fun c => c = pb ∨ c = mb ∨ S0 c ∨ blkOf a' c ∨ ∃ q ∈ Q ++ [⟨P.now, k, P.d⟩], q.m = c) ⟨⟨S0, mb, a', c', Q ++ [⟨P.now, k, P.d⟩], ⟨?_, ?_, ?_, ?_, ?_, ?_, e.n1, e.n2, ?_, ?_, ?_, ?_⟩⟩, ⟨E.ok.good, E.ok.now, E.ok.d, ?_, ?_⟩, E.up⟩ ⟨?_, ?_⟩
  · rw [List.length_append]; exact Bz
  · exact (e12.j.out o2 fun c hc hb => (e.n4 c hb).1 hc).out kz fun c hc e' => e.n1 (e' ▸ hc)
  · exact dk e12.d (fun hb => e.d.ne_own e.own hb rfl) (e.d.ne e.blk)
  · exact o1.keep kz hapb
  · intro q hq
    rcases List.mem_append.1 hq with hq | hq
    · exact dk (e12.ds q hq) (fun hb => (e.ds q hq).ne_own e.own hb rfl) ((e.ds q hq).ne e.blk)
    · rw [List.mem_singleton.1 hq]
      exact dk (Dk.sub s12) (notPa k hk) hkpb
  · rw [List.map_append, e.pts]; rfl
  · intro q hq
    rcases List.mem_append.1 hq with hq | hq
    · exact e.n3 q hq
    · rw [List.mem_singleton.1 hq]; exact fun hc => e.j.in_heap hc hk
  · intro c hc
    refine ⟨fun hS => ?_, hapb c hc⟩
    rcases ha c hc with h' | h'
    · exact (e.n4 c h').1 hS
    · exact e.j.in_heap hS h'
  · rw [List.map_append, ← List.cons_append]
    rw [List.nodup_append]
    refine ⟨e.n5, by simp, fun a ha b hb => ?_⟩
    have hb : b = k := by simpa using hb
    rw [hb]
    rintro rfl
    rcases List.mem_cons.1 ha with h' | h'
    · obtain ⟨o', ho', _⟩ := e.d
      rw [← h', hk] at ho'; cases ho'
    · obtain ⟨q, hq, h'⟩ := List.mem_map.1 h'
      obtain ⟨o', ho', _⟩ := e.ds q hq
      rw [h', hk] at ho'; cases ho'
  · exact fun c => Iff.rfl
  · intro q hq
    rcases List.mem_append.1 hq with hq | hq
    · exact E.ok.pts q hq
    · rw [List.mem_singleton.1 hq]; exact ⟨E.ok.now, E.ok.d⟩
  · show (P.pts ++ _).length ≤ 16
    rw [List.length_append]; show P.pts.length + 1 ≤ 16; omega
  · exact ((s0.keep S).trans (o2.mono fun c hc => (e.s c).2 (.inr (.inr (.inr (.inl hc)))))).trans (kz.mono fun c hc => (e.s c).2 (.inl hc))
  · rintro c (h' | h' | h' | h' | ⟨q, hq, h'⟩)
    · exact .inl ((e.s c).2 (.inl h'))
    · exact .inl ((e.s c).2 (.inr (.inl h')))
    · exact .inl ((e.s c).2 (.inr (.inr (.inl h'))))
    · exact (ha c h').imp (fun h2 => (e.s c).2 (.inr (.inr (.inr (.inl h2))))) id
    · rcases List.mem_append.1 hq with hq | hq
      · exact .inl ((e.s c).2 (.inr (.inr (.inr (.inr ⟨q, hq, h'⟩)))))
      · rw [List.mem_singleton.1 hq] at h'
        exact .inr (by rw [← h']; exact hk)
theorem slA_zero (m s : Nat) (a : Option Addr) : slA m 0 s a = a := by
  unfold slA
  split
  · rfl
  · cases a with
    | none => rfl
    | some a => obtain ⟨b, o, sp⟩ := a; rw [Nat.zero_mul]; rfl
set_option maxHeartbeats 1000000 in
theorem back_spec (E : PgAt h pb jb db S n D P) (i : Int) (hF : (i < 0 ∨ i ≥ (P.pts.length : Int)) → K (.int .i64 6) h)
    (hG : ∀ (k : Nat) q, i = (k : Int) → P.pts[k]? = some q → ∀ h' S', PgAt h' pb jb db S' n D (P.back k q) → Step S h S' h' → K (.int .i64 0) h') :
    CallsH Tryz.prog pager_Pager_Back.id #[.pointer (some ⟨pb, 0, none⟩), .int .i64 i] h K := by
  apply pager_Pager_Back.calls
  unfold pager_Pager_Back.W
  obtain ⟨S0, mb, pa, pc, Q, e⟩ := E.ex
  have hQ : Q.length = P.pts.length := by rw [← e.pts, List.length_map]
  refine split_dec (fun g => hF (.inl g)) fun g0 => ⟨_, _, _, by rw [Nat.zero_add]; exact e.blk.cell' _ pgC_pts, split_dec (fun g => hF (.inr (by have : i ≥ (Q.length : Int) := g; omega))) fun g1 => ?_⟩
  obtain ⟨k, rfl⟩ : ∃ k : Nat, i = (k : Int) := ⟨i.toNat, by omega⟩
  have hk : k < Q.length := by
    have : ¬ (k : Int) ≥ (Q.length : Int) := g1
    omega
  have hq : Q[k]? = some Q[k] := List.getElem?_eq_getElem hk
  generalize Q[k] = q at hq
  have hqm : q ∈ Q := List.mem_of_getElem? hq
  have hpt : P.pts[k]? = some (q.h, q.d) := by rw [← e.pts, List.getElem?_map, hq]; rfl
  obtain ⟨b, o, ea, hc⟩ := e.own.row.get ptC_len (by decide) hq
  have hcl : ∀ i, i < 133 → (ptC q)[i]? = q.h.c[i]? := fun i hi => by unfold ptC; rw [List.getElem?_append_left (by rw [q.h.len]; exact hi)]
  have hcm : (ptC q)[133]? = some (.map (some q.m)) := by
    unfold ptC
    rw [List.getElem?_append_right (by rw [q.h.len]; decide), q.h.len]; rfl
  have B1 := e.blk.put 134 q.h.c
  rw [pgC_setNow] at B1
  have B2 := B1.put 267 [.map (some q.m)]
  rw [pgC_setMap] at B2
  have B3 := B2.put 268 [.slice pa k pc]
  rw [pgC_setPts] at B3
  have kp : ∀ (z : Hp) (o : Nat) (vs : List Value), Keep (fun c => c = pb) z (z.put pb o vs) := fun z o vs => Keep.put _ z o vs rfl
  have k3 := (kp h 134 q.h.c).trans ((kp _ 267 [.map (some q.m)]).trans (kp _ 268 [.slice pa k pc]))
  have own' : OwnR ptC 134 h 139 pa pc (Q.take k) := by
    unfold OwnR
    rw [List.length_take, Nat.min_eq_left (Nat.le_of_lt hk), ← rowC_take ptC_len]
    exact Own.take e.own (Nat.le_of_lt hk)
  have tk : ∀ x ∈ Q.take k, x ∈ Q := fun x hx => List.mem_of_mem_take hx
  have hidx : (k : Int).toNat = k := Int.toNat_natCast k
  refine ⟨_, _, _, by rw [Nat.zero_add]; exact e.blk.cell' _ pgC_pts, by omega, by show (k : Int) < (Q.length : Int); omega, b, o, ea, q.h.c, q.h.len, ?_, _, _, _, by rw [Nat.zero_add]; exact e.blk.cell' _ pgC_pts, by omega, by show (k : Int) < (Q.length : Int); omega, b, o, ea, _, ?_, q.h.len, q.h.plain, ?_, ?_, _, _, _, by rw [Nat.zero_add, Nat.zero_add]; exact B2.cell' _ pgC_pts, by omega, ?_, ?_, ?_⟩
  · rw [hidx]
    intro i hi
    have hi' : i < 133 := by rw [q.h.len] at hi; exact hi
    exact hc i _ (by rw [hcl i hi', List.getElem?_eq_getElem hi])
  · rw [hidx]; exact hc 133 _ hcm
  · rw [q.h.len]; exact e.blk.store (by rw [pgC_len]; decide)
  · rw [Nat.zero_add]; exact B1.store (by rw [pgC_len]; decide)
  · have := e.own.le
    show (k : Int) ≤ (pc : Int)
    omega
  · rw [Nat.zero_add, Nat.zero_add]; exact B2.store (by rw [pgC_len]; decide)
  · rw [slA_zero, hidx, Nat.zero_add, Nat.zero_add, Nat.zero_add]
    have hm2 : mb ∉ Q.map (·.m) ∧ (Q.map (·.m)).Nodup := List.nodup_cons.1 e.n5
    refine hG k (q.h, q.d) rfl hpt _ (fun c => c = pb ∨ c = q.m ∨ S0 c ∨ blkOf pa c ∨ ∃ x ∈ Q.take k, x.m = c) ⟨⟨S0, q.m, pa, pc, Q.take k, ⟨?_, e.j.out k3 fun c hc e' => e.n1 (e' ▸ hc), (e.ds q hqm).keep k3 ((e.ds q hqm).ne e.blk), own'.keep k3 fun c hc => (e.n4 c hc).2, fun x hx => (e.ds x (tk x hx)).keep k3 ((e.ds x (tk x hx)).ne e.blk), ?_, e.n1, e.n3 q hqm, fun x hx => e.n3 x (tk x hx), e.n4, ?_, fun c => Iff.rfl⟩⟩, ⟨E.ok.good, (E.ok.pts (q.h, q.d) (List.mem_of_getElem? hpt)).1, (E.ok.pts (q.h, q.d) (List.mem_of_getElem? hpt)).2, fun x hx => E.ok.pts x (List.mem_of_mem_take hx), ?_⟩, E.up⟩ ⟨k3.mono fun c hc => (e.s c).2 (.inl hc), ?_⟩
    · rw [List.length_take, Nat.min_eq_left (Nat.le_of_lt hk)]; exact B3
    · show (Q.take k).map _ = P.pts.take k
      rw [List.map_take, e.pts]
    · have hd : Q = Q.take k ++ q :: Q.drop (k + 1) := by
        have h2 := (List.getElem?_eq_some_iff.1 hq).2
        rw [← h2, ← List.drop_eq_getElem_cons, List.take_append_drop]
      have := hm2.2
      rw [hd, List.map_append, List.map_cons, List.nodup_append] at this
      refine List.nodup_cons.2 ⟨fun hx => this.2.2 _ hx _ List.mem_cons_self rfl, this.1⟩
    · have := E.ok.few
      show (P.pts.take k).length ≤ 16
      rw [List.length_take]; omega
    · rintro c (h' | h' | h' | h' | ⟨x, hx, h'⟩)
      · exact .inl ((e.s c).2 (.inl h'))
      · exact .inl ((e.s c).2 (.inr (.inr (.inr (.inr ⟨q, hqm, h'.symm⟩)))))
      · exact .inl ((e.s c).2 (.inr (.inr (.inl h'))))
      · exact .inl ((e.s c).2 (.inr (.inr (.inr (.inl h')))))
      · exact .inl ((e.s c).2 (.inr (.inr (.inr (.inr ⟨x, tk x hx, h'⟩)))))
end Go.Proofs.YthbogjbcecmopaaGreatDoor
namespace Go.Proofs.YthbogjbcecmopaaGreatDoor
open Go.Gx
set_option maxRecDepth 100000
set_option linter.unusedVariables false

variable {h : Hp} {pb jb db n : Nat} {S : Nat → Prop} {D : Dk} {P : Pg} {K : Value → Hp → Prop}
theorem appTInt : AppT Tryz.prog 3 1 8 := AppT.of (by kernel_rfl)
def Pg.hd0 (P : Pg) : List Nat := if P.now.same P.good then [] else [0]
set_option maxHeartbeats 1000000 in
theorem changed_spec (E : PgAt h pb jb db S n D P) (hK : ∀ h' a c, NewR keyC 1 3 h h' a c (P.chg D n) → K (.slice a (P.chg D n).length c) h') :
    CallsH Tryz.prog pager_Pager_Changed.id #[.pointer (some ⟨pb, 0, none⟩)] h K := by
  have hn := E.n2
  apply pager_Pager_Changed.calls
  unfold pager_Pager_Changed.W
  obtain ⟨S0, mb, pa, pc, Q, e⟩ := E.ex
  have hl0 : P.hd0.length ≤ 1 := by unfold Pg.hd0; split <;> decide
  refine ⟨fun a l c x => NewR keyC 1 3 h x a c P.hd0 ∧ l = P.hd0.length, ?_, P.now.c, P.now.len, e.blk.cellsAt fun i hi => by rw [Nat.zero_add]; exact pgC_now (by rw [P.now.len] at hi; exact hi), P.good.c, P.good.len, e.blk.cellsAt fun i hi => by rw [Nat.zero_add]; exact pgC_good (by rw [P.good.len] at hi; exact hi), P.now.lits, P.good.lits, E.ok.now.lits, E.ok.good.lits, ?_⟩
  rotate_left
  · rw [Hd.leq]
    refine split_not (fun es => fun k hk => ?_) fun es => ?_
    · have es : P.now.same P.good = false := es
      have B := Blk.new h k 3 (keyC 0)
      have s1 := Sub.upd hk (.cells (keyC 0).toArray 3 (0, 0))
      exact ⟨_, B.slice rfl, fun a' c' y => NewR keyC 1 3 h y a' c' P.hd0, fun a' c' y N => ⟨N, by unfold Pg.hd0; rw [es]; rfl⟩, append_row appTInt keyC_len keyC_plain (M := [0]) ((NewR.nil 3 h).upd s1) rfl rfl rfl (by decide) fun a' c' y N => by unfold Pg.hd0; rw [es]; exact N⟩
    · have es : P.now.same P.good = true := es
      exact ⟨by unfold Pg.hd0; rw [es]; exact NewR.nil 3 h, by unfold Pg.hd0; rw [es]; rfl⟩
  rintro a l c x ⟨N, rfl⟩
  have ex := e.sub N.sub
  refine ⟨_, by rw [Nat.zero_add]; exact ex.blk.cell' _ pgC_map, mkeys_spec fun k hk => ⟨_, rfl, ?_⟩⟩
  have s8 := Sub.upd hk (.cells #[.map (some mb)] 84 (0, 0))
  have N8 := N.upd s8
  have e8 := ex.sub s8
  refine sortedk_spec ((Blk.new x k 84 [.map (some mb)]).cell' 0 rfl) e8.d E.ok.d hn fun h11 ka kc ks hp hs NK => ?_
  have hks := keys_eq E.ok.d hp hs
  have hkl : ks.length ≤ 128 := by
    rw [hp.length_eq, List.length_map]
    exact Nat.le_trans E.ok.d.len hn
  have NB := N8.upd NK.sub
  have eB := e8.sub NK.sub
  refine ⟨_, _, _, rfl, fun a l c i y m => ∃ j : Nat, i = (j : Int) ∧ j ≤ ks.length ∧ m = ks.length - j ∧ (OwnR keyC 1 y 3 ka kc ks ∧ ∀ b, blkOf ka b → ¬ blkOf a b) ∧ NewR keyC 1 3 h y a c (P.hd0 ++ (ks.take j).filter (P.diff D n)) ∧ l = (P.hd0 ++ (ks.take j).filter (P.diff D n)).length, ⟨_, 0, rfl, Nat.zero_le _, rfl, ⟨NK.own, fun b hb hb' => ?_⟩, ?_, ?_⟩, ?_⟩
  · exact Own.in_heap N8.own hb' (NK.new b hb)
  · rw [List.take_zero, List.filter_nil, List.append_nil]; exact NB
  · rw [List.take_zero, List.filter_nil, List.append_nil]
  rintro a l c i y m ⟨j, rfl, hj, rfl, ⟨OK, dj⟩, Ny, rfl⟩
  have ey := e.sub Ny.sub
  refine split_dec (fun g => ?_) fun g => ?_
  · have g : j < ks.length := by have : (j : Int) < (ks.length : Int) := g; omega
    obtain ⟨p, hpj⟩ : ∃ p, ks[j]? = some p := ⟨_, List.getElem?_eq_getElem g⟩
    have hpm : p ∈ ks := List.mem_of_getElem? hpj
    have hpn : p < n ∧ (dget P.d p).isSome = true := by
      rw [hks, List.mem_filter, List.mem_range] at hpm; exact hpm
    obtain ⟨s, hsd⟩ := Option.isSome_iff_exists.1 hpn.2
    obtain ⟨kb, ko, ea, hcell⟩ := OK.row.get keyC_len (by decide) hpj
    have htk : ks.take (j + 1) = ks.take j ++ [p] := by rw [List.take_add_one, hpj]; rfl
    have hlen : (P.hd0 ++ (ks.take j).filter (P.diff D n)).length ≤ 129 := by
      rw [List.length_append]
      have := List.length_filter_le (P.diff D n) (ks.take j)
      rw [List.length_take] at this
      omega
    refine ⟨by omega, by show (j : Int) < (ks.length : Int); omega, kb, ko, ea, _, by rw [Int.toNat_natCast]; exact hcell 0 _ rfl, _, ey.blk.cell' 0 pgC_0, jread_spec ey.j hpn.1 E.up fun h28 s28 => ⟨_, _, rfl, split_ne (fun e => absurd rfl e) fun _ => ?_⟩⟩
    have e28 := ey.sub s28
    obtain ⟨o, ho, hm⟩ := e28.d
    have hg := mapD_get P.d p
    rw [hsd] at hg
    refine ⟨_, by rw [Nat.zero_add]; exact e28.blk.cell' _ pgC_map, mb, o, _, rfl, ho, hm, s, true, .inl ⟨rfl, hg⟩, ?_⟩
    rw [beqS_val]
    have next : ((j : Nat) : Int) + 1 = ((j + 1 : Nat) : Int) := by omega
    by_cases hd : D.own n p = s
    · have hdf : P.diff D n p = false := by unfold Pg.diff; rw [hsd, hd]; simp
      rw [decide_eq_true hd]
      refine ⟨ks.length - (j + 1), by omega, j + 1, by rw [wid (by omega) (by omega)]; omega, by omega, rfl, ⟨OK.sub s28, dj⟩, ?_, ?_⟩
      · rw [htk, List.filter_append, List.filter_cons_of_neg (by rw [hdf]; simp), List.filter_nil, List.append_nil]; exact Ny.upd s28
      · rw [htk, List.filter_append, List.filter_cons_of_neg (by rw [hdf]; simp), List.filter_nil, List.append_nil]
    · have hdt : P.diff D n p = true := by unfold Pg.diff; rw [hsd]; simp [hd]
      rw [decide_eq_false hd]
      intro k44 hk44
      have s44 := Sub.upd hk44 (.cells (keyC p).toArray 3 (0, 0))
      have B44 := Blk.new h28 k44 3 (keyC p)
      have fl : (ks.take (j + 1)).filter (P.diff D n) = (ks.take j).filter (P.diff D n) ++ [p] := by
        rw [htk, List.filter_append, List.filter_cons_of_pos hdt, List.filter_nil]
      have Nz := (Ny.upd s28).upd s44
      have Oz := (OK.sub s28).sub s44
      refine ⟨_, B44.slice rfl, fun a' c' z => NewR keyC 1 3 h z a' c' (P.hd0 ++ (ks.take (j + 1)).filter (P.diff D n)) ∧ OwnR keyC 1 z 3 ka kc ks ∧ ∀ b, blkOf ka b → ¬ blkOf a' b, fun a' c' z hz => ⟨ks.length - (j + 1), by omega, j + 1, by rw [wid (by omega) (by omega)]; omega, by omega, rfl, hz.2, hz.1, ?_⟩, ?_⟩
      · rw [fl, ← List.append_assoc, List.length_append (bs := [p])]; rfl
      · refine append_ownR appTInt keyC_len keyC_plain (M := [p]) Nz.own rfl rfl (rowC_one _).symm ?_ fun a' c' z o1 o2 o3 => ⟨⟨o2.sub Nz.sub Nz.new, fun b hb => (o3 b hb).elim (Nz.new b) fun hn => Nz.sub.none hn, ?_⟩, Oz.keep o2 dj, fun b hb hb' => ?_⟩
        · show (2 * ((P.hd0 ++ (ks.take j).filter (P.diff D n)).length + 1) + 768) * 8 ≤ _
          omega
        · rw [fl, ← List.append_assoc]; exact o1
        · exact (o3 b hb').elim (dj b hb) fun hn => Own.in_heap Oz hb hn
  · have : j = ks.length := by
      have : ¬ (j : Int) < (ks.length : Int) := g
      omega
    subst this
    have ec : P.hd0 ++ (ks.take ks.length).filter (P.diff D n) = P.chg D n := by
      rw [List.take_length, hks, filter_keys]; rfl
    rw [ec] at Ny ⊢
    exact hK y a c Ny
end Go.Proofs.YthbogjbcecmopaaGreatDoor
namespace Go.Proofs.YthbogjbcecmopaaGreatDoor
open Go.Gx
set_option maxRecDepth 100000
set_option linter.unusedVariables false

variable {h : Hp} {pb jb db n : Nat} {S : Nat → Prop} {D : Dk} {P : Pg} {K : Value → Hp → Prop}
theorem PgEx.jstep {S0 S0' : Nat → Prop} {mb : Nat} {pa : Option Addr} {pc : Nat} {Q : List Pt} (E : PgEx h pb jb db S S0 n D P mb pa pc Q) {h' : Hp} {D' : Dk} (J : JAt h' jb db S0' n D') (st : Step S0 h S0' h') :
    ∃ S', PgEx h' pb jb db S' S0' n D' P mb pa pc Q ∧ Step S h S' h' := by
  have dn : ∀ {c : Nat} {L : List Ch}, DAt h c L → ¬ S0 c → ¬ S0' c := fun H hn => by obtain ⟨o, ho, _⟩ := H; exact (st.out ho hn).2
  refine ⟨fun c => c = pb ∨ c = mb ∨ S0' c ∨ blkOf pa c ∨ ∃ q ∈ Q, q.m = c, ⟨E.blk.keep st.1 E.n1, J, E.d.keep st.1 E.n2, E.own.keep st.1 fun c hc => (E.n4 c hc).1, fun q hq => (E.ds q hq).keep st.1 (E.n3 q hq), E.pts, (st.out E.blk E.n1).2, dn E.d E.n2, fun q hq => dn (E.ds q hq) (E.n3 q hq), fun c hc => ⟨?_, (E.n4 c hc).2⟩, E.n5, fun c => Iff.rfl⟩, st.1.mono fun c hc => (E.s c).2 (.inr (.inr (.inl hc))), ?_⟩
  · intro hS
    rcases st.2 c hS with h' | h'
    · exact (E.n4 c hc).1 h'
    · exact Own.in_heap E.own hc h'
  · rintro c (h' | h' | h' | h' | h')
    · exact .inl ((E.s c).2 (.inl h'))
    · exact .inl ((E.s c).2 (.inr (.inl h')))
    · exact (st.2 c h').imp (fun h2 => (E.s c).2 (.inr (.inr (.inl h2)))) id
    · exact .inl ((E.s c).2 (.inr (.inr (.inr (.inl h')))))
    · exact .inl ((E.s c).2 (.inr (.inr (.inr (.inr h')))))
def Hd.up (H : Hd) : Hd := { H with s := H.s + 1 }
def Hd.bytes (H : Hd) : ByteArray := tabB (encN H.s H.r H.u 128)
def Pg.pair (P : Pg) (i : Nat) : Ch := (i, (dget P.d i).getD (bytesL []))
def Pg.cs (P : Pg) (D : Dk) (n : Nat) : List Ch := (0, P.now.up.bytes) :: ((P.chg D n).filter fun i => i != 0).map P.pair
theorem diff_pos {P : Pg} {D : Dk} {n i : Nat} (ok : DOk n P.d) (h : P.diff D n i = true) : 1 ≤ i ∧ i < n ∧ ∃ s, dget P.d i = some s ∧ s.size = 1024 ∧ D.own n i ≠ s := by
  obtain ⟨s, hs, hne⟩ := diff_some h
  have hm := dget_mem hs
  exact ⟨ok.pos _ hm, (ok.mem _ hm).1, s, hs, (ok.mem _ hm).2, hne⟩
theorem chg_mem {P : Pg} {D : Dk} {n i : Nat} (hi : i ≠ 0) : i ∈ P.chg D n ↔ i < n ∧ P.diff D n i = true := by
  unfold Pg.chg
  rw [List.mem_append, List.mem_filter, List.mem_range]
  constructor
  · rintro (h | h)
    · exfalso
      split at h
      · cases h
      · exact hi (List.mem_singleton.1 h)
    · exact h
  · exact .inr
theorem chg_filter {P : Pg} {D : Dk} {n : Nat} (ok : DOk n P.d) : ((P.chg D n).filter fun i => i != 0) = (List.range n).filter (P.diff D n) := by
  unfold Pg.chg
  rw [List.filter_append, List.filter_filter]
  have e1 : (if P.now.same P.good then ([] : List Nat) else [0]).filter (fun i => i != 0) = [] := by
    split <;> rfl
  rw [e1, List.nil_append]
  refine List.filter_congr fun i _ => ?_
  cases hd : P.diff D n i with
  | false => rw [Bool.and_false]
  | true =>
    have := (diff_pos ok hd).1
    rw [Bool.and_true]
    simpa using (by omega : ¬ i = 0)
theorem chg_len {P : Pg} {D : Dk} {n : Nat} : (P.chg D n).length ≤ n + 1 := by
  unfold Pg.chg
  rw [List.length_append]
  have h1 := List.length_filter_le (P.diff D n) (List.range n)
  rw [List.length_range] at h1
  have h2 : (if P.now.same P.good then ([] : List Nat) else [0]).length ≤ 1 := by split <;> decide
  omega
theorem cs_map {P : Pg} {D : Dk} {n : Nat} (ok : DOk n P.d) : (P.cs D n).map (·.1) = 0 :: (List.range n).filter (P.diff D n) := by
  unfold Pg.cs
  rw [List.map_cons, chg_filter ok, List.map_map]
  congr 1
  exact List.map_id _
theorem cs_pos {P : Pg} {D : Dk} {n : Nat} (ok : DOk n P.d) : (0 :: (List.range n).filter (P.diff D n)).Pairwise (fun a b => a < b) := by
  refine List.pairwise_cons.2 ⟨fun i hi => (diff_pos ok (List.mem_filter.1 hi).2).1, List.pairwise_lt_range.sublist List.filter_sublist⟩
theorem cs_ok {P : Pg} {D : Dk} {n : Nat} (ok : DOk n P.d) (hn : 1 ≤ n) : (∀ c ∈ P.cs D n, c.1 < n ∧ c.2.size = 1024) ∧ ((P.cs D n).map (·.1)).Nodup ∧ (P.cs D n).length ≤ n ∧ (P.cs D n).Pairwise (fun a b => a.1 < b.1) := by
  have hp := cs_pos (D := D) ok
  rw [← cs_map ok, List.pairwise_map] at hp
  have h1 : ∀ c ∈ P.cs D n, c.1 < n ∧ c.2.size = 1024 := fun c hc => by
    rcases List.mem_cons.1 hc with rfl | hc
    · exact ⟨hn, tabB_size _⟩
    · rw [chg_filter ok] at hc
      obtain ⟨i, hi, rfl⟩ := List.mem_map.1 hc
      obtain ⟨a1, a2, s, a3, a4, _⟩ := diff_pos ok (List.mem_filter.1 hi).2
      refine ⟨a2, ?_⟩
      show ((dget P.d i).getD (bytesL [])).size = 1024
      rw [a3]; exact a4
  have h2 : ((P.cs D n).map (·.1)).Nodup := by
    rw [List.nodup_iff_pairwise_ne, List.pairwise_map]
    exact hp.imp fun h => Nat.ne_of_lt h
  refine ⟨h1, h2, ?_, hp⟩
  have := nodup_below n _ h2 fun x hx => by
    obtain ⟨e, he, rfl⟩ := List.mem_map.1 hx
    exact (h1 e he).1
  rw [List.length_map] at this; exact this
theorem andD_ok {r : Dk × Int} {f : Dk → Dk × Int} (h : (andD r f).2 = 0) : r.2 = 0 ∧ (f r.1).2 = 0 ∧ andD r f = f r.1 := by
  unfold andD at h ⊢
  by_cases e : r.2 = 0
  · rw [if_pos e] at h ⊢; exact ⟨e, h, rfl⟩
  · rw [if_neg e] at h; exact absurd h e
theorem flD_up {r : Dk × Int} (h : (flD r).2 = 0) : (flD r).1.down = false := by
  unfold flD at h ⊢
  by_cases h1 : r.2 ≠ 0
  · rw [if_pos h1] at h; exact absurd h h1
  · rw [if_neg h1] at h ⊢
    cases hd : r.1.down with
    | true => rw [hd] at h; cases h
    | false => rw [if_neg (by simp)]; exact hd
theorem commit_up {D : Dk} {n : Nat} {ds : List Ch} (h : (commitD n D ds).2 = 0) : (commitD n D ds).1.down = false := by
  unfold commitD at h ⊢
  obtain ⟨_, h1, e1⟩ := andD_ok h
  rw [e1]
  obtain ⟨_, h2, e2⟩ := andD_ok h1
  show (andD _ _).1.down = false
  rw [e2]
  obtain ⟨_, h3, e3⟩ := andD_ok h2
  show (andD _ _).1.down = false
  rw [e3]
  exact flD_up h3
theorem HdOk.up {n : Nat} {H : Hd} (O : HdOk n H) (h : H.s < 9223372036854775807) : HdOk n H.up := ⟨O.below, O.roots, O.zero, by show H.s + 1 ≤ _; omega⟩
set_option maxHeartbeats 2000000 in
theorem pcommit_spec (E : PgAt h pb jb db S n D P) (hws : D.ws = []) (hL : P.chg D n ≠ [] → P.now.s = 9223372036854775807 → ∀ h', Sub h h' → K (.int .i64 5) h')
    (hN : P.chg D n = [] → ∀ h' S', PgAt h' pb jb db S' n D (Pg.reset P.now) → Step S h S' h' → K (.int .i64 0) h')
    (hE : P.chg D n ≠ [] → P.now.s < 9223372036854775807 → (commitD n D (P.cs D n)).2 ≠ 0 → ∀ h' S', JAt h' jb db S' n (commitD n D (P.cs D n)).1 → Step S h S' h' → K (.int .i64 (commitD n D (P.cs D n)).2) h')
    (hC : P.chg D n ≠ [] → P.now.s < 9223372036854775807 → (commitD n D (P.cs D n)).2 = 0 → ∀ h' S', PgAt h' pb jb db S' n (commitD n D (P.cs D n)).1 (Pg.reset P.now.up) → Step S h S' h' → K (.int .i64 0) h') :
    CallsH Tryz.prog pager_Pager_Commit.id #[.pointer (some ⟨pb, 0, none⟩)] h K := by
  have hn := E.n2
  apply pager_Pager_Commit.calls
  unfold pager_Pager_Commit.W
  obtain ⟨S0, mb, pa, pc, Q, e⟩ := E.ex
  have hn1 := e.j.n1
  refine ⟨_, e.blk.cell' 0 pgC_0, jread_spec (i := 0) e.j (by omega) E.up fun h3 s3 => ⟨_, _, rfl, split_ne (fun e => absurd rfl e) fun _ => ?_⟩⟩
  refine changed_spec (E.sub s3) fun h7 la lc NL => ⟨_, _, _, rfl, ?_⟩
  have s7 := s3.trans NL.sub
  have e7 := e.sub s7
  have hcl := chg_len (P := P) (D := D) (n := n)
  refine ⟨fun x => ∃ (S1 S01 : Nat → Prop) (D' : Dk) (H : Hd), PgEx x pb jb db S1 S01 n D' { P with now := H } mb pa pc Q ∧ Step S h S1 x ∧ HdOk n H ∧ D'.down = false ∧ ∀ h' S', PgAt h' pb jb db S' n D' (Pg.reset H) → Step S h S' h' → K (.int .i64 0) h', ?_, split_dec (fun g => ?_) fun g => ?_⟩
  · rintro x ⟨S1, S01, D', H, e1, st1, okH, up1, hK⟩
    refine ⟨H.c, H.len, e1.blk.cellsAt fun i hi => by rw [Nat.zero_add]; exact pgC_now (by rw [H.len] at hi; exact hi), fun k14 hk14 o15 m15 => ⟨H.len, H.plain, ?_⟩⟩
    have s14 := Sub.upd hk14 o15
    have B0 := e1.blk.sub s14
    have B1 := B0.put 1 H.c
    rw [pgC_setGood] at B1
    have B2 := B1.put 267 [.map (some k14)]
    rw [pgC_setMap] at B2
    have B3 := B2.put 268 [.slice none 0 0]
    rw [pgC_setPts] at B3
    have hne : k14 ≠ pb := fun e' => by have := e1.blk; unfold Blk at this; rw [← e', hk14] at this; cases this
    have kp : ∀ (z : Hp) (o : Nat) (vs : List Value), Keep (fun c => c = pb) z (z.put pb o vs) := fun z o vs => Keep.put _ z o vs rfl
    have k3 := ((s14.keep (fun c => c = pb)).trans (kp _ 1 H.c)).trans ((kp _ 267 [.map (some k14)]).trans (kp _ 268 [.slice none 0 0]))
    obtain ⟨e', st⟩ := e1.fresh hk14 k3 B3 ⟨o15, by rw [put_ne _ _ _ hne, put_ne _ _ _ hne, put_ne _ _ _ hne, Hp.upd_same], m15⟩
    refine ⟨?_, ?_, ?_, hK _ _ ⟨⟨S01, k14, none, 0, [], e'⟩, POk.reset okH, up1⟩ (st1.trans st)⟩
    · rw [H.len]; exact B0.store (by rw [pgC_len]; decide)
    · exact B1.store (by rw [pgC_len]; decide)
    · exact B2.store (by rw [pgC_len]; decide)
  rotate_left
  · have g : P.chg D n = [] := by
      have : ¬ ((P.chg D n).length : Int) > 0 := g
      exact List.eq_nil_of_length_eq_zero (by omega)
    exact ⟨S, S0, D, P.now, e7, Step.sub s7, E.ok.now, E.up, hN g⟩
  have g : P.chg D n ≠ [] := by
    have : ((P.chg D n).length : Int) > 0 := g
    intro e'; rw [e'] at this; exact absurd this (by decide)
  refine ⟨_, by rw [Nat.zero_add]; exact e7.blk.cell' _ pgC_ser, split_eq (fun es => hL g (by omega) h7 s7) fun es => ?_⟩
  have hser : P.now.s < 9223372036854775807 := by have := E.ok.now.ser; omega
  refine ⟨P.now.c, P.now.len, e7.blk.cellsAt fun i hi => by rw [Nat.zero_add]; exact pgC_now (by rw [P.now.len] at hi; exact hi), fun k18 hk18 => ⟨P.now.len, P.now.plain, ?_⟩⟩
  have B18 := Blk.new h7 k18 83 (zeroL Tryz.prog 83)
  have s18 := Sub.upd hk18 (.cells (zeroL Tryz.prog 83).toArray 83 (0, 0))
  have l0 : (zeroL Tryz.prog 83).length = 133 := by rw [z114]; exact headC_len _ _ _
  have B18a := B18.put 0 P.now.c
  rw [setL_all (by rw [P.now.len, l0])] at B18a
  have ew : IntKind.u64.wrap (((P.now.s : Nat) : Int) + 1) = ((P.now.s + 1 : Nat) : Int) := by rw [wrap64]; omega
  have B18b := B18a.put 0 [.int .u64 ((P.now.s + 1 : Nat) : Int)]
  have eup : setL P.now.c 0 [.int .u64 ((P.now.s + 1 : Nat) : Int)] = P.now.up.c := headC_setS _ _ _ _
  rw [eup] at B18b
  have new18 : ∀ {z : Hp} (sz : Sub h7 z) (o : Nat) (us : List Value), Sub h7 (z.put k18 o us) := fun {z} sz o us => (Keep.put (fun c => c = k18) z o us rfl).sub sz fun c e => by rw [e]; exact hk18
  have t18 := new18 (new18 s18 0 P.now.c) 0 [.int .u64 ((P.now.s + 1 : Nat) : Int)]
  refine ⟨by rw [P.now.len]; exact B18.store (by rw [l0]; decide), _, B18a.cell' 0 (headC_0 _ _ _), B18a.store (by rw [P.now.len]; decide), ?_⟩
  rw [ew]
  generalize ((h7.upd k18 (.cells (zeroL Tryz.prog 83).toArray 83 (0, 0))).put k18 0 P.now.c).put k18 0 [.int .u64 ((P.now.s + 1 : Nat) : Int)] = y at B18b t18
  refine bytes_spec (s := P.now.s + 1) (r := P.now.r) (u := P.now.u) (B18b.cellsAt fun i hi => by rw [Nat.zero_add]; rfl) fun h21 s21 => ⟨_, rfl, fun k23 hk23 => ?_⟩
  have t21 := t18.trans s21
  have B21 := B18b.sub s21
  have s23 := Sub.upd hk23 (.cells #[.int .i64 0, .string (tabB (encN (P.now.s + 1) P.now.r P.now.u 128))] 122 (0, 0))
  have O23 : NewR wrC 2 122 h21 (h21.upd k23 (.cells #[.int .i64 0, .string (tabB (encN (P.now.s + 1) P.now.r P.now.u 128))] 122 (0, 0))) (some ⟨k23, 0, none⟩) 1 [(0, P.now.up.bytes)] :=
    ⟨s23, (fun b hb => by obtain ⟨o, s, e⟩ := hb; cases e; exact hk23), ⟨rfl, Nat.le_refl _, .inr ⟨k23, [], rfl, Blk.new _ _ _ _, rfl⟩⟩⟩
  refine ⟨fun a l c i x m => ∃ j : Nat, i = (j : Int) ∧ j ≤ (P.chg D n).length ∧ m = (P.chg D n).length - j ∧ NewR wrC 2 122 h21 x a c ((0, P.now.up.bytes) :: (((P.chg D n).take j).filter fun i => i != 0).map P.pair) ∧ l = ((0, P.now.up.bytes) :: (((P.chg D n).take j).filter fun i => i != 0).map P.pair).length, ⟨_, 0, rfl, Nat.zero_le _, rfl, O23, rfl⟩, ?_⟩
  rintro a l c i x m ⟨j, rfl, hj, rfl, N, rfl⟩
  have ex := e7.sub (t21.trans N.sub)
  refine split_dec (fun gj => ?_) fun gj => ?_
  · have gj : j < (P.chg D n).length := by have : (j : Int) < ((P.chg D n).length : Int) := gj; omega
    obtain ⟨p, hpj⟩ : ∃ p, (P.chg D n)[j]? = some p := ⟨_, List.getElem?_eq_getElem gj⟩
    obtain ⟨kb, ko, ea, hcell⟩ := (NL.own.row.sub (t21.trans N.sub)).get keyC_len (by decide) hpj
    have htk : (P.chg D n).take (j + 1) = (P.chg D n).take j ++ [p] := by rw [List.take_add_one, hpj]; rfl
    refine ⟨by omega, by show (j : Int) < ((P.chg D n).length : Int); omega, kb, ko, ea, _, by rw [Int.toNat_natCast]; exact hcell 0 _ rfl, split_ne (fun ep => ?_) fun ep => ?_⟩
    · have hp0 : p ≠ 0 := by omega
      obtain ⟨_, hdf⟩ := (chg_mem hp0).1 (List.mem_of_getElem? hpj)
      obtain ⟨_, _, s, hsd, _⟩ := diff_pos E.ok.d hdf
      obtain ⟨o, ho, hm⟩ := ex.d
      have hg := mapD_get P.d p
      rw [hsd] at hg
      have hpr : P.pair p = (p, s) := by unfold Pg.pair; rw [hsd]; rfl
      refine ⟨_, by rw [Nat.zero_add]; exact ex.blk.cell' _ pgC_map, mb, o, _, rfl, ho, hm, s, true, .inl ⟨rfl, hg⟩, fun k41 hk41 => ?_⟩
      have B41 := Blk.new x k41 122 (wrC (p, s))
      have fl : (((P.chg D n).take (j + 1)).filter fun i => i != 0).map P.pair = (((P.chg D n).take j).filter fun i => i != 0).map P.pair ++ [(p, s)] := by
        rw [htk, List.filter_append, List.filter_cons_of_pos (by simpa using hp0), List.filter_nil, List.map_append]
        show _ ++ [P.pair p] = _
        rw [hpr]
      have Nx := N.upd (Sub.upd hk41 (.cells (wrC (p, s)).toArray 122 (0, 0)))
      refine ⟨_, B41.slice rfl, fun a' c' z => NewR wrC 2 122 h21 z a' c' ((0, P.now.up.bytes) :: (((P.chg D n).take (j + 1)).filter fun i => i != 0).map P.pair), fun a' c' z hz => ⟨(P.chg D n).length - (j + 1), by omega, j + 1, by rw [wid (by omega) (by omega)]; omega, by omega, rfl, hz, ?_⟩, ?_⟩
      · rw [fl, ← List.cons_append, List.length_append (bs := [(p, s)])]; rfl
      · refine append_row appTCh wrC_len wrC_plain (M := [(p, s)]) Nx rfl rfl (rowC_one _).symm ?_ fun a' c' z hz => by rw [fl, ← List.cons_append]; exact hz
        have h1 := List.length_filter_le (fun i => i != 0) ((P.chg D n).take j)
        rw [List.length_take] at h1
        show (2 * (((((P.chg D n).take j).filter fun i => i != 0).map P.pair).length + 1 + 1) + 768) * 24 ≤ _
        rw [List.length_map]
        omega
    · have hp0 : p = 0 := by omega
      refine ⟨(P.chg D n).length - (j + 1), by omega, j + 1, by rw [wid (by omega) (by omega)]; omega, by omega, rfl, ?_, ?_⟩
      · rw [htk, List.filter_append, hp0, List.filter_cons_of_neg (by simp), List.filter_nil, List.append_nil]; exact N
      · rw [htk, List.filter_append, hp0, List.filter_cons_of_neg (by simp), List.filter_nil, List.append_nil]
  · have : j = (P.chg D n).length := by
      have : ¬ (j : Int) < ((P.chg D n).length : Int) := gj
      omega
    subst this
    rw [List.take_length] at N
    have hcs : (0, P.now.up.bytes) :: ((P.chg D n).filter fun i => i != 0).map P.pair = P.cs D n := rfl
    rw [List.take_length]
    rw [hcs] at N ⊢
    obtain ⟨c1, c2, c3, c4⟩ := cs_ok (P := P) (D := D) E.ok.d hn1
    have sx := s7.trans (t21.trans N.sub)
    refine ⟨_, ex.blk.cell' 0 pgC_0, jcommit_spec ex.j E.up hws N.own.row (by omega) (by unfold Pg.cs; simp) (fun c hc hS => e.j.in_heap hS ((s7.trans t21).none (N.new c hc))) c1 c2 fun h51 S01 ds hperm hsort J51 st51 => ?_⟩
    have hds : ds = P.cs D n := by
      refine List.Perm.eq_of_pairwise (le := fun a b => a.1 ≤ b.1) (fun a b ha hb h1 h2 => ?_) hsort (c4.imp fun h => Nat.le_of_lt h) hperm
      have hab : a.1 = b.1 := Nat.le_antisymm h1 h2
      have ha' := hperm.mem_iff.1 ha
      obtain ⟨a1, a2⟩ := a
      obtain ⟨b1, b2⟩ := b
      have e1 := mem_dget c2 ha'
      have e2 := mem_dget c2 hb
      have hab : a1 = b1 := hab
      subst hab
      rw [e1] at e2; cases e2; rfl
    subst hds
    refine ⟨_, rfl, split_ne (fun ee => hE g hser ee h51 S01 J51 ?_) fun ee => ?_⟩
    · refine ⟨fun c o hc hnS => st51.1 c o (sx c o hc) fun hS => hnS ((e.s c).2 (.inr (.inr (.inl hS)))), fun c hc => (st51.2 c hc).imp (fun hS => (e.s c).2 (.inr (.inr (.inl hS)))) fun hn => sx.none hn⟩
    · obtain ⟨S1, e51, st1⟩ := ex.jstep J51 st51
      have B51 : Blk h51 k18 83 P.now.up.c := (B21.sub N.sub).keep st51.1 fun hS => e.j.in_heap hS (s7.none hk18)
      have Bp := e51.blk.put 134 P.now.up.c
      rw [pgC_setNow] at Bp
      have kp : Keep (fun c => c = pb ∨ c = mb) h51 (h51.put pb 134 P.now.up.c) := Keep.put _ h51 _ _ (.inl rfl)
      have hmpb : mb ≠ pb := e.d.ne e.blk
      obtain ⟨ef, stf⟩ := e51.put (now' := P.now.up) (d' := P.d) kp Bp (e51.d.keep (Keep.put (fun c => c = pb) h51 _ _ rfl) hmpb)
      refine ⟨P.now.up.c, P.now.up.len, B51.cellsAt fun i hi => by rw [Nat.zero_add], P.now.up.len, P.now.up.plain, ?_, S1, S01, _, P.now.up, ef, (Step.sub sx).trans (st1.trans stf), E.ok.now.up hser, commit_up ee, hC g hser ee⟩
      rw [P.now.up.len]
      exact e51.blk.store (by rw [pgC_len]; decide)
end Go.Proofs.YthbogjbcecmopaaGreatDoor
namespace Go.Gx

theorem bl_irrefl : ∀ x : List UInt8, Op.bytesLess x x = false
  | [] => rfl
  | a :: x => by
    have h1 : ¬ a < a := UInt8.lt_irrefl a
    simp only [Op.bytesLess, bl_irrefl x]
    simp [h1]
theorem bl_trans : ∀ {x y z : List UInt8}, Op.bytesLess x y = true → Op.bytesLess y z = true → Op.bytesLess x z = true
  | [], [], _, h, _ => by cases h
  | _ :: _, [], _, h, _ => by cases h
  | _, _ :: _, [], _, h => by cases h
  | [], _ :: _, _ :: _, _, _ => rfl
  | a :: x, b :: y, c :: z, h1, h2 => by
    simp only [Op.bytesLess, Bool.or_eq_true, Bool.and_eq_true, decide_eq_true_eq, beq_iff_eq] at *
    rcases h1 with h1 | ⟨e1, h1⟩
    · rcases h2 with h2 | ⟨e2, h2⟩
      · exact .inl (UInt8.lt_trans h1 h2)
      · subst e2; exact .inl h1
    · subst e1
      rcases h2 with h2 | ⟨e2, h2⟩
      · exact .inl h2
      · exact .inr ⟨e2, bl_trans h1 h2⟩
theorem bl_total : ∀ {x y : List UInt8}, Op.bytesLess x y = false → Op.bytesLess y x = false → x = y
  | [], [], _, _ => rfl
  | [], _ :: _, h, _ => by cases h
  | _ :: _, [], _, h => by cases h
  | a :: x, b :: y, h1, h2 => by
    simp only [Op.bytesLess, Bool.or_eq_false_iff, Bool.and_eq_false_iff, decide_eq_false_iff_not] at *
    have e : a = b := by
      have h3 := UInt8.not_lt.1 h1.1
      have h4 := UInt8.not_lt.1 h2.1
      exact UInt8.le_antisymm h4 h3
    subst e
    have h3 := h1.2
    have h4 := h2.2
    simp at h3 h4
    rw [bl_total h3 h4]
def blt (s t : ByteArray) : Bool := Op.bytesLess s.data.toList t.data.toList
theorem bltS_val (s t : ByteArray) : bltS s t = blt s t := by unfold bltS blt; rw [hb_eq, toList_eq_data, toList_eq_data]
theorem blt_irrefl (s : ByteArray) : blt s s = false := bl_irrefl _
theorem blt_trans {s t u : ByteArray} (h1 : blt s t = true) (h2 : blt t u = true) : blt s u = true := bl_trans h1 h2
theorem blt_total {s t : ByteArray} (h1 : blt s t = false) (h2 : blt t s = false) : s = t := bytes_ext (bl_total h1 h2)
theorem blt_ne {s t : ByteArray} (h : blt s t = true) : s ≠ t := fun e => by rw [e, blt_irrefl] at h; cases h
theorem blt_asymm {s t : ByteArray} (h : blt s t = true) : blt t s = false := by
  cases e : blt t s with
  | false => rfl
  | true => have := blt_trans h e; rw [blt_irrefl] at this; cases this

abbrev KV := ByteArray × ByteArray
def kvCells (L : List KV) : List Value := L.flatMap fun p => [.string p.1, .string p.2]
theorem kvCells_cons (p : KV) (L : List KV) : kvCells (p :: L) = .string p.1 :: .string p.2 :: kvCells L := rfl
theorem kvCells_append (L M : List KV) : kvCells (L ++ M) = kvCells L ++ kvCells M := List.flatMap_append
theorem kvCells_length : ∀ L : List KV, (kvCells L).length = L.length * 2
  | [] => rfl
  | p :: L => by rw [kvCells_cons, List.length_cons, List.length_cons, kvCells_length L, List.length_cons]; omega
theorem kvCells_plain (L : List KV) : plainP (kvCells L) := fun v hv => by
  unfold kvCells at hv
  rw [List.mem_flatMap] at hv
  obtain ⟨p, _, hv⟩ := hv
  simp at hv
  rcases hv with rfl | rfl
  · exact ⟨fun c h => (by cases h), fun c h => (by cases h)⟩
  · exact ⟨fun c h => (by cases h), fun c h => (by cases h)⟩
theorem kvCells_get : ∀ (L : List KV) (i : Nat) (p : KV), L[i]? = some p → (kvCells L)[i * 2]? = some (.string p.1) ∧ (kvCells L)[i * 2 + 1]? = some (.string p.2)
  | [], _, _, h => by simp at h
  | q :: L, 0, p, h => by
    simp at h; subst h; exact ⟨rfl, rfl⟩
  | q :: L, i + 1, p, h => by
    have := kvCells_get L i p (by simpa using h)
    rw [kvCells_cons, show (i + 1) * 2 = i * 2 + 1 + 1 by omega]
    exact ⟨by simpa using this.1, by simpa using this.2⟩
theorem kvCells_drop : ∀ (L : List KV) (i : Nat), (kvCells L).drop (i * 2) = kvCells (L.drop i)
  | L, 0 => by simp
  | [], i + 1 => by simp [kvCells]
  | q :: L, i + 1 => by rw [kvCells_cons, show (i + 1) * 2 = i * 2 + 1 + 1 by omega]; simpa using kvCells_drop L i
theorem kvCells_take : ∀ (L : List KV) (i : Nat), (kvCells L).take (i * 2) = kvCells (L.take i)
  | L, 0 => by simp [kvCells]
  | [], i + 1 => by simp [kvCells]
  | q :: L, i + 1 => by rw [kvCells_cons, show (i + 1) * 2 = i * 2 + 1 + 1 by omega, List.take_succ_cons, List.take_succ_cons, List.take_succ_cons, kvCells_cons, kvCells_take L i]
def kvAt (k : ByteArray) : List KV → Nat
  | [] => 0
  | p :: L => if blt p.1 k = true then kvAt k L + 1 else 0
def kvIs (k : ByteArray) (L : List KV) : Bool :=
  match L[kvAt k L]? with
  | some p => decide (p.1 = k)
  | none => false
theorem kvAt_le (k : ByteArray) : ∀ L : List KV, kvAt k L ≤ L.length
  | [] => Nat.le_refl _
  | p :: L => by unfold kvAt; split <;> simp [kvAt_le k L]
theorem kvAt_lt {k : ByteArray} {L : List KV} (h : kvIs k L = true) : kvAt k L < L.length := by
  unfold kvIs at h
  split at h
  · rename_i p hp; exact (List.getElem?_eq_some_iff.1 hp).1
  · cases h
theorem kvAt_before (k : ByteArray) : ∀ (L : List KV) (i : Nat) (p : KV), L[i]? = some p → i < kvAt k L → blt p.1 k = true
  | [], _, _, h, _ => by simp at h
  | q :: L, i, p, h, hi => by
    unfold kvAt at hi
    split at hi
    · rename_i hq
      cases i with
      | zero => simp at h; subst h; exact hq
      | succ i => exact kvAt_before k L i p (by simpa using h) (by omega)
    · omega
theorem kvAt_at (k : ByteArray) : ∀ (L : List KV) (p : KV), L[kvAt k L]? = some p → blt p.1 k = false
  | [], _, h => by simp at h
  | q :: L, p, h => by
    unfold kvAt at h
    split at h
    · exact kvAt_at k L p (by simpa using h)
    · rename_i hq
      simp at h; subst h; simpa using hq
def kvGet (k : ByteArray) (L : List KV) : Option ByteArray := if kvIs k L then (L[kvAt k L]?).map (·.2) else none
def kvPut (k v : ByteArray) (L : List KV) : List KV := L.take (kvAt k L) ++ (k, v) :: L.drop (if kvIs k L then kvAt k L + 1 else kvAt k L)
def kvDrop (k : ByteArray) (L : List KV) : List KV := if kvIs k L then L.take (kvAt k L) ++ L.drop (kvAt k L + 1) else L
def kvIn (from_ upto : ByteArray) (p : KV) : Bool := !blt p.1 from_ && (blt p.1 upto || decide (p.1 = upto))
def kvRange (from_ upto : ByteArray) (most : Nat) (L : List KV) : List KV := (L.filter (kvIn from_ upto)).take most
def kvSorted (L : List KV) : Prop := L.Pairwise fun p q => blt p.1 q.1 = true
theorem kvIs_split {k : ByteArray} {L : List KV} (h : kvIs k L = true) : ∃ w, L = L.take (kvAt k L) ++ (k, w) :: L.drop (kvAt k L + 1) ∧ L[kvAt k L]? = some (k, w) := by
  have hl := kvAt_lt h
  unfold kvIs at h
  rw [List.getElem?_eq_getElem hl] at h
  have hk : L[kvAt k L].1 = k := of_decide_eq_true h
  have hp : L[kvAt k L] = (k, L[kvAt k L].2) := Prod.ext hk rfl
  refine ⟨L[kvAt k L].2, ?_, ?_⟩
  · conv => lhs; rw [← List.take_append_drop (kvAt k L) L, List.drop_eq_getElem_cons hl]
    rw [← hp]
  · rw [List.getElem?_eq_getElem hl, ← hp]
theorem kvSorted_inj {L : List KV} (hs : kvSorted L) {p q : KV} (hp : p ∈ L) (hq : q ∈ L) (h : p.1 = q.1) : p = q := by
  induction L with
  | nil => cases hp
  | cons r L ih =>
    obtain ⟨h1, h2⟩ := List.pairwise_cons.1 hs
    rcases List.mem_cons.1 hp with rfl | hp
    · rcases List.mem_cons.1 hq with rfl | hq
      · rfl
      · exact absurd h (blt_ne (h1 q hq))
    · rcases List.mem_cons.1 hq with rfl | hq
      · exact absurd h.symm (blt_ne (h1 p (by assumption)))
      · exact ih h2 hp hq
theorem kvIs_iff {L : List KV} (hs : kvSorted L) (k : ByteArray) : kvIs k L = true ↔ ∃ v, (k, v) ∈ L := by
  constructor
  · intro h
    obtain ⟨w, _, h2⟩ := kvIs_split h
    exact ⟨w, List.mem_of_getElem? h2⟩
  · rintro ⟨v, hv⟩
    induction L with
    | nil => cases hv
    | cons r L ih =>
      obtain ⟨h1, h2⟩ := List.pairwise_cons.1 hs
      rcases List.mem_cons.1 hv with rfl | hv
      · unfold kvIs kvAt
        rw [if_neg (by rw [blt_irrefl]; decide)]
        simp
      · have := ih h2 hv
        unfold kvIs kvAt
        rw [if_pos (h1 _ hv)]
        unfold kvIs at this
        simpa using this
theorem kvGet_iff {L : List KV} (hs : kvSorted L) (k v : ByteArray) : kvGet k L = some v ↔ (k, v) ∈ L := by
  unfold kvGet
  constructor
  · intro h
    split at h
    · rename_i hk
      obtain ⟨w, _, h2⟩ := kvIs_split hk
      rw [h2] at h
      simp at h; subst h
      exact List.mem_of_getElem? h2
    · cases h
  · intro h
    have hk := (kvIs_iff hs k).2 ⟨v, h⟩
    obtain ⟨w, _, h2⟩ := kvIs_split hk
    rw [if_pos hk, h2]
    have := kvSorted_inj hs h (List.mem_of_getElem? h2) rfl
    simp at this
    simp [this]
theorem kvAt_after {L : List KV} (hs : kvSorted L) (k : ByteArray) {p : KV} (hp : p ∈ L.drop (if kvIs k L then kvAt k L + 1 else kvAt k L)) : blt k p.1 = true := by
  have key : ∀ {i : Nat} {q : KV}, L[i]? = some q → kvAt k L < i → blt k q.1 = true := by
    intro i q hq hi
    have hl : kvAt k L < L.length := by have := (List.getElem?_eq_some_iff.1 hq).1; omega
    have h0 := kvAt_at k L _ (List.getElem?_eq_getElem hl)
    have h1 : blt L[kvAt k L].1 q.1 = true := by
      obtain ⟨h2, h3⟩ := List.getElem?_eq_some_iff.1 hq
      rw [← h3]
      exact List.pairwise_iff_getElem.1 hs _ _ hl h2 hi
    cases e : blt k L[kvAt k L].1 with
    | true => exact blt_trans e h1
    | false => rw [blt_total e h0]; exact h1
  obtain ⟨j, hj⟩ := List.mem_iff_getElem?.1 hp
  rw [List.getElem?_drop] at hj
  split at hj
  · exact key hj (by omega)
  · rename_i hk
    by_cases e : j = 0
    · subst e
      rw [Nat.add_zero] at hj
      have h0 := kvAt_at k L _ hj
      cases e2 : blt k p.1 with
      | true => rfl
      | false =>
        exfalso; apply hk
        unfold kvIs; rw [hj]
        exact decide_eq_true (blt_total e2 h0).symm
    · exact key hj (by omega)
theorem kvPut_sorted {L : List KV} (hs : kvSorted L) (k v : ByteArray) : kvSorted (kvPut k v L) := by
  unfold kvPut kvSorted
  rw [List.pairwise_append]
  refine ⟨List.Pairwise.sublist (List.take_sublist _ _) hs, ?_, ?_⟩
  · rw [List.pairwise_cons]
    exact ⟨fun p hp => kvAt_after hs k hp, List.Pairwise.sublist (List.drop_sublist _ _) hs⟩
  · intro p hp q hq
    have hpk : blt p.1 k = true := by
      obtain ⟨j, hj⟩ := List.mem_iff_getElem?.1 hp
      rw [List.getElem?_take] at hj
      split at hj
      · rename_i hlt; exact kvAt_before k L j p hj hlt
      · cases hj
    rcases List.mem_cons.1 hq with rfl | hq
    · exact hpk
    · exact blt_trans hpk (kvAt_after hs k hq)
theorem kvDrop_sorted {L : List KV} (hs : kvSorted L) (k : ByteArray) : kvSorted (kvDrop k L) := by
  unfold kvDrop
  split
  · rename_i hk
    obtain ⟨w, h1, _⟩ := kvIs_split hk
    have : (L.take (kvAt k L) ++ L.drop (kvAt k L + 1)).Sublist L := by
      conv => rhs; rw [h1]
      exact List.Sublist.append (List.Sublist.refl _) (List.sublist_cons_self _ _)
    exact List.Pairwise.sublist this hs
  · exact hs
end Go.Gx
namespace Go.Proofs.YthbogjbcecmopaaGreatDoor
open Go.Gx
set_option maxRecDepth 100000
set_option linter.unusedVariables false

theorem fnI {P : Program} {g : Nat} {cap args : List Value} {h : Hp} {Q : Value → Hp → Prop} (ok : funcOk P g = true) (H : CallsH P g (args ++ cap).toArray h Q) : FnH P (.func (.func g) #[] cap.toArray) args h Q := ⟨g, [], cap, rfl, ok, H⟩
variable {h : Hp} {K : Value → Hp → Prop}
structure En where
  key : ByteArray
  val : ByteArray
  kid : Nat
def En.kv (e : En) : KV := (e.key, e.val)
def enC (e : En) : List Value := [.string e.key, .string e.val, .int .i64 (e.kid : Nat)]
theorem enC_len (e : En) : (enC e).length = 3 := rfl
theorem enC_plain (e : En) : plainP (enC e) := plainP_of rfl
theorem appTEn : AppT Tryz.prog 100 3 40 := AppT.of (by kernel_rfl)
structure Nd where
  leaf : Bool
  first : Nat
  l : List En
def Nd.kind (n : Nd) : Nat := if n.leaf then 1 else 2
def Nd.kv (n : Nd) : List KV := n.l.map En.kv
def Nd.kids (n : Nd) : List Nat := n.first :: n.l.map En.kid
def ndC (nd : Nd) (a : Option Addr) (c : Nat) : List Value := [.int .i64 (nd.kind : Nat), .int .i64 (nd.first : Nat), .slice a nd.l.length c]
structure NdEx (h : Hp) (k : Nat) (a : Option Addr) (c : Nat) (nd : Nd) : Prop where
  blk : Blk h k 97 (ndC nd a c)
  row : RowAt enC 3 h a nd.l
  le : nd.l.length ≤ c
  ne : ∀ b, blkOf a b → b ≠ k
theorem NdEx.sub {h' : Hp} {k : Nat} {a : Option Addr} {c : Nat} {nd : Nd} (N : NdEx h k a c nd) (s : Sub h h') : NdEx h' k a c nd := ⟨N.blk.sub s, N.row.sub s, N.le, N.ne⟩
theorem NdEx.out {S' : Nat → Prop} {h' : Hp} {k : Nat} {a : Option Addr} {c : Nat} {nd : Nd} (N : NdEx h k a c nd) (s : Keep S' h h') (h1 : ¬ S' k) (h2 : ∀ b, blkOf a b → ¬ S' b) : NdEx h' k a c nd := ⟨N.blk.keep s h1, N.row.keep s h2, N.le, N.ne⟩
structure NdOw (h : Hp) (k : Nat) (a : Option Addr) (c : Nat) (nd : Nd) : Prop where
  ex : NdEx h k a c nd
  own : OwnR enC 3 h 100 a c nd.l
theorem NdOw.mk' {k : Nat} {a : Option Addr} {c : Nat} {nd : Nd} (B : Blk h k 97 (ndC nd a c)) (O : OwnR enC 3 h 100 a c nd.l) (ne : ∀ b, blkOf a b → b ≠ k) : NdOw h k a c nd := ⟨⟨B, O.row, O.le, ne⟩, O⟩
theorem NdOw.sub {h' : Hp} {k : Nat} {a : Option Addr} {c : Nat} {nd : Nd} (N : NdOw h k a c nd) (s : Sub h h') : NdOw h' k a c nd := ⟨N.ex.sub s, N.own.sub s⟩
theorem NdOw.out {S' : Nat → Prop} {h' : Hp} {k : Nat} {a : Option Addr} {c : Nat} {nd : Nd} (N : NdOw h k a c nd) (s : Keep S' h h') (h1 : ¬ S' k) (h2 : ∀ b, blkOf a b → ¬ S' b) : NdOw h' k a c nd := ⟨N.ex.out s h1 h2, N.own.keep s h2⟩
structure NdNew (h h' : Hp) (k : Nat) (nd : Nd) : Prop where
  sub : Sub h h'
  k0 : h k = none
  ow : ∃ a c, NdOw h' k a c nd ∧ ∀ b, blkOf a b → h b = none
theorem NdNew.ex {h h' : Hp} {k : Nat} {nd : Nd} (N : NdNew h h' k nd) : ∃ a c, NdEx h' k a c nd ∧ ∀ b, blkOf a b → h b = none := by
  obtain ⟨a, c, e, f⟩ := N.ow
  exact ⟨a, c, e.ex, f⟩
theorem NdNew.mono {h1 h' h2 : Hp} {k : Nat} {nd : Nd} (N : NdNew h1 h' k nd) (s : Sub h h1) (s2 : Sub h' h2) : NdNew h h2 k nd := by
  obtain ⟨a, c, e, f⟩ := N.ow
  exact ⟨s.trans (N.sub.trans s2), s.none N.k0, a, c, e.sub s2, fun b hb => s.none (f b hb)⟩
section
variable {k : Nat} {a : Option Addr} {c : Nat} {nd : Nd} (N : NdEx h k a c nd)
include N
theorem NdEx.c0 : h.cell k 0 = some (.int .i64 (nd.kind : Nat)) := N.blk.cell' 0 rfl
theorem NdEx.c1 : h.cell k 1 = some (.int .i64 (nd.first : Nat)) := N.blk.cell' 1 rfl
theorem NdEx.c2 : h.cell k 2 = some (.slice a nd.l.length c) := N.blk.cell' 2 rfl
theorem NdEx.get {i : Nat} {e : En} (he : nd.l[i]? = some e) : ∃ b o, a = some ⟨b, o, none⟩ ∧ h.cell b (o + i * 3) = some (.string e.key) ∧ h.cell b (o + i * 3 + 1) = some (.string e.val) ∧ h.cell b (o + i * 3 + 2) = some (.int .i64 (e.kid : Nat)) := by
  obtain ⟨b, o, ea, hc⟩ := RowAt.get enC_len (by decide) N.row he
  exact ⟨b, o, ea, hc 0 _ rfl, by have := hc 1 (.string e.val) rfl; exact this, by have := hc 2 (.int .i64 (e.kid : Nat)) rfl; exact this⟩
end
def twoN (b : ByteArray) (i : Nat) : Nat := byteN b (i + 1) + byteN b i * 2 ^ 8
theorem twoN_lt (b : ByteArray) (i : Nat) : twoN b i < 65536 := by
  have := byteN_lt b i
  have := byteN_lt b (i + 1)
  unfold twoN
  omega
theorem two_spec {b : ByteArray} {i : Nat} (hb : b.size < 2147483648) (hi : i + 1 < b.size) (hK : K (.int .i64 (twoN b i : Nat)) h) : CallsH Tryz.prog btree_two.id #[.string b, .int .i64 (i : Nat)] h K := by
  apply btree_two.calls
  unfold btree_two.W
  have e1 : IntKind.i64.wrap ((i : Int) + 1) = ((i + 1 : Nat) : Int) := by rw [wid (by omega) (by omega)]; omega
  have b0 := byteN_lt b i
  have b1 := byteN_lt b (i + 1)
  have sz : Int.ofNat b.size = (b.size : Int) := rfl
  rw [e1, sz]
  refine ⟨by omega, by omega, by decide, by omega, by omega, ?_⟩
  rw [Int.toNat_natCast, Int.toNat_natCast, byteAt_N, byteAt_N, widN (byteN b i) (by omega), widN (byteN b (i + 1)) (by omega), show ((8 : Int)) = ((8 : Nat) : Int) from rfl, shlN _ _ _ (by decide), widN (byteN b i * 2 ^ 8) (by omega), orN' _ _ _ _ (by omega) (by show _ < 2 ^ 64; omega), widN (byteN b (i + 1) + byteN b i * 2 ^ 8) (by omega)]
  exact hK
def may (k v : ByteArray) : Bool := decide (1 ≤ k.size ∧ k.size ≤ 64 ∧ v.size ≤ 400)
theorem may_spec (k v : ByteArray) (hK : K (.bool (may k v)) h) : CallsH Tryz.prog btree_may.id #[.string k, .string v] h K := by
  apply btree_may.calls
  unfold btree_may.W
  unfold may at hK
  refine split_dec (fun e1 => split_dec (fun e2 => ?_) fun e2 => ?_) fun e1 => ?_
  · have e1 : (k.size : Int) ≥ 1 := e1
    have e2 : (k.size : Int) ≤ 64 := e2
    rw [hb_eq]
    have : decide (Int.ofNat v.size ≤ 400) = decide (1 ≤ k.size ∧ k.size ≤ 64 ∧ v.size ≤ 400) := decide_eq_decide.2 ⟨fun h => by have h : (v.size : Int) ≤ 400 := h; omega, fun h => by show (v.size : Int) ≤ 400; omega⟩
    rw [this]; exact hK
  · have e2 : ¬ (k.size : Int) ≤ 64 := e2
    rw [decide_eq_false (by omega)] at hK; exact hK
  · have e1 : ¬ (k.size : Int) ≥ 1 := e1
    rw [decide_eq_false (by omega)] at hK; exact hK
theorem search_spec {n m : Nat} {f : Value} {p : Nat → Bool} (hn : n < 2147483648) (hm : m ≤ n) (h1 : ∀ i, i < m → p i = false) (h2 : ∀ i, m ≤ i → i < n → p i = true)
    (hf : ∀ i : Nat, i < n → ∀ K' : Value → Hp → Prop, K' (.bool (p i)) h → FnH Tryz.prog f [.int .i64 (i : Nat)] h K') (hK : K (.int .i64 (m : Nat)) h) : CallsH Tryz.prog sort_Search.id #[.int .i64 (n : Nat), f] h K := by
  apply sort_Search.calls
  unfold sort_Search.W
  refine ⟨fun i j x k => ∃ a b : Nat, i = (a : Int) ∧ j = (b : Int) ∧ a ≤ m ∧ m ≤ b ∧ b ≤ n ∧ k = b - a ∧ x = h, ⟨_, 0, n, rfl, rfl, by omega, hm, Nat.le_refl _, rfl, rfl⟩, ?_⟩
  rintro i j x k ⟨a, b, rfl, rfl, ha, hb, hbn, rfl, rfl⟩
  have e1 : IntKind.i64.wrap (ishr IntKind.u64 (IntKind.u64.wrap (IntKind.i64.wrap ((a : Int) + (b : Int)))) 1) = (((a + b) / 2 : Nat) : Int) := by
    rw [show (a : Int) + (b : Int) = ((a + b : Nat) : Int) by omega, widN _ (by omega), wrap64s _ (by omega), show (1 : Int) = ((1 : Nat) : Int) from rfl, shrN _ _ _ (by decide), widN _ (by omega)]
  rw [e1]
  refine split_dec (fun g => ⟨by decide, hf _ (by omega) _ ⟨_, rfl, split_not (fun e => ?_) fun e => ?_⟩⟩) fun g => ?_
  · have hlt : (a + b) / 2 < m := by
      rcases Nat.lt_or_ge ((a + b) / 2) m with h' | h'
      · exact h'
      · rw [h2 _ h' (by omega)] at e; cases e
    exact ⟨b - ((a + b) / 2 + 1), by omega, (a + b) / 2 + 1, b, by rw [wid (by omega) (by omega)]; omega, rfl, by omega, by omega, hbn, rfl, rfl⟩
  · have hle : m ≤ (a + b) / 2 := by
      rcases Nat.lt_or_ge ((a + b) / 2) m with h' | h'
      · rw [h1 _ h'] at e; cases e
      · exact h'
    exact ⟨(a + b) / 2 - a, by omega, a, (a + b) / 2, rfl, rfl, ha, hle, by omega, rfl, rfl⟩
  · have : a = m := by omega
    subst this; exact hK
def kvBe (k : ByteArray) : List KV → Nat
  | [] => 0
  | p :: L => if blt k p.1 = true then 0 else kvBe k L + 1
theorem kvBe_le (k : ByteArray) : ∀ L : List KV, kvBe k L ≤ L.length
  | [] => Nat.le_refl _
  | p :: L => by unfold kvBe; split <;> simp [kvBe_le k L]
theorem kvBe_before (k : ByteArray) : ∀ (L : List KV) (i : Nat) (p : KV), L[i]? = some p → i < kvBe k L → blt k p.1 = false
  | [], _, _, h, _ => by simp at h
  | q :: L, i, p, h, hi => by
    unfold kvBe at hi
    split at hi
    · omega
    · rename_i hq
      cases i with
      | zero => simp at h; subst h; simpa using hq
      | succ i => exact kvBe_before k L i p (by simpa using h) (by omega)
theorem kvBe_at (k : ByteArray) : ∀ (L : List KV) (p : KV), L[kvBe k L]? = some p → blt k p.1 = true
  | [], _, h => by simp at h
  | q :: L, p, h => by
    unfold kvBe at h
    split at h
    · rename_i hq
      simp at h; subst h; exact hq
    · exact kvBe_at k L p (by simpa using h)
theorem sorted_lt {L : List KV} (hs : kvSorted L) {i j : Nat} {p q : KV} (hp : L[i]? = some p) (hq : L[j]? = some q) (hij : i < j) : blt p.1 q.1 = true := by
  obtain ⟨h1, e1⟩ := List.getElem?_eq_some_iff.1 hp
  obtain ⟨h2, e2⟩ := List.getElem?_eq_some_iff.1 hq
  subst e1; subst e2
  exact (List.pairwise_iff_getElem.1 hs) i j h1 h2 hij
theorem kvAt_after {k : ByteArray} {L : List KV} (hs : kvSorted L) {i : Nat} {p : KV} (hp : L[i]? = some p) (hi : kvAt k L ≤ i) : blt p.1 k = false := by
  have hl := (List.getElem?_eq_some_iff.1 hp).1
  have hq : L[kvAt k L]? = some L[kvAt k L] := List.getElem?_eq_getElem (by omega)
  have h0 := kvAt_at k L _ hq
  rcases Nat.lt_or_ge (kvAt k L) i with h' | h'
  · have h2 := sorted_lt hs hq hp h'
    cases e : blt p.1 k with
    | false => rfl
    | true => rw [blt_trans h2 e] at h0; cases h0
  · have : i = kvAt k L := by omega
    subst this
    rw [hq] at hp
    rw [Option.some.inj hp] at h0; exact h0
theorem kvBe_after {k : ByteArray} {L : List KV} (hs : kvSorted L) {i : Nat} {p : KV} (hp : L[i]? = some p) (hi : kvBe k L ≤ i) : blt k p.1 = true := by
  have hl := (List.getElem?_eq_some_iff.1 hp).1
  have hq : L[kvBe k L]? = some L[kvBe k L] := List.getElem?_eq_getElem (by omega)
  have h0 := kvBe_at k L _ hq
  rcases Nat.lt_or_ge (kvBe k L) i with h' | h'
  · exact blt_trans h0 (sorted_lt hs hq hp h')
  · have : i = kvBe k L := by omega
    subst this
    rw [hq] at hp
    rw [Option.some.inj hp] at h0; exact h0
theorem ble_not (s t : ByteArray) : (!(blt s t || beqS s t)) = blt t s := by
  rw [beqS_val]
  cases e : blt t s with
  | true => rw [blt_asymm e, decide_eq_false (fun e2 => by rw [e2, blt_irrefl] at e; cases e)]; rfl
  | false =>
    cases e2 : blt s t with
    | true => rfl
    | false => rw [decide_eq_true (blt_total e2 e)]; rfl
theorem Nd.kv_len (nd : Nd) : nd.kv.length = nd.l.length := by unfold Nd.kv; simp
theorem Nd.kv_get {nd : Nd} {i : Nat} {e : En} (he : nd.l[i]? = some e) : nd.kv[i]? = some e.kv := by unfold Nd.kv; rw [List.getElem?_map, he]; rfl
section
variable {k : Nat} {a : Option Addr} {c : Nat} {nd : Nd} (N : NdEx h k a c nd) (hs : kvSorted nd.kv) (hl : nd.l.length < 65536)
include N hs hl
theorem place_spec (key : ByteArray) (hK : ∀ h', Sub h h' → K (.int .i64 (kvAt key nd.kv : Nat)) h') : CallsH Tryz.prog btree_node_place.id #[.pointer (some ⟨k, 0, none⟩), .string key] h K := by
  apply btree_node_place.calls
  unfold btree_node_place.W
  intro k1 hk1 k2 hk2
  have B1 := Blk.new h k1 92 [.pointer (some ⟨k, 0, none⟩)]
  have s1 : Sub h (h.upd k1 (.cells [Value.pointer (some ⟨k, 0, none⟩)].toArray 92 (0, 0))) := Sub.upd hk1 _
  have B2 := Blk.new (h.upd k1 (.cells [Value.pointer (some ⟨k, 0, none⟩)].toArray 92 (0, 0))) k2 9 [.string key]
  have s2 := Sub.upd hk2 (.cells [Value.string key].toArray 9 (0, 0))
  have B1' := B1.upd hk2 (.cells [Value.string key].toArray 9 (0, 0))
  have s := s1.trans s2
  generalize ((h.upd k1 (.cells [Value.pointer (some ⟨k, 0, none⟩)].toArray 92 (0, 0))).upd k2 (.cells [Value.string key].toArray 9 (0, 0))) = x at B2 B1' s
  have Nx := N.sub s
  refine ⟨_, B1'.cell' 0 rfl, k, 0, rfl, a, nd.l.length, c, Nx.c2, ?_⟩
  refine search_spec (p := fun i => match nd.l[i]? with | some e => !blt e.key key | none => true) (m := kvAt key nd.kv) (by omega) (by rw [← nd.kv_len]; exact kvAt_le _ _) (fun i hi => ?_) (fun i hi hn => ?_) (fun i hi K' hK' => ?_) ⟨_, rfl, hK x s⟩
  · have hn : i < nd.l.length := by have := kvAt_le key nd.kv; rw [nd.kv_len] at this; omega
    have he : nd.l[i]? = some nd.l[i] := List.getElem?_eq_getElem hn
    have := kvAt_before key nd.kv i _ (Nd.kv_get he) hi
    simp only [he]
    rw [show blt nd.l[i].key key = true from this]; rfl
  · have he : nd.l[i]? = some nd.l[i] := List.getElem?_eq_getElem hn
    have := kvAt_after hs (Nd.kv_get he) hi
    simp only [he]
    rw [show blt nd.l[i].key key = false from this]; rfl
  · have he : nd.l[i]? = some nd.l[i] := List.getElem?_eq_getElem hi
    simp only [he] at hK'
    obtain ⟨b, o, ea, g0, g1, g2⟩ := Nx.get he
    refine fnI (cap := [_, _]) (by kernel_rfl) ?_
    apply btree_node_place_1.calls
    unfold btree_node_place_1.W
    refine ⟨_, B1'.cell' 0 rfl, k, 0, rfl, a, nd.l.length, c, Nx.c2, by omega, by show (i : Int) < (nd.l.length : Int); omega, b, o, ea, _, by rw [Int.toNat_natCast]; exact g0, _, B2.cell' 0 rfl, ?_⟩
    rw [bltS_val]
    exact hK'
theorem below_spec (key : ByteArray) (hK : ∀ h', Sub h h' → K (.int .i64 ((kvBe key nd.kv : Nat) - 1 : Int)) h') : CallsH Tryz.prog btree_node_below.id #[.pointer (some ⟨k, 0, none⟩), .string key] h K := by
  apply btree_node_below.calls
  unfold btree_node_below.W
  intro k1 hk1 k2 hk2
  have B1 := Blk.new h k1 92 [.pointer (some ⟨k, 0, none⟩)]
  have s1 : Sub h (h.upd k1 (.cells [Value.pointer (some ⟨k, 0, none⟩)].toArray 92 (0, 0))) := Sub.upd hk1 _
  have B2 := Blk.new (h.upd k1 (.cells [Value.pointer (some ⟨k, 0, none⟩)].toArray 92 (0, 0))) k2 9 [.string key]
  have s2 := Sub.upd hk2 (.cells [Value.string key].toArray 9 (0, 0))
  have B1' := B1.upd hk2 (.cells [Value.string key].toArray 9 (0, 0))
  have s := s1.trans s2
  generalize ((h.upd k1 (.cells [Value.pointer (some ⟨k, 0, none⟩)].toArray 92 (0, 0))).upd k2 (.cells [Value.string key].toArray 9 (0, 0))) = x at B2 B1' s
  have Nx := N.sub s
  have hbe := kvBe_le key nd.kv
  rw [nd.kv_len] at hbe
  refine ⟨_, B1'.cell' 0 rfl, k, 0, rfl, a, nd.l.length, c, Nx.c2, ?_⟩
  refine search_spec (p := fun i => match nd.l[i]? with | some e => blt key e.key | none => true) (m := kvBe key nd.kv) (by omega) hbe (fun i hi => ?_) (fun i hi hn => ?_) (fun i hi K' hK' => ?_) ⟨_, rfl, ?_⟩
  · have he : nd.l[i]? = some nd.l[i] := List.getElem?_eq_getElem (by omega)
    have := kvBe_before key nd.kv i _ (Nd.kv_get he) hi
    simp only [he]
    exact this
  · have he : nd.l[i]? = some nd.l[i] := List.getElem?_eq_getElem hn
    have := kvBe_after hs (Nd.kv_get he) hi
    simp only [he]
    exact this
  · have he : nd.l[i]? = some nd.l[i] := List.getElem?_eq_getElem hi
    simp only [he] at hK'
    obtain ⟨b, o, ea, g0, g1, g2⟩ := Nx.get he
    refine fnI (cap := [_, _]) (by kernel_rfl) ?_
    apply btree_node_below_1.calls
    unfold btree_node_below_1.W
    refine ⟨_, B1'.cell' 0 rfl, k, 0, rfl, a, nd.l.length, c, Nx.c2, by omega, by show (i : Int) < (nd.l.length : Int); omega, b, o, ea, _, by rw [Int.toNat_natCast]; exact g0, _, B2.cell' 0 rfl, ?_⟩
    rw [bltS_val, ble_not]
    exact hK'
  · rw [wid (by omega) (by omega)]; exact hK x s
end
section
variable {k : Nat} {a : Option Addr} {c : Nat} {nd : Nd} (N : NdEx h k a c nd)
include N
theorem kid_spec {j id : Nat} (hj : nd.kids[j]? = some id) (hK : K (.int .i64 (id : Nat)) h) : CallsH Tryz.prog btree_node_kid.id #[.pointer (some ⟨k, 0, none⟩), .int .i64 ((j : Int) - 1)] h K := by
  apply btree_node_kid.calls
  unfold btree_node_kid.W
  cases j with
  | zero =>
    have : nd.first = id := by simpa [Nd.kids] using hj
    subst this
    exact split_dec (fun _ => ⟨_, N.c1, hK⟩) fun e => by omega
  | succ i =>
    obtain ⟨e, he, rfl⟩ : ∃ e, nd.l[i]? = some e ∧ e.kid = id := by simpa [Nd.kids, Option.map_eq_some_iff] using hj
    have hi := (List.getElem?_eq_some_iff.1 he).1
    obtain ⟨b, o, ea, g0, g1, g2⟩ := N.get he
    have e1 : ((i + 1 : Nat) : Int) - 1 = ((i : Nat) : Int) := by omega
    rw [e1]
    exact split_dec (fun e => by omega) fun _ => ⟨_, _, _, N.c2, by omega, by show (i : Int) < (nd.l.length : Int); omega, b, o, ea, _, by rw [Int.toNat_natCast]; exact g2, hK⟩
def Nd.lo (nd : Nd) (f : ByteArray) (j : Nat) : ByteArray := match j with
  | 0 => f
  | i + 1 => match nd.l[i]? with
    | some e => e.key
    | none => f
def Nd.hi (nd : Nd) (t : ByteArray) (j : Nat) : ByteArray := match nd.l[j]? with
  | some e => e.key
  | none => t
theorem keys_spec {j : Nat} (hj : j ≤ nd.l.length) (hl : nd.l.length < 65536) (f t : ByteArray) (hK : K (.tuple #[.string (nd.lo f j), .string (nd.hi t j)]) h) : CallsH Tryz.prog btree_node_keys.id #[.pointer (some ⟨k, 0, none⟩), .int .i64 ((j : Int) - 1), .string f, .string t] h K := by
  apply btree_node_keys.calls
  unfold btree_node_keys.W
  have e1 : IntKind.i64.wrap ((j : Int) - 1 + 1) = ((j : Nat) : Int) := by rw [wid (by omega) (by omega)]; omega
  rw [e1]
  refine ⟨fun s x => s = nd.lo f j ∧ x = h, ?_, ?_⟩
  · rintro s x ⟨rfl, rfl⟩
    refine ⟨_, _, _, N.c2, split_dec (fun g => ?_) fun g => ?_⟩
    · have g : (j : Int) < (nd.l.length : Int) := g
      have he : nd.l[j]? = some nd.l[j] := List.getElem?_eq_getElem (by omega)
      obtain ⟨b, o, ea, g0, g1, g2⟩ := N.get he
      refine ⟨_, _, _, N.c2, by omega, g, b, o, ea, _, by rw [Int.toNat_natCast]; exact g0, ?_⟩
      unfold Nd.hi at hK
      simp only [he] at hK
      exact hK
    · have g : ¬ (j : Int) < (nd.l.length : Int) := g
      have he : nd.l[j]? = none := List.getElem?_eq_none (by omega)
      unfold Nd.hi at hK
      simp only [he] at hK
      exact hK
  · cases j with
    | zero => exact split_dec (fun e => by omega) fun _ => ⟨rfl, rfl⟩
    | succ i =>
      have he : nd.l[i]? = some nd.l[i] := List.getElem?_eq_getElem (by omega)
      obtain ⟨b, o, ea, g0, g1, g2⟩ := N.get he
      have e1 : ((i + 1 : Nat) : Int) - 1 = ((i : Nat) : Int) := by omega
      rw [e1]
      exact split_dec (fun _ => ⟨_, _, _, N.c2, by omega, by show (i : Int) < (nd.l.length : Int); omega, b, o, ea, _, by rw [Int.toNat_natCast]; exact g0, by unfold Nd.lo; simp only [he], rfl⟩) fun e => by omega
end
def Nd.esz (lf : Bool) (e : En) : Nat := 3 + e.key.size + (if lf then e.val.size else 0)
def eszs (lf : Bool) (l : List En) : Nat := (l.map (Nd.esz lf)).sum
def Nd.base (lf : Bool) : Nat := if lf then 3 else 5
def Nd.size (nd : Nd) : Nat := Nd.base nd.leaf + eszs nd.leaf nd.l
theorem eszs_cons (lf : Bool) (e : En) (l : List En) : eszs lf (e :: l) = Nd.esz lf e + eszs lf l := by unfold eszs; simp
theorem eszs_append (lf : Bool) (l m : List En) : eszs lf (l ++ m) = eszs lf l + eszs lf m := by unfold eszs; simp
theorem eszs_take_le (lf : Bool) (l : List En) (i : Nat) : eszs lf (l.take i) ≤ eszs lf l := by
  conv => rhs; rw [← List.take_append_drop i l, eszs_append]
  omega
theorem nsize_spec {k : Nat} {a : Option Addr} {c : Nat} {nd : Nd} (N : NdEx h k a c nd) (hb : nd.size < 2147483648) (hl : nd.l.length < 2147483648) (hK : K (.int .i64 (nd.size : Nat)) h) : CallsH Tryz.prog btree_node_size.id #[.pointer (some ⟨k, 0, none⟩)] h K := by
  apply btree_node_size.calls
  unfold btree_node_size.W
  have kd : ((nd.kind : Nat) : Int) = if nd.leaf = true then 1 else 2 := by unfold Nd.kind; split <;> rfl
  refine ⟨fun i x => i = (Nd.base nd.leaf : Nat) ∧ h = x, ?_, ?_⟩
  · rintro i x ⟨rfl, rfl⟩
    refine ⟨_, _, _, N.c2, fun i j x m => ∃ q : Nat, j = (q : Int) ∧ i = ((Nd.base nd.leaf + eszs nd.leaf (nd.l.take q) : Nat) : Int) ∧ q ≤ nd.l.length ∧ m = nd.l.length - q ∧ x = h, ⟨_, 0, rfl, rfl, Nat.zero_le _, rfl, rfl⟩, ?_⟩
    rintro i j x m ⟨q, rfl, rfl, hq, rfl, rfl⟩
    refine split_dec (fun g => ?_) fun g => ?_
    · have g : (q : Int) < (nd.l.length : Int) := g
      have hq' : q < nd.l.length := by omega
      have he : nd.l[q]? = some nd.l[q] := List.getElem?_eq_getElem hq'
      obtain ⟨b, o, ea, g0, g1, g2⟩ := N.get he
      have tk : nd.l.take (q + 1) = nd.l.take q ++ [nd.l[q]] := by rw [List.take_add_one, he]; rfl
      have e2 : eszs nd.leaf (nd.l.take (q + 1)) = eszs nd.leaf (nd.l.take q) + Nd.esz nd.leaf nd.l[q] := by rw [tk, eszs_append]; unfold eszs; simp
      have e3 := eszs_take_le nd.leaf nd.l (q + 1)
      unfold Nd.size at hb
      have e4 : IntKind.i64.wrap ((q : Int) + 1) = ((q + 1 : Nat) : Int) := by rw [wid (by omega) (by omega)]; omega
      have e5 : Nd.esz nd.leaf nd.l[q] = 3 + nd.l[q].key.size + (if nd.leaf = true then nd.l[q].val.size else 0) := rfl
      refine ⟨by omega, g, b, o, ea, _, by rw [Int.toNat_natCast]; exact g0, _, by rw [Int.toNat_natCast]; exact g1, _, by rw [Int.toNat_natCast]; exact g2, _, N.c0, ?_⟩
      have z1 : Int.ofNat nd.l[q].key.size = ((nd.l[q].key.size : Nat) : Int) := rfl
      have z2 : Int.ofNat nd.l[q].val.size = ((nd.l[q].val.size : Nat) : Int) := rfl
      rw [e4, kd, z1, z2]
      cases hlf : nd.leaf with
      | true =>
        rw [hlf] at e2 e3 e5 hb
        refine split_eq (fun _ => ⟨_, ?_, q + 1, rfl, ?_, hq', rfl, rfl⟩) fun e => absurd (if_pos rfl) e
        · omega
        · rw [if_pos rfl] at e5
          rw [e2, e5, wid (x := 3 + _) (by omega) (by omega), wid (x := ((Nd.base true + eszs true (nd.l.take q) : Nat) : Int) + _) (by omega) (by omega), wid (by omega) (by omega)]
          omega
      | false =>
        rw [hlf] at e2 e3 e5 hb
        refine split_eq (fun e => by cases e) fun e => ⟨_, ?_, q + 1, rfl, ?_, hq', rfl, rfl⟩
        · omega
        · rw [if_neg (by decide)] at e5
          rw [e2, e5, wid (x := 3 + _) (by omega) (by omega), wid (by omega) (by omega)]
          omega
    · have g : ¬ (q : Int) < (nd.l.length : Int) := g
      have : q = nd.l.length := by omega
      subst this
      rw [List.take_length]
      exact hK
  · refine ⟨_, N.c0, ?_⟩
    rw [kd]
    cases hlf : nd.leaf with
    | true => exact split_eq (fun e => by cases e) fun e => ⟨rfl, rfl⟩
    | false => exact split_eq (fun e => ⟨by decide, rfl⟩) fun e => absurd (if_neg (by decide)) e
end Go.Proofs.YthbogjbcecmopaaGreatDoor
namespace Go.Proofs.YthbogjbcecmopaaGreatDoor
open Go.Gx
set_option maxRecDepth 100000
set_option linter.unusedVariables false
variable {h : Hp} {K : Value → Hp → Prop}
theorem ext_list (s : ByteArray) (a b : Nat) : (s.extract a b).data.toList = (s.data.toList.drop a).take (b - a) := by
  rw [ByteArray.data_extract, Array.toList_extract, List.extract_eq_take_drop]
theorem ext_size (s : ByteArray) {a b : Nat} (hb : b ≤ s.size) : (s.extract a b).size = b - a := by
  rw [← size_len, ext_list, List.length_take, List.length_drop, size_len]; omega
theorem byteN_ext (s : ByteArray) (a b j : Nat) : byteN (s.extract a b) j = if j < b - a then byteN s (a + j) else 0 := by
  unfold byteN
  rw [ext_list, List.getElem?_take]
  split
  · rw [List.getElem?_drop]
  · rfl
theorem byteN_out {s : ByteArray} {j : Nat} (hj : s.size ≤ j) : byteN s j = 0 := by
  unfold byteN
  rw [List.getElem?_eq_none (by rw [size_len]; exact hj)]; rfl
theorem ext_ext (s : ByteArray) {a b c d : Nat} (hd : a + d ≤ b) : (s.extract a b).extract c d = s.extract (a + c) (a + d) := by
  apply bytes_ext
  rw [ext_list, ext_list, ext_list, List.drop_take, List.take_take, List.drop_drop]
  congr 1; omega
theorem ext_all (s : ByteArray) : s.extract 0 s.size = s := by
  apply bytes_ext
  rw [ext_list, List.drop_zero, Nat.sub_zero, ← size_len, List.take_length]
def zerosB (s : ByteArray) (i : Nat) : Bool := (s.data.toList.drop i).all fun b => b == 0
theorem zerosB_iff {s : ByteArray} {i : Nat} : zerosB s i = true ↔ ∀ j, i ≤ j → byteN s j = 0 := by
  unfold zerosB
  rw [List.all_eq_true]
  constructor
  · intro H j hj
    unfold byteN
    cases e : s.data.toList[j]? with
    | none => rfl
    | some b =>
      have : b ∈ s.data.toList.drop i := by
        rw [List.mem_iff_getElem?]
        exact ⟨j - i, by rw [List.getElem?_drop, show i + (j - i) = j by omega, e]⟩
      have := H b this
      simp at this
      subst this; rfl
  · intro H b hb
    obtain ⟨j, hj⟩ := List.mem_iff_getElem?.1 hb
    rw [List.getElem?_drop] at hj
    have := H (i + j) (by omega)
    unfold byteN at this
    rw [hj] at this
    have h2 : b.toNat = 0 := this
    have : b = 0 := UInt8.toNat_inj.1 h2
    rw [this]; rfl
theorem trimR_spec (s : ByteArray) (hs : s.size < 2147483648) (hK : ∀ m, m ≤ s.size → (∀ j, m ≤ j → byteN s j = 0) → (m = 0 ∨ byteN s (m - 1) ≠ 0) → K (.string (s.extract 0 m)) h) : CallsH Tryz.prog strings_trimRightByte.id #[.string s, .int .u8 0] h K := by
  apply strings_trimRightByte.calls
  unfold strings_trimRightByte.W
  refine ⟨fun t x k => ∃ m : Nat, t = s.extract 0 m ∧ m ≤ s.size ∧ (∀ j, m ≤ j → byteN s j = 0) ∧ k = m ∧ h = x, ⟨_, s.size, (ext_all s).symm, Nat.le_refl _, fun j hj => byteN_out hj, rfl, rfl⟩, ?_⟩
  rintro t x k ⟨m, rfl, hm, hz, rfl, rfl⟩
  have sz : (s.extract 0 k).size = k := by rw [ext_size s hm]; rfl
  have szI : Int.ofNat (s.extract 0 k).size = ((k : Nat) : Int) := by rw [sz]; rfl
  rw [szI]
  refine split_dec (fun g => ?_) fun g => ?_
  · have g : 0 < k := by have g : (k : Int) > 0 := g; omega
    have e1 : IntKind.i64.wrap ((k : Int) - 1) = ((k - 1 : Nat) : Int) := by rw [wid (by omega) (by omega)]; omega
    rw [e1, Int.toNat_natCast]
    have eb : byteAt (s.extract 0 k) (k - 1) = ((byteN s (k - 1) : Nat) : Int) := by rw [byteAt_N, byteN_ext, if_pos (by omega), Nat.zero_add]
    refine ⟨by omega, by omega, ?_⟩
    rw [eb]
    refine split_eq (fun e => ⟨by omega, by omega, k - 1, by omega, k - 1, ext_ext s (by omega) |>.trans (by rw [Nat.zero_add, Nat.zero_add]), by omega, fun j hj => ?_, rfl, rfl⟩) fun e => hK k hm hz (.inr fun e2 => e (by rw [e2]; rfl))
    by_cases ej : j = k - 1
    · rw [ej]; omega
    · exact hz j (by omega)
  · have g : k = 0 := by
      have g : ¬ (k : Int) > 0 := g
      omega
    exact hK k hm hz (.inl g)
theorem trimL_spec (s : ByteArray) (hs : s.size < 2147483648) (hK : ∀ m, m ≤ s.size → (∀ j, j < m → byteN s j = 0) → K (.string (s.extract m s.size)) h) : CallsH Tryz.prog strings_trimLeftByte.id #[.string s, .int .u8 0] h K := by
  apply strings_trimLeftByte.calls
  unfold strings_trimLeftByte.W
  refine ⟨fun t x k => ∃ m : Nat, t = s.extract m s.size ∧ m ≤ s.size ∧ (∀ j, j < m → byteN s j = 0) ∧ k = s.size - m ∧ h = x, ⟨_, 0, (ext_all s).symm, Nat.zero_le _, (fun j hj => by omega), rfl, rfl⟩, ?_⟩
  rintro t x k ⟨m, rfl, hm, hz, rfl, rfl⟩
  have sz : (s.extract m s.size).size = s.size - m := ext_size s (Nat.le_refl _)
  have szI : Int.ofNat (s.extract m s.size).size = ((s.size - m : Nat) : Int) := by rw [sz]; rfl
  rw [szI]
  refine split_dec (fun g => ?_) fun g => hK m hm hz
  have g : 0 < s.size - m := by have g : ((s.size - m : Nat) : Int) > 0 := g; omega
  have eb : byteAt (s.extract m s.size) 0 = ((byteN s m : Nat) : Int) := by rw [byteAt_N, byteN_ext, if_pos (by omega), Nat.add_zero]
  rw [eb, sz]
  refine split_cond (fun _ => split_eq (fun e => ⟨by decide, by omega, s.size - (m + 1), by omega, m + 1, (ext_ext s (by omega)).trans (by rw [show m + Int.toNat 1 = m + 1 from rfl, show m + (s.size - m) = s.size by omega]), by omega, fun j hj => ?_, rfl, rfl⟩) fun e => hK m hm hz) fun e => ?_
  · by_cases ej : j = m
    · rw [ej]; omega
    · exact hz j (by omega)
  · have : Nat.blt 0 (s.size - m) = true := Nat.blt_eq.mpr g
    rw [this] at e; cases e
theorem trim_spec (s : ByteArray) (hs : s.size < 2147483648) (hK : ∀ t : ByteArray, (t = bytesL [] ↔ ∀ j, byteN s j = 0) → K (.string t) h) : CallsH Tryz.prog strings_Trim.id #[.string s, .string (bytesL [0])] h K := by
  apply strings_Trim.calls
  unfold strings_Trim.W
  refine split_beqS (fun e => hK s ?_) fun e => split_beqS (fun e2 => ?_) fun e2 => split_eq (fun _ => split_cond (fun _ => split_dec (fun _ => split_cond (fun _ => split_cond (fun _ => ?_) fun e => by cases e) fun e => by cases e) fun e => absurd (show ((0 : Int) < 128) by decide) e) fun e => by cases e) fun e => absurd rfl e
  · subst e; exact ⟨fun _ j => byteN_out (Nat.zero_le _), fun _ => rfl⟩
  · have := congrArg ByteArray.size e2; cases this
  · have e0 : byteAt (bytesL [0]) 0 = 0 := rfl
    rw [e0]
    refine trimR_spec s hs fun m hm hz hc => ⟨_, rfl, ?_⟩
    have s1 : (s.extract 0 m).size = m := by rw [ext_size s hm]; rfl
    refine trimL_spec _ (by omega) fun m2 hm2 hz2 => ⟨_, rfl, hK _ ?_⟩
    rw [s1] at hm2 ⊢
    have s2 : ((s.extract 0 m).extract m2 m).size = m - m2 := ext_size _ (by omega)
    constructor
    · intro e j
      have : m = m2 := by
        rw [e] at s2
        have : (bytesL []).size = 0 := rfl
        omega
      subst this
      rcases Nat.lt_or_ge j m with h' | h'
      · have := hz2 j h'
        rw [byteN_ext, if_pos (by omega), Nat.zero_add] at this
        exact this
      · exact hz j h'
    · intro e
      rcases hc with rfl | hc
      · apply bytes_ext
        rw [ext_list, Nat.zero_sub, List.take_zero]; rfl
      · exact absurd (e _) hc
def vN (lf : Bool) (x : Nat) : Nat := if lf then x else 0
def kN (lf : Bool) (x : Nat) : Nat := if lf then 0 else x
def parseN (b : ByteArray) (lf : Bool) : Nat → Nat → Option (List En × Nat)
  | 0, i => some ([], i)
  | m + 1, i =>
    if i + 3 > b.size then none
    else if byteN b i + vN lf (twoN b (i + 1)) > b.size - (i + 3) then none
    else if may (b.extract (i + 3) (i + 3 + byteN b i)) (b.extract (i + 3 + byteN b i) (i + 3 + byteN b i + vN lf (twoN b (i + 1)))) = false then none
    else (parseN b lf m (i + 3 + byteN b i + vN lf (twoN b (i + 1)))).map fun p => (⟨b.extract (i + 3) (i + 3 + byteN b i), b.extract (i + 3 + byteN b i) (i + 3 + byteN b i + vN lf (twoN b (i + 1))), kN lf (twoN b (i + 1))⟩ :: p.1, p.2)
theorem parseN_succ (b : ByteArray) (lf : Bool) (m i : Nat) : parseN b lf (m + 1) i = if i + 3 > b.size then none
    else if byteN b i + vN lf (twoN b (i + 1)) > b.size - (i + 3) then none
    else if may (b.extract (i + 3) (i + 3 + byteN b i)) (b.extract (i + 3 + byteN b i) (i + 3 + byteN b i + vN lf (twoN b (i + 1)))) = false then none
    else (parseN b lf m (i + 3 + byteN b i + vN lf (twoN b (i + 1)))).map fun p => (⟨b.extract (i + 3) (i + 3 + byteN b i), b.extract (i + 3 + byteN b i) (i + 3 + byteN b i + vN lf (twoN b (i + 1))), kN lf (twoN b (i + 1))⟩ :: p.1, p.2) := rfl
def parseB (b : ByteArray) : Option Nd :=
  if byteN b 0 = 1 ∨ byteN b 0 = 2 then
    match parseN b (byteN b 0 == 1) (twoN b 1) (Nd.base (byteN b 0 == 1)) with
    | none => none
    | some p => if zerosB b p.2 then some ⟨byteN b 0 == 1, kN (byteN b 0 == 1) (twoN b 3), p.1⟩ else none
  else none
def EnOk (lf : Bool) (e : En) : Prop := may e.key e.val = true ∧ e.kid < 65536 ∧ (if lf then e.kid = 0 else e.val = bytesL [])
theorem parseN_ok {b : ByteArray} {lf : Bool} : ∀ (m i : Nat) (p : List En × Nat), parseN b lf m i = some p → i ≤ b.size → p.1.length = m ∧ (∀ e ∈ p.1, EnOk lf e) ∧ p.2 = i + eszs lf p.1 ∧ p.2 ≤ b.size
  | 0, i, p, e, hi => by
    cases e
    exact ⟨rfl, (fun e h => by cases h), rfl, hi⟩
  | m + 1, i, p, e, hi => by
    unfold parseN at e
    split at e
    · cases e
    · split at e
      · cases e
      · rename_i g1 g2
        split at e
        · cases e
        · rename_i g3
          obtain ⟨q, hq, rfl⟩ := Option.map_eq_some_iff.1 e
          obtain ⟨h1, h2, h3, h4⟩ := parseN_ok m _ q hq (by omega)
          refine ⟨by simp [h1], ?_, ?_, h4⟩
          · intro e he
            rcases List.mem_cons.1 he with rfl | he
            · refine ⟨by simpa using g3, ?_, ?_⟩
              · show kN lf (twoN b (i + 1)) < 65536
                unfold kN
                have := twoN_lt b (i + 1)
                split <;> omega
              · cases lf with
                | true => rfl
                | false =>
                  apply bytes_ext
                  show (b.extract _ (_ + vN false _)).data.toList = []
                  rw [ext_list, show ∀ x, vN false x = 0 from fun _ => rfl, Nat.add_zero, Nat.sub_self, List.take_zero]
            · exact h2 e he
          · rw [h3, eszs_cons]
            unfold Nd.esz
            simp only []
            rw [ext_size b (by omega), ext_size b (by omega)]
            cases lf with
            | true => simp only [vN, if_true] at *; omega
            | false => simp only [vN, Bool.false_eq_true, if_false] at *; omega
structure NdOk (nd : Nd) : Prop where
  en : ∀ e ∈ nd.l, EnOk nd.leaf e
  first : nd.first < 65536
  size : nd.size ≤ 1024
  z : nd.leaf = true → nd.first = 0
theorem parseB_ok {b : ByteArray} (hb : b.size = 1024) {nd : Nd} (e : parseB b = some nd) : NdOk nd := by
  unfold parseB at e
  split at e
  · split at e
    · cases e
    · rename_i p hp
      split at e
      · cases e
        obtain ⟨h1, h2, h3, h4⟩ := parseN_ok _ _ _ hp (by rw [hb]; unfold Nd.base; split <;> decide)
        refine ⟨h2, ?_, ?_, fun e => by show (if _ then _ else _) = 0; rw [if_pos e]⟩
        · show kN _ (twoN b 3) < 65536
          unfold kN
          have := twoN_lt b 3
          split <;> omega
        · show Nd.base _ + eszs _ p.1 ≤ 1024
          rw [← hb, ← h3]; exact h4
      · cases e
  · cases e
theorem NdOk.len {nd : Nd} (o : NdOk nd) : 4 * nd.l.length ≤ 1024 := by
  have h1 : ∀ l : List En, (∀ e ∈ l, EnOk nd.leaf e) → 4 * l.length ≤ eszs nd.leaf l := by
    intro l hl
    induction l with
    | nil => exact Nat.zero_le _
    | cons e l ih =>
      have := ih fun e he => hl e (List.mem_cons_of_mem _ he)
      have h2 := (hl e List.mem_cons_self).1
      unfold may at h2
      have h2 := of_decide_eq_true h2
      rw [eszs_cons, List.length_cons]
      unfold Nd.esz
      omega
  have := h1 nd.l o.en
  have := o.size
  unfold Nd.size at this
  omega
end Go.Proofs.YthbogjbcecmopaaGreatDoor
namespace Go.Proofs.YthbogjbcecmopaaGreatDoor
open Go.Gx
set_option maxRecDepth 100000
set_option linter.unusedVariables false
variable {h : Hp} {K : Value → Hp → Prop}
theorem NdOw.app {k : Nat} {a : Option Addr} {c : Nat} {lf : Bool} {fi : Nat} {L : List En} {e : En} (N : NdOw h k a c ⟨lf, fi, L⟩) {h' : Hp} {a' : Option Addr} {c' n : Nat} (hn : n = L.length) (O : OwnR enC 3 h' 100 a' c' (L ++ [e])) (kp : Keep (blkOf a) h h') (nb : ∀ b, blkOf a' b → blkOf a b ∨ h b = none) :
    StoreOk h' k 2 1 ∧ NdOw (h'.put k 2 [.slice a' (n + 1) c']) k a' c' ⟨lf, fi, L ++ [e]⟩ := by
  subst hn
  have B : Blk h' k 97 _ := N.ex.blk.keep kp fun hb => N.ex.ne k hb rfl
  have ne' : ∀ b, blkOf a' b → b ≠ k := fun b hb e => by
    subst e
    rcases nb b hb with h1 | h1
    · exact N.ex.ne b h1 rfl
    · have := N.ex.blk; unfold Blk at this; rw [this] at h1; cases h1
  refine ⟨B.store (by show 2 + 1 ≤ 3; decide), NdOw.mk' ?_ (O.keep (Keep.put (fun c => c = k) _ _ _ rfl) ne') ne'⟩
  have := B.put 2 [.slice a' (L.length + 1) c']
  unfold ndC
  rw [List.length_append]
  exact this
set_option maxHeartbeats 2000000 in
theorem parse_spec (b : ByteArray) (hb : b.size = 1024) (hN : parseB b = none → ∀ h' a, Sub h h' → K (.tuple #[.pointer a, .bool false]) h') (hG : ∀ nd, parseB b = some nd → ∀ h' k, NdNew h h' k nd → K (.tuple #[.pointer (some ⟨k, 0, none⟩), .bool true]) h') :
    CallsH Tryz.prog btree_parse.id #[.string b] h K := by
  apply btree_parse.calls
  unfold btree_parse.W
  have szI : Int.ofNat b.size = ((1024 : Nat) : Int) := by rw [hb]; rfl
  refine split_cond (fun _ => ?_) fun e => by rw [hb] at e; cases e
  intro k1 hk1
  have b0 := byteN_lt b 0
  have ew : IntKind.i64.wrap (byteAt b 0) = ((byteN b 0 : Nat) : Int) := by rw [byteAt_N]; exact widN _ (by omega)
  rw [ew, szI]
  have hx : setL [Value.int .i64 0, .int .i64 0, .slice none 0 0] 0 [.int .i64 (byteN b 0 : Nat)] = [.int .i64 (byteN b 0 : Nat), .int .i64 0, .slice none 0 0] := rfl
  rw [hx]
  have B := Blk.new h k1 97 [.int .i64 (byteN b 0 : Nat), .int .i64 0, .slice none 0 0]
  have s := Sub.upd hk1 (.cells [Value.int .i64 (byteN b 0 : Nat), .int .i64 0, .slice none 0 0].toArray 97 (0, 0))
  generalize h.upd k1 (.cells [Value.int .i64 (byteN b 0 : Nat), .int .i64 0, .slice none 0 0].toArray 97 (0, 0)) = y at B s ⊢
  have bad : ¬ (byteN b 0 = 1 ∨ byteN b 0 = 2) → parseB b = none := fun hn => by unfold parseB; rw [if_neg hn]
  refine ⟨_, B.cell' 0 rfl, split_ne (fun ne1 => ⟨_, B.cell' 0 rfl, split_ne (fun ne2 => hN (bad fun e => ?_) _ _ s) ?g1⟩) ?g2⟩
  · omega
  all_goals
    intro e0
    obtain ⟨lf, hlf, ek⟩ : ∃ lf : Bool, (byteN b 0 == 1) = lf ∧ byteN b 0 = if lf then 1 else 2 := ⟨_, rfl, by
      by_cases e : byteN b 0 = 1
      · rw [e]; rfl
      · have e2 : byteN b 0 = 2 := by omega
        rw [e2]; rfl⟩
    have pe : parseB b = match parseN b lf (twoN b 1) (Nd.base lf) with
        | none => none
        | some p => if zerosB b p.2 then some ⟨lf, kN lf (twoN b 3), p.1⟩ else none := by
      unfold parseB
      rw [if_pos (by cases lf with | true => left; exact ek | false => right; exact ek), hlf]
      all_goals rfl
    have kd : ∀ fi L, ((byteN b 0 : Nat) : Int) = ((Nd.kind ⟨lf, fi, L⟩ : Nat) : Int) := fun fi L => by rw [ek]; rfl
    have t1 := twoN_lt b 1
    refine ⟨fun i x => ∃ a c, i = (Nd.base lf : Nat) ∧ Sub h x ∧ NdOw x k1 a c ⟨lf, kN lf (twoN b 3), []⟩ ∧ ∀ c', blkOf a c' → h c' = none, ?_, ?_⟩
    · rintro i x ⟨a, c, rfl, sx, N, fr⟩
      refine two_spec (i := 1) (by omega) (by omega) ⟨_, rfl, ?_⟩
      refine ⟨fun i j x m => ∃ (p q : Nat) (L : List En) (a : Option Addr) (c : Nat), i = (p : Int) ∧ j = (q : Int) ∧ m = twoN b 1 - q ∧ q ≤ twoN b 1 ∧ p ≤ 1024 ∧ L.length = q ∧ Sub h x ∧ NdOw x k1 a c ⟨lf, kN lf (twoN b 3), L⟩ ∧ (∀ c', blkOf a c' → h c' = none) ∧
        parseN b lf (twoN b 1) (Nd.base lf) = (parseN b lf (twoN b 1 - q) p).map fun r => (L ++ r.1, r.2), ⟨_, Nd.base lf, 0, [], a, c, rfl, rfl, rfl, Nat.zero_le _, by unfold Nd.base; split <;> decide, rfl, sx, N, fr, ?_⟩, ?_⟩
      · rw [Nat.sub_zero]; cases parseN b lf (twoN b 1) (Nd.base lf) <;> rfl
      rintro i j x m ⟨p, q, L, a, c, rfl, rfl, rfl, hq, hp, hL, sx, N, fr, hpe⟩
      refine split_dec (fun g => ?_) fun g => ?_
      · obtain ⟨r, hr⟩ : ∃ r, twoN b 1 - q = r + 1 := ⟨twoN b 1 - q - 1, by omega⟩
        rw [hr] at hpe
        have e3 : IntKind.i64.wrap ((p : Int) + 3) = ((p + 3 : Nat) : Int) := by rw [wid (by omega) (by omega)]; omega
        rw [e3]
        refine split_dec (fun g2 => hN ?_ _ _ sx) fun g2 => ?_
        · rw [pe, hpe, parseN_succ]
          rw [if_pos (by rw [hb]; omega)]; rfl
        have e4 : IntKind.i64.wrap ((p : Int) + 1) = ((p + 1 : Nat) : Int) := by rw [wid (by omega) (by omega)]; omega
        rw [e4]
        refine ⟨by omega, by omega, two_spec (by omega) (by omega) ⟨_, rfl, ?_⟩⟩
        have t2 := twoN_lt b (p + 1)
        have bp := byteN_lt b p
        have vle : vN lf (twoN b (p + 1)) ≤ twoN b (p + 1) := by unfold vN; split <;> omega
        refine ⟨fun v s t kd x' => v = (vN lf (twoN b (p + 1)) : Nat) ∧ kd = (kN lf (twoN b (p + 1)) : Nat) ∧ x = x', ?_, ⟨_, N.ex.c0, ?_⟩⟩
        · rintro v s t kd x' ⟨rfl, rfl, rfl⟩
          have e5 : IntKind.i64.wrap (byteAt b ((p : Nat) : Int).toNat) = ((byteN b p : Nat) : Int) := by rw [Int.toNat_natCast, byteAt_N]; exact widN _ (by omega)
          have e6 : IntKind.i64.wrap (((byteN b p : Nat) : Int) + ((vN lf (twoN b (p + 1)) : Nat) : Int)) = ((byteN b p + vN lf (twoN b (p + 1)) : Nat) : Int) := by rw [wid (by omega) (by omega)]; omega
          have e7 : IntKind.i64.wrap (((1024 : Nat) : Int) - ((p + 3 : Nat) : Int)) = ((1024 - (p + 3) : Nat) : Int) := by rw [wid (by omega) (by omega)]; omega
          have e8 : IntKind.i64.wrap (((p + 3 : Nat) : Int) + ((byteN b p : Nat) : Int)) = ((p + 3 + byteN b p : Nat) : Int) := by rw [wid (by omega) (by omega)]; omega
          have e9 : IntKind.i64.wrap (((p + 3 + byteN b p : Nat) : Int) + ((vN lf (twoN b (p + 1)) : Nat) : Int)) = ((p + 3 + byteN b p + vN lf (twoN b (p + 1)) : Nat) : Int) := by rw [wid (by omega) (by omega)]; omega
          have e10 : IntKind.i64.wrap (((p + 3 : Nat) : Int) + ((byteN b p + vN lf (twoN b (p + 1)) : Nat) : Int)) = ((p + 3 + byteN b p + vN lf (twoN b (p + 1)) : Nat) : Int) := by rw [wid (by omega) (by omega)]; omega
          have e11 : IntKind.i64.wrap ((q : Int) + 1) = ((q + 1 : Nat) : Int) := by rw [wid (by omega) (by omega)]; omega
          rw [e5, e6, e7, e8, e9, e10, e11]
          refine split_dec (fun g3 => hN ?_ _ _ sx) fun g3 => ?_
          · rw [pe, hpe, parseN_succ]
            rw [if_neg (by rw [hb]; omega), if_pos (by rw [hb]; omega)]; rfl
          rw [Int.toNat_natCast, Int.toNat_natCast, Int.toNat_natCast]
          refine ⟨by omega, by omega, by omega, by show ((p + 3 : Nat) : Int) ≤ ((p + 3 + byteN b p : Nat) : Int); omega, by omega, by omega, by omega, by show ((p + 3 + byteN b p : Nat) : Int) ≤ ((p + 3 + byteN b p + vN lf (twoN b (p + 1)) : Nat) : Int); omega, may_spec _ _ ⟨_, rfl, split_not (fun em => hN ?_ _ _ sx) fun em => ?_⟩⟩
          · rw [pe, hpe, parseN_succ]
            rw [if_neg (by rw [hb]; omega), if_neg (by rw [hb]; omega), if_pos em]; rfl
          refine ⟨a, L.length, c, N.ex.c2, fun k31 hk31 => ⟨Sub.upd hk31 _, enC ⟨b.extract (p + 3) (p + 3 + byteN b p), b.extract (p + 3 + byteN b p) (p + 3 + byteN b p + vN lf (twoN b (p + 1))), kN lf (twoN b (p + 1))⟩, (Blk.new x k31 100 (enC ⟨b.extract (p + 3) (p + 3 + byteN b p), b.extract (p + 3 + byteN b p) (p + 3 + byteN b p + vN lf (twoN b (p + 1))), kN lf (twoN b (p + 1))⟩)).slice rfl, ?_⟩⟩
          have s31 := Sub.upd hk31 (.cells (enC ⟨b.extract (p + 3) (p + 3 + byteN b p), b.extract (p + 3 + byteN b p) (p + 3 + byteN b p + vN lf (twoN b (p + 1))), kN lf (twoN b (p + 1))⟩).toArray 100 (0, 0))
          have N31 := N.sub s31
          refine ⟨fun a' c' x' => StoreOk x' k1 2 1 ∧ Sub h x' ∧ NdOw (x'.put k1 2 [.slice a' (L.length + 1) c']) k1 a' c' ⟨lf, kN lf (twoN b 3), L ++ [⟨b.extract (p + 3) (p + 3 + byteN b p), b.extract (p + 3 + byteN b p) (p + 3 + byteN b p + vN lf (twoN b (p + 1))), kN lf (twoN b (p + 1))⟩]⟩ ∧ ∀ c', blkOf a' c' → h c' = none, ?_, ?_⟩
          · rintro a' c' x' ⟨so, sx', N', fr'⟩
            refine ⟨so, twoN b 1 - (q + 1), by omega, p + 3 + byteN b p + vN lf (twoN b (p + 1)), q + 1, _, a', c', rfl, rfl, rfl, by omega, by omega, by rw [List.length_append, hL]; rfl, (Keep.put (fun c => c = k1) _ _ _ rfl).sub sx' fun c e => by rw [e]; exact hk1, N', fr', ?_⟩
            rw [hpe, parseN_succ]
            rw [if_neg (by rw [hb]; omega), if_neg (by rw [hb]; omega), if_neg (by rw [em]; decide), Option.map_map, show twoN b 1 - (q + 1) = r by omega]
            congr 1
            funext z
            simp
          · refine append_ownR appTEn enC_len enC_plain (M := [_]) N31.own rfl rfl (rowC_one _).symm ?_ fun a' c' x' O kp nb => ?_
            · show (2 * (L.length + 1) + 768) * 40 ≤ _
              omega
            · obtain ⟨so, N'⟩ := N31.app rfl O kp nb
              exact ⟨so, kp.sub (sx.trans s31) fr, N', fun c' hc' => (nb c' hc').elim (fr c') fun h' => (sx.trans s31).none h'⟩
        · refine split_eq (fun e => ?_) fun e => ?_
          · cases lf with
            | true => exact ⟨rfl, rfl, rfl⟩
            | false => cases e
          · cases lf with
            | true => exact absurd rfl e
            | false => exact ⟨rfl, rfl, rfl⟩
      · have : q = twoN b 1 := by omega
        subst this
        rw [Nat.sub_self] at hpe
        have hpe : parseN b lf (twoN b 1) (Nd.base lf) = some (L, p) := by rw [hpe]; unfold parseN; simp
        have sz2 : (b.extract p b.size).size = 1024 - p := by rw [ext_size b (Nat.le_refl _), hb]
        rw [Int.toNat_natCast]
        refine ⟨by omega, by omega, trim_spec _ (by omega) fun t ht => ⟨_, rfl, ?_⟩⟩
        have zi : zerosB b p = true ↔ t = bytesL [] := by
          rw [ht, zerosB_iff]
          constructor
          · intro H j
            rw [byteN_ext]
            split
            · exact H _ (by omega)
            · rfl
          · intro H j hj
            have := H (j - p)
            rw [byteN_ext] at this
            rcases Nat.lt_or_ge j b.size with h' | h'
            · rw [if_pos (by omega), show p + (j - p) = j by omega] at this
              exact this
            · exact byteN_out h'
        rw [beqS_val]
        by_cases et : t = bytesL []
        · rw [decide_eq_true et]
          exact hG _ (by rw [pe, hpe]; simp only [zi.2 et, if_true]) _ _ ⟨sx, hk1, a, c, N, fr⟩
        · rw [decide_eq_false et]
          exact hN (by rw [pe, hpe]; simp only [show zerosB b p = false by cases e : zerosB b p with | false => rfl | true => exact absurd (zi.1 e) et, Bool.false_eq_true, if_false]) _ _ sx
    · refine ⟨_, B.cell' 0 rfl, split_eq (fun e => ?_) fun e => ?_⟩
      · have lff : lf = false := by cases lf with | true => rw [ek] at e; cases e | false => rfl
        subst lff
        refine two_spec (i := 3) (by omega) (by omega) ⟨_, rfl, B.store (by show 2 ≤ 3; decide), none, 0, by decide, ?_, NdOw.mk' ?_ (OwnR.nil _ _) (fun b ⟨o, s, e⟩ => by cases e), fun b ⟨o, s, e⟩ => by cases e⟩
        · exact (Keep.put (fun c => c = k1) _ _ _ rfl).sub s fun c e => by rw [e]; exact hk1
        · have := B.put 1 [.int .i64 (twoN b 3 : Nat)]
          unfold ndC
          rw [← kd]
          exact this
      · have lff : lf = true := by
          cases lf with
          | true => rfl
          | false => exact absurd (by rw [ek]; rfl) e
        subst lff
        refine ⟨none, 0, rfl, s, NdOw.mk' ?_ (OwnR.nil _ _) (fun b ⟨o, s, e⟩ => by cases e), fun b ⟨o, s, e⟩ => by cases e⟩
        unfold ndC
        rw [← kd]
        exact B
variable {pb jb db n : Nat} {S : Nat → Prop} {D : Dk} {P : Pg}
def Pg.node (P : Pg) (D : Dk) (n : Nat) (i : Int) : Option Nd := if P.why n i = 0 then parseB (P.page D n i.toNat) else none
theorem page_sz (E : PgAt h pb jb db S n D P) {i : Nat} (hi : i < n) : (P.page D n i).size = 1024 := by
  obtain ⟨S0, mb, pa, pc, Q, e⟩ := E.ex
  unfold Pg.page
  cases hd : dget P.d i with
  | some s => exact (E.ok.d.mem _ (dget_mem hd)).2
  | none => exact page_size e.j hi
theorem node_ok (E : PgAt h pb jb db S n D P) {i : Int} {nd : Nd} (e : P.node D n i = some nd) : NdOk nd := by
  unfold Pg.node at e
  split at e
  · rename_i hw
    obtain ⟨k, rfl, h1, h2, h3⟩ := why_ok hw
    exact parseB_ok (by rw [Int.toNat_natCast]; exact page_sz E h2) e
  · cases e
def TrAt (h : Hp) (tb pb k : Nat) : Prop := Blk h tb 89 [.pointer (some ⟨pb, 0, none⟩), .int .i64 (k : Nat)]
theorem load_spec (E : PgAt h pb jb db S n D P) {tb k : Nat} (T : TrAt h tb pb k) (i : Int) (hN : P.node D n i = none → ∀ h' e, e ≠ 0 → (P.why n i = 0 → e = 4) → Sub h h' → K (.tuple #[.pointer none, .int .i64 e]) h')
    (hG : ∀ nd, P.node D n i = some nd → ∀ h' k', NdNew h h' k' nd → K (.tuple #[.pointer (some ⟨k', 0, none⟩), .int .i64 0]) h') : CallsH Tryz.prog btree_Tree_load.id #[.pointer (some ⟨tb, 0, none⟩), .int .i64 i] h K := by
  apply btree_Tree_load.calls
  unfold btree_Tree_load.W
  refine ⟨_, T.cell' 0 rfl, ?_⟩
  unfold Pg.node at hN hG
  by_cases hw : P.why n i = 0
  · obtain ⟨j, rfl, h1, h2, h3⟩ := why_ok hw
    rw [if_pos hw, Int.toNat_natCast] at hN hG
    refine pgread_spec E hw fun h' s => ⟨_, _, rfl, split_ne (fun e => absurd rfl e) fun _ => ?_⟩
    refine parse_spec _ (page_sz E h2) (fun e h2 a s2 => ⟨_, _, rfl, split_not (fun _ => hN e _ _ (by decide) (fun _ => rfl) (s.trans s2)) fun e => by cases e⟩) fun nd e h2 k' N => ⟨_, _, rfl, split_not (fun e => by cases e) fun _ => hG nd e _ _ (N.mono s (Sub.refl _))⟩
  · rw [if_neg hw] at hN
    exact pgread_bad E i hw ⟨_, _, rfl, split_ne (fun e => hN rfl _ _ hw (fun e => absurd e hw) (Sub.refl h)) fun e => absurd e hw⟩
end Go.Proofs.YthbogjbcecmopaaGreatDoor
namespace Go.Proofs.YthbogjbcecmopaaGreatDoor
open Go.Gx
set_option maxRecDepth 100000
set_option linter.unusedVariables false
abbrev eB : ByteArray := bytesL []
def chain1 (t : ByteArray) : ByteArray → List En → Prop
  | _, [] => True
  | x, e :: l => blt x e.key = true ∧ (t ≠ eB → blt e.key t = true) ∧ chain1 t e.key l
def keysOk (f t : ByteArray) : List En → Prop
  | [] => True
  | e :: l => blt e.key f = false ∧ (t ≠ eB → blt e.key t = true) ∧ chain1 t e.key l
def below (t k : ByteArray) : Prop := t ≠ eB → blt k t = true
theorem chain1_ok {t : ByteArray} : ∀ {l : List En} {x : ByteArray}, chain1 t x l ↔ ((∀ e ∈ l, blt x e.key = true ∧ below t e.key) ∧ kvSorted (l.map En.kv))
  | [], x => ⟨fun _ => ⟨(fun e h => by cases h), List.Pairwise.nil⟩, fun _ => trivial⟩
  | e :: l, x => by
    unfold chain1
    rw [chain1_ok (l := l)]
    constructor
    · rintro ⟨h1, h2, h3, h4⟩
      refine ⟨fun e' he => ?_, List.pairwise_cons.2 ⟨fun p hp => ?_, h4⟩⟩
      · rcases List.mem_cons.1 he with rfl | he
        · exact ⟨h1, h2⟩
        · exact ⟨blt_trans h1 (h3 e' he).1, (h3 e' he).2⟩
      · obtain ⟨e', he, rfl⟩ := List.mem_map.1 hp
        exact (h3 e' he).1
    · rintro ⟨h1, h2⟩
      obtain ⟨h3, h4⟩ := List.pairwise_cons.1 h2
      exact ⟨(h1 e List.mem_cons_self).1, (h1 e List.mem_cons_self).2, fun e' he => ⟨h3 _ (List.mem_map_of_mem he), (h1 e' (List.mem_cons_of_mem _ he)).2⟩, h4⟩
theorem keysOk_iff {f t : ByteArray} {l : List En} : keysOk f t l ↔ ((∀ e ∈ l, blt e.key f = false ∧ below t e.key) ∧ kvSorted (l.map En.kv)) := by
  cases l with
  | nil => exact ⟨fun _ => ⟨(fun e h => by cases h), List.Pairwise.nil⟩, fun _ => trivial⟩
  | cons e l =>
    show (blt e.key f = false ∧ (t ≠ eB → blt e.key t = true) ∧ chain1 t e.key l) ↔ _
    rw [chain1_ok]
    constructor
    · rintro ⟨h1, h2, h3, h4⟩
      refine ⟨fun e' he => ?_, List.pairwise_cons.2 ⟨fun p hp => ?_, h4⟩⟩
      · rcases List.mem_cons.1 he with rfl | he
        · exact ⟨h1, h2⟩
        · refine ⟨?_, (h3 e' he).2⟩
          cases e2 : blt e'.key f with
          | false => rfl
          | true => rw [blt_trans (h3 e' he).1 e2] at h1; cases h1
      · obtain ⟨e', he, rfl⟩ := List.mem_map.1 hp
        exact (h3 e' he).1
    · rintro ⟨h1, h2⟩
      obtain ⟨h3, h4⟩ := List.pairwise_cons.1 h2
      exact ⟨(h1 e List.mem_cons_self).1, (h1 e List.mem_cons_self).2, fun e' he => ⟨h3 _ (List.mem_map_of_mem he), (h1 e' (List.mem_cons_of_mem _ he)).2⟩, h4⟩
section
variable (pg : Nat → Option Nd)
def Tr : Nat → Nat → ByteArray → ByteArray → Prop
  | 0, id, f, t => ∃ nd, pg id = some nd ∧ nd.leaf = true ∧ keysOk f t nd.l
  | m + 1, id, f, t => ∃ nd, pg id = some nd ∧ nd.leaf = false ∧ keysOk f t nd.l ∧ ∀ j c, nd.kids[j]? = some c → Tr m c (nd.lo f j) (nd.hi t j)
def kvs (id : Nat) : List KV := match pg id with
  | some nd => nd.kv
  | none => []
def kidsOf (id : Nat) : List Nat := match pg id with
  | some nd => nd.kids
  | none => []
def ents : Nat → Nat → List KV
  | 0, id => kvs pg id
  | m + 1, id => (kidsOf pg id).flatMap (ents m)
def ids : Nat → Nat → List Nat
  | 0, id => [id]
  | m + 1, id => id :: (kidsOf pg id).flatMap (ids m)
end
variable {pg : Nat → Option Nd}
theorem kvs_eq {id : Nat} {nd : Nd} (h : pg id = some nd) : kvs pg id = nd.kv := by unfold kvs; rw [h]
theorem kidsOf_eq {id : Nat} {nd : Nd} (h : pg id = some nd) : kidsOf pg id = nd.kids := by unfold kidsOf; rw [h]
theorem ids_self {m id : Nat} : id ∈ ids pg m id := by cases m <;> exact List.mem_cons_self
theorem Tr.node {m id : Nat} {f t : ByteArray} (T : Tr pg m id f t) : ∃ nd, pg id = some nd ∧ keysOk f t nd.l ∧ (nd.leaf = true ↔ m = 0) := by
  cases m with
  | zero => obtain ⟨nd, h1, h2, h3⟩ := T; exact ⟨nd, h1, h3, fun _ => rfl, fun _ => h2⟩
  | succ m => obtain ⟨nd, h1, h2, h3, h4⟩ := T; exact ⟨nd, h1, h3, (fun h => by rw [h2] at h; cases h), fun h => by cases h⟩
theorem Tr.in_pg : ∀ {m id : Nat} {f t : ByteArray}, Tr pg m id f t → ∀ i ∈ ids pg m id, (pg i).isSome = true
  | 0, id, f, t, T, i, hi => by
    obtain ⟨nd, h1, h2, h3⟩ := T
    rcases List.mem_cons.1 hi with rfl | hi
    · rw [h1]; rfl
    · cases hi
  | m + 1, id, f, t, T, i, hi => by
    obtain ⟨nd, h1, h2, h3, h4⟩ := T
    rcases List.mem_cons.1 hi with rfl | hi
    · rw [h1]; rfl
    · rw [kidsOf_eq h1] at hi
      obtain ⟨c, hc, hi⟩ := List.mem_flatMap.1 hi
      obtain ⟨j, hj⟩ := List.mem_iff_getElem?.1 hc
      exact Tr.in_pg (h4 j c hj) i hi
theorem Nd.kids_len (nd : Nd) : nd.kids.length = nd.l.length + 1 := by unfold Nd.kids; simp
theorem Tr.inj : ∀ {m m' id : Nat} {f t f' t' : ByteArray}, Tr pg m id f t → Tr pg m' id f' t' → m = m'
  | 0, 0, _, _, _, _, _, _, _ => rfl
  | 0, m' + 1, _, _, _, _, _, T, T' => by
    obtain ⟨nd, h1, h2, _⟩ := T
    obtain ⟨nd', h1', h2', _⟩ := T'
    rw [h1] at h1'; cases h1'; rw [h2] at h2'; cases h2'
  | m + 1, 0, _, _, _, _, _, T, T' => by
    obtain ⟨nd, h1, h2, _⟩ := T
    obtain ⟨nd', h1', h2', _⟩ := T'
    rw [h1] at h1'; cases h1'; rw [h2] at h2'; cases h2'
  | m + 1, m' + 1, _, _, _, _, _, T, T' => by
    obtain ⟨nd, h1, h2, _, h4⟩ := T
    obtain ⟨nd', h1', h2', _, h4'⟩ := T'
    rw [h1] at h1'; cases h1'
    have e : nd.kids[0]? = some nd.first := rfl
    rw [Tr.inj (h4 0 _ e) (h4' 0 _ e)]
theorem Tr.frame {pg' : Nat → Option Nd} : ∀ {m id : Nat} {f t : ByteArray}, Tr pg m id f t → (∀ i ∈ ids pg m id, pg' i = pg i) → Tr pg' m id f t ∧ ents pg' m id = ents pg m id ∧ ids pg' m id = ids pg m id
  | 0, id, f, t, T, H => by
    have h0 := H id ids_self
    obtain ⟨nd, h1, h2, h3⟩ := T
    rw [h1] at h0
    exact ⟨⟨nd, h0, h2, h3⟩, (kvs_eq h0).trans (kvs_eq h1).symm, rfl⟩
  | m + 1, id, f, t, T, H => by
    have h0 := H id ids_self
    obtain ⟨nd, h1, h2, h3, h4⟩ := T
    rw [h1] at h0
    have ek : kidsOf pg id = nd.kids := kidsOf_eq h1
    have sub : ∀ j c, nd.kids[j]? = some c → Tr pg' m c (nd.lo f j) (nd.hi t j) ∧ ents pg' m c = ents pg m c ∧ ids pg' m c = ids pg m c := fun j c hj => (h4 j c hj).frame fun i hi => H i (List.mem_cons_of_mem _ (by rw [ek]; exact List.mem_flatMap.2 ⟨c, List.mem_of_getElem? hj, hi⟩))
    refine ⟨⟨nd, h0, h2, h3, fun j c hj => (sub j c hj).1⟩, ?_, ?_⟩
    · unfold ents
      rw [kidsOf_eq h0, ek]
      have : ∀ L : List Nat, (∀ c ∈ L, c ∈ nd.kids) → L.flatMap (ents pg' m) = L.flatMap (ents pg m) := by
        intro L hL
        induction L with
        | nil => rfl
        | cons c L ih =>
          obtain ⟨j, hj⟩ := List.mem_iff_getElem?.1 (hL c List.mem_cons_self)
          rw [List.flatMap_cons, List.flatMap_cons, (sub j c hj).2.1, ih fun c hc => hL c (List.mem_cons_of_mem _ hc)]
      exact this _ fun c hc => hc
    · unfold ids
      rw [kidsOf_eq h0, ek]
      have : ∀ L : List Nat, (∀ c ∈ L, c ∈ nd.kids) → L.flatMap (ids pg' m) = L.flatMap (ids pg m) := by
        intro L hL
        induction L with
        | nil => rfl
        | cons c L ih =>
          obtain ⟨j, hj⟩ := List.mem_iff_getElem?.1 (hL c List.mem_cons_self)
          rw [List.flatMap_cons, List.flatMap_cons, (sub j c hj).2.2, ih fun c hc => hL c (List.mem_cons_of_mem _ hc)]
      rw [this _ fun c hc => hc]
def PgOk (pg : Nat → Option Nd) : Prop := ∀ i nd, pg i = some nd → NdOk nd
theorem may_key {k v : ByteArray} (h : may k v = true) : k ≠ eB := fun e => by
  unfold may at h
  have := (of_decide_eq_true h).1
  rw [e] at this
  exact absurd this (by decide)
theorem NdOk.key_ne {nd : Nd} (o : NdOk nd) {e : En} (he : e ∈ nd.l) : e.key ≠ eB := may_key (o.en e he).1
theorem Nd.lo_succ {nd : Nd} {f : ByteArray} {i : Nat} {e : En} (he : nd.l[i]? = some e) : nd.lo f (i + 1) = e.key := by unfold Nd.lo; simp only [he]
theorem Nd.hi_some {nd : Nd} {t : ByteArray} {i : Nat} {e : En} (he : nd.l[i]? = some e) : nd.hi t i = e.key := by unfold Nd.hi; simp only [he]
theorem Nd.hi_none {nd : Nd} {t : ByteArray} {i : Nat} (he : nd.l.length ≤ i) : nd.hi t i = t := by unfold Nd.hi; simp only [List.getElem?_eq_none he]
theorem blt_le_trans {a b c : ByteArray} (h1 : blt a b = true) (h2 : blt c b = false) : blt a c = true := by
  cases e : blt b c with
  | true => exact blt_trans h1 e
  | false => rw [← blt_total e h2]; exact h1
theorem le_trans_blt {a b c : ByteArray} (h1 : blt b a = false) (h2 : blt c b = false) : blt c a = false := by
  cases e : blt c a with
  | false => rfl
  | true =>
    cases e2 : blt a b with
    | true => rw [blt_trans e e2] at h2; cases h2
    | false => rw [← blt_total e2 h1] at h2; rw [e] at h2; cases h2
section
variable {nd : Nd} {f t : ByteArray} (o : NdOk nd) (H : keysOk f t nd.l)
include H
theorem lo_ge {j : Nat} (hj : j ≤ nd.l.length) : blt (nd.lo f j) f = false := by
  cases j with
  | zero => exact blt_irrefl f
  | succ i =>
    have he : nd.l[i]? = some nd.l[i] := List.getElem?_eq_getElem (by omega)
    rw [Nd.lo_succ he]
    exact ((keysOk_iff.1 H).1 _ (List.mem_of_getElem? he)).1
include o
theorem hi_le {j : Nat} {k : ByteArray} (hk : below (nd.hi t j) k) : below t k := by
  intro ht
  cases he : nd.l[j]? with
  | some e =>
    rw [Nd.hi_some he] at hk
    exact blt_trans (hk (o.key_ne (List.mem_of_getElem? he))) (((keysOk_iff.1 H).1 e (List.mem_of_getElem? he)).2 ht)
  | none =>
    rw [Nd.hi_none (List.getElem?_eq_none_iff.1 he)] at hk
    exact hk ht
theorem hi_lo {i j : Nat} (hij : i < j) (hj : j ≤ nd.l.length) {p q : ByteArray} (hp : below (nd.hi t i) p) (hq : blt q (nd.lo f j) = false) : blt p q = true := by
  obtain ⟨j', rfl⟩ : ∃ j', j = j' + 1 := ⟨j - 1, by omega⟩
  have he : nd.l[i]? = some nd.l[i] := List.getElem?_eq_getElem (by omega)
  have he' : nd.l[j']? = some nd.l[j'] := List.getElem?_eq_getElem (by omega)
  rw [Nd.hi_some he] at hp
  rw [Nd.lo_succ he'] at hq
  have h1 := hp (o.key_ne (List.mem_of_getElem? he))
  rcases Nat.lt_or_ge i j' with h' | h'
  · have h2 : blt nd.l[i].key nd.l[j'].key = true := sorted_lt (keysOk_iff.1 H).2 (Nd.kv_get he) (Nd.kv_get he') h'
    exact blt_le_trans (blt_trans h1 h2) hq
  · have : i = j' := by omega
    subst this
    exact blt_le_trans h1 hq
end
theorem pairwise_flat {α β : Type} {R : β → β → Prop} {g : α → List β} : ∀ {l : List α}, (∀ x ∈ l, (g x).Pairwise R) → (∀ (i j : Nat) (x y : α), i < j → l[i]? = some x → l[j]? = some y → ∀ p ∈ g x, ∀ q ∈ g y, R p q) → (l.flatMap g).Pairwise R
  | [], _, _ => List.Pairwise.nil
  | x :: l, h1, h2 => by
    rw [List.flatMap_cons, List.pairwise_append]
    refine ⟨h1 x List.mem_cons_self, pairwise_flat (fun y hy => h1 y (List.mem_cons_of_mem _ hy)) fun i j y z hij hi hj => h2 (i + 1) (j + 1) y z (by omega) hi hj, fun p hp q hq => ?_⟩
    obtain ⟨y, hy, hq⟩ := List.mem_flatMap.1 hq
    obtain ⟨j, hj⟩ := List.mem_iff_getElem?.1 hy
    exact h2 0 (j + 1) x y (by omega) rfl hj p hp q hq
theorem Tr.ents_ok (O : PgOk pg) : ∀ {m id : Nat} {f t : ByteArray}, Tr pg m id f t → (∀ p ∈ ents pg m id, blt p.1 f = false ∧ below t p.1 ∧ may p.1 p.2 = true) ∧ kvSorted (ents pg m id)
  | 0, id, f, t, T => by
    obtain ⟨nd, h1, h2, h3⟩ := T
    obtain ⟨g1, g2⟩ := keysOk_iff.1 h3
    unfold ents
    rw [kvs_eq h1]
    refine ⟨fun p hp => ?_, g2⟩
    obtain ⟨e, he, rfl⟩ := List.mem_map.1 hp
    exact ⟨(g1 e he).1, (g1 e he).2, ((O id nd h1).en e he).1⟩
  | m + 1, id, f, t, T => by
    obtain ⟨nd, h1, h2, h3, h4⟩ := T
    have o := O id nd h1
    have sub := fun j c hj => (h4 j c hj).ents_ok O
    have jl : ∀ {j c}, nd.kids[j]? = some c → j ≤ nd.l.length := fun {j c} hj => by
      have := (List.getElem?_eq_some_iff.1 hj).1
      rw [nd.kids_len] at this; omega
    unfold ents
    rw [kidsOf_eq h1]
    refine ⟨fun p hp => ?_, pairwise_flat (fun c hc => ?_) fun i j x y hij hi hj p hp q hq => ?_⟩
    · obtain ⟨c, hc, hp⟩ := List.mem_flatMap.1 hp
      obtain ⟨j, hj⟩ := List.mem_iff_getElem?.1 hc
      obtain ⟨a, b, c'⟩ := (sub j c hj).1 p hp
      exact ⟨le_trans_blt (lo_ge h3 (jl hj)) a, hi_le o h3 b, c'⟩
    · obtain ⟨j, hj⟩ := List.mem_iff_getElem?.1 hc
      exact (sub j c hj).2
    · exact hi_lo o h3 hij (jl hj) ((sub i x hi).1 p hp).2.1 ((sub j y hj).1 q hq).1
end Go.Proofs.YthbogjbcecmopaaGreatDoor
namespace Go.Proofs.YthbogjbcecmopaaGreatDoor
open Go.Gx
set_option maxRecDepth 100000
set_option linter.unusedVariables false
variable {h : Hp} {K : Value → Hp → Prop} {pb jb db n : Nat} {S : Nat → Prop} {D : Dk} {P : Pg}
def Pg.pgs (P : Pg) (D : Dk) (n : Nat) (i : Nat) : Option Nd := P.node D n (i : Nat)
theorem pgs_ok (E : PgAt h pb jb db S n D P) : PgOk (P.pgs D n) := fun i nd e => node_ok E e
theorem why_iff {P : Pg} {n i : Nat} : P.why n (i : Nat) = 0 ↔ P.used n (i : Nat) = true ∧ i ≠ 0 := by
  unfold Pg.why Pg.used
  constructor
  · intro e
    split at e
    · cases e
    · rename_i h1
      rw [Int.toNat_natCast] at e ⊢
      split at e
      · rename_i h2
        rw [decide_eq_true (by omega), decide_eq_true (by omega), h2]
        exact ⟨rfl, by omega⟩
      · cases e
  · rintro ⟨e, h0⟩
    rw [Bool.and_eq_true_iff, Bool.and_eq_true_iff, decide_eq_true_iff, decide_eq_true_iff] at e
    rw [if_neg (by omega), if_pos e.2.2]
theorem pgs_why {i : Nat} (e : (P.pgs D n i).isSome = true) : P.why n (i : Nat) = 0 := by
  unfold Pg.pgs Pg.node at e
  split at e
  · assumption
  · cases e
theorem pgs_lt {i : Nat} (e : (P.pgs D n i).isSome = true) : 1 ≤ i ∧ i < n := by
  obtain ⟨k, ek, h1, h2, h3⟩ := why_ok (pgs_why e)
  omega
structure CkAt (h : Hp) (tb kt km kb kh kw : Nat) (s : List Nat) (H : Nat) : Prop where
  t : Blk h kt 25 [.pointer (some ⟨tb, 0, none⟩)]
  m : ∃ o xs, h km = some o ∧ MapObj Tryz.prog 3 o xs ∧ ∀ i : Nat, mget xs (.int .i64 (i : Nat)) = if i ∈ s then some (.bool true) else none
  b : Blk h kb 113 [.map (some km)]
  hh : Blk h kh 3 [.int .i64 (H : Nat)]
  w : Blk h kw 114 [.func (.func 64) #[] #[.pointer (some ⟨kb, 0, none⟩), .pointer (some ⟨kt, 0, none⟩), .pointer (some ⟨kh, 0, none⟩), .pointer (some ⟨kw, 0, none⟩)]]
variable {tb k kt km kb kh kw : Nat}
theorem CkAt.ne_m {s : List Nat} {H : Nat} (C : CkAt h tb kt km kb kh kw s H) {c : Nat} {t : TypeId} {vs : List Value} (B : Blk h c t vs) : c ≠ km := by
  rintro rfl
  obtain ⟨o, xs, h1, ⟨es, cl, rfl, _⟩, _⟩ := C.m
  unfold Blk at B
  rw [B] at h1; cases h1
theorem CkAt.sub {s : List Nat} {H : Nat} {h' : Hp} (C : CkAt h tb kt km kb kh kw s H) (g : Sub h h') : CkAt h' tb kt km kb kh kw s H := by
  obtain ⟨o, xs, h1, h2⟩ := C.m
  exact ⟨C.t.sub g, ⟨o, xs, g _ _ h1, h2⟩, C.b.sub g, C.hh.sub g, C.w.sub g⟩
theorem CkAt.add {s : List Nat} {H : Nat} (C : CkAt h tb kt km kb kh kw s H) {o' : Obj} {xs : List (Value × Value)} {id : Nat} (hx : ∀ i : Nat, mget xs (.int .i64 (i : Nat)) = if i ∈ s then some (.bool true) else none) (ho : MapObj Tryz.prog 3 o' (mset xs (.int .i64 (id : Nat)) (.bool true))) :
    CkAt (h.upd km o') tb kt km kb kh kw (s ++ [id]) H := by
  have kp : Keep (fun c => c = km) h (h.upd km o') := Keep.upd _ (.inl rfl)
  refine ⟨C.t.keep kp (C.ne_m C.t), ⟨o', _, Hp.upd_same _ _ _, ho, fun i => ?_⟩, C.b.keep kp (C.ne_m C.b), C.hh.keep kp (C.ne_m C.hh), C.w.keep kp (C.ne_m C.w)⟩
  have h1 := mget_mset xs (.int .i64 (id : Nat)) (.bool true) (.int .i64 (i : Nat))
  by_cases e : i = id
  · rw [h1.1 (key_eq.2 e), if_pos (by rw [e]; exact List.mem_append_right _ (List.mem_singleton.2 rfl))]
  · rw [h1.2 (fun h => e (key_eq.1 h)), hx]
    by_cases e2 : i ∈ s
    · rw [if_pos e2, if_pos (List.mem_append_left _ e2)]
    · rw [if_neg e2, if_neg (fun h => (List.mem_append.1 h).elim e2 fun h => e (List.mem_singleton.1 h))]
theorem CkAt.high {s : List Nat} {H H' : Nat} (C : CkAt h tb kt km kb kh kw s H) : CkAt (h.put kh 0 [.int .i64 (H' : Nat)]) tb kt km kb kh kw s H' := by
  have ne : ∀ {c t vs}, Blk h c t vs → t ≠ 3 → c ≠ kh := fun {c t vs} B ht e => by subst e; exact ht (B.inj C.hh).1
  have mne : km ≠ kh := (C.ne_m C.hh).symm
  obtain ⟨o, xs, h1, h2⟩ := C.m
  exact ⟨C.t.put_ne _ _ (ne C.t (by decide)), ⟨o, xs, (put_ne _ _ _ mne).trans h1, h2⟩, C.b.put_ne _ _ (ne C.b (by decide)), C.hh.put 0 _, C.w.put_ne _ _ (ne C.w (by decide))⟩
theorem flat_take {α β : Type} {g : α → List β} {L : List α} {j : Nat} {c : α} (hc : L[j]? = some c) : (L.take (j + 1)).flatMap g = (L.take j).flatMap g ++ g c := by
  rw [List.take_add_one, hc, List.flatMap_append]; simp
theorem flat_sub {α β : Type} {g : α → List β} (L : List α) (j : Nat) : ((L.take j).flatMap g).Sublist (L.flatMap g) := by
  conv => rhs; rw [← List.take_append_drop j L, List.flatMap_append]
  exact List.sublist_append_left _ _
set_option maxHeartbeats 4000000 in
theorem check_walk (N : Nat) : ∀ {h : Hp} {K : Value → Hp → Prop} {s : List Nat} {H id depth : Nat} {f t : ByteArray}, n - s.length = N → PgAt h pb jb db S n D P → TrAt h tb pb k → ¬ S km → ¬ S kh → CkAt h tb kt km kb kh kw s H → s.Nodup → (∀ i ∈ s, i < n) → 1 ≤ depth → depth ≤ s.length + 1 →
    (∀ m h', Tr (P.pgs D n) m id f t → (s ++ ids (P.pgs D n) m id).Nodup → (H = 0 ∨ H = depth + m) → CkAt h' tb kt km kb kh kw (s ++ ids (P.pgs D n) m id) (depth + m) → Keep (fun c => c = km ∨ c = kh) h h' → K (.int .i64 0) h') →
    (∀ h', (¬ ∃ m, Tr (P.pgs D n) m id f t ∧ (s ++ ids (P.pgs D n) m id).Nodup ∧ (H = 0 ∨ H = depth + m)) → Keep (fun c => c = km ∨ c = kh) h h' → K (.int .i64 4) h') →
    CallsH Tryz.prog 64 #[.int .i64 (id : Nat), .int .i64 (depth : Nat), .string f, .string t, .pointer (some ⟨kb, 0, none⟩), .pointer (some ⟨kt, 0, none⟩), .pointer (some ⟨kh, 0, none⟩), .pointer (some ⟨kw, 0, none⟩)] h K := by
  induction N using Nat.strongRecOn with
  | ind N ih =>
  intro h K s H id depth f t hN E T nm nh C hs hsn hd1 hd h0 h4
  have hn := E.n2
  have hsl := nodup_below n s hs hsn
  have hpk := pgs_ok E
  apply btree_Tree_Check_1.calls
  unfold btree_Tree_Check_1.W
  refine ⟨fun x => h = x ∧ id ∉ s ∧ P.why n (id : Nat) = 0, ?_, ?_⟩
  · rintro x ⟨rfl, his, hw⟩
    obtain ⟨j, ej, j1, j2, j3⟩ := why_ok hw
    have : id = j := by omega
    subst this
    clear ej
    obtain ⟨o, xs, ho, hm, hx⟩ := C.m
    refine ⟨_, C.b.cell' 0 rfl, km, o, xs, rfl, ho, hm, fun o' hm' => ?_⟩
    have C1 := C.add hx hm'
    have kp1 : Keep (fun c => c = km ∨ c = kh) h (h.upd km o') := Keep.upd _ (.inl (.inl rfl))
    have s1 : (s ++ [id]).Nodup := by
      rw [List.nodup_append]
      exact ⟨hs, List.nodup_cons.2 ⟨List.not_mem_nil, List.nodup_nil⟩, fun a ha b hb e => his (by rw [List.mem_singleton.1 hb] at e; rw [← e]; exact ha)⟩
    have s1n : ∀ i ∈ s ++ [id], i < n := fun i hi => (List.mem_append.1 hi).elim (hsn i) fun h => by rw [List.mem_singleton.1 h]; exact j2
    have hsl1 := nodup_below n _ s1 s1n
    rw [List.length_append] at hsl1
    change s.length + 1 ≤ n at hsl1
    have E1 : PgAt (h.upd km o') pb jb db S n D P := E.out kp1 fun c hc h => h.elim (fun e => nm (e ▸ hc)) fun e => nh (e ▸ hc)
    have tne : tb ≠ km ∧ tb ≠ kh := ⟨C.ne_m T, fun e => by subst e; exact absurd (T.inj C.hh).1 (by decide)⟩
    have T1 : TrAt (h.upd km o') tb pb k := Blk.keep T kp1 fun h => h.elim tne.1 tne.2
    generalize h.upd km o' = y at C1 kp1 E1 T1 ⊢
    refine ⟨_, C1.t.cell' 0 rfl, fnI (cap := []) (by kernel_rfl) (load_spec E1 T1 _ (fun e y2 v hv hv4 g2 => ⟨_, _, rfl, split_ne (fun _ => ?_) fun e => absurd e hv⟩) fun nd end_ y2 k' N2 => ⟨_, _, rfl, split_ne (fun e => absurd rfl e) fun _ => ?_⟩)⟩
    · rw [hv4 hw]
      refine h4 y2 ?_ (kp1.trans (g2.keep _))
      rintro ⟨m, Tm, _⟩
      obtain ⟨nd, g1, _⟩ := Tm.node
      rw [show P.pgs D n id = none from e] at g1; cases g1
    have end2 : P.pgs D n id = some nd := end_
    have ok := hpk id nd end2
    have ll := ok.len
    obtain ⟨a, c, N2e, _⟩ := N2.ex
    have C2 := C1.sub N2.sub
    have E2 := E1.sub N2.sub
    have T2 : TrAt y2 tb pb k := Blk.sub T1 N2.sub
    have kp2 : Keep (fun c => c = km ∨ c = kh) h y2 := kp1.trans (N2.sub.keep _)
    have knm : k' ≠ km ∧ k' ≠ kh := by
      obtain ⟨o, _, h1, _⟩ := C1.m
      exact ⟨(fun e => by rw [← e, N2.k0] at h1; cases h1), fun e => by have h2 := C1.hh; unfold Blk at h2; rw [← e, N2.k0] at h2; cases h2⟩
    have anm : ∀ b, blkOf a b → ¬ (b = km ∨ b = kh) := fun b hb e => by
      obtain ⟨a', c', N2', fr⟩ := N2.ex
      have : a = a' := by
        have := N2e.c2.symm.trans N2'.c2
        cases this; rfl
      subst this
      have h1 := fr b hb
      rcases e with rfl | rfl
      · obtain ⟨o, _, h2, _⟩ := C1.m
        rw [h1] at h2; cases h2
      · have h2 := C1.hh; unfold Blk at h2; rw [h1] at h2; cases h2
    clear C1 E1 T1 N2 kp1 C E T ho hm hx hm'
    have bad : ¬ keysOk f t nd.l → ∀ x, y2 = x → K (.int .i64 4) x := fun hb x ex => by
      subst ex
      refine h4 _ ?_ kp2
      rintro ⟨m, Tm, _⟩
      obtain ⟨nd', g1, g2, _⟩ := Tm.node
      rw [end2] at g1; cases g1
      exact hb g2
    refine ⟨k', 0, rfl, _, _, _, N2e.c2, fun la i x m => ∃ j : Nat, i = (j : Int) ∧ m = nd.l.length - j ∧ j ≤ nd.l.length ∧ y2 = x ∧ ((j = 0 ∧ la = f) ∨ (0 < j ∧ (keysOk f t nd.l ↔ chain1 t la (nd.l.drop j)))), ⟨_, 0, rfl, rfl, Nat.zero_le _, rfl, .inl ⟨rfl, rfl⟩⟩, ?_⟩
    rintro la i x m ⟨j, rfl, rfl, hj, rfl, hla⟩
    refine split_dec (fun g => ?_) fun g => ?_
    · have g : (j : Int) < (nd.l.length : Int) := g
      have hj' : j < nd.l.length := by omega
      have he : nd.l[j]? = some nd.l[j] := List.getElem?_eq_getElem hj'
      have hdr : nd.l.drop j = nd.l[j] :: nd.l.drop (j + 1) := List.drop_eq_getElem_cons hj'
      obtain ⟨b, o, ea, g0, g1, g2⟩ := N2e.get he
      have e11 : IntKind.i64.wrap ((j : Int) + 1) = ((j + 1 : Nat) : Int) := by rw [wid (by omega) (by omega)]; omega
      refine ⟨by omega, g, b, o, ea, _, by rw [Int.toNat_natCast]; exact g0, _, by rw [Int.toNat_natCast]; exact g1, _, by rw [Int.toNat_natCast]; exact g2, ?_⟩
      rw [e11, bltS_val, bltS_val]
      have fin : (j = 0 → blt nd.l[j].key f = false) → (0 < j → blt la nd.l[j].key = true) → below t nd.l[j].key → (keysOk f t nd.l ↔ chain1 t nd.l[j].key (nd.l.drop (j + 1))) := fun q1 q2 q3 => by
        rcases hla with ⟨rfl, rfl⟩ | ⟨hj0, hk⟩
        · have e0 : nd.l = nd.l[0] :: nd.l.drop 1 := by rw [← hdr]; rfl
          conv => lhs; rw [e0]
          exact ⟨fun h => h.2.2, fun h => ⟨q1 rfl, q3, h⟩⟩
        · rw [hk, hdr]
          exact ⟨fun h => h.2.2, fun h => ⟨q2 hj0, q3, h⟩⟩
      refine split_dec (fun gp => ?_) fun gp => ?_
      · have hj0 : 0 < j := by have gp : (j : Int) > 0 := gp; omega
        obtain ⟨_, hk⟩ := hla.resolve_left fun h => by omega
        refine split_cond (fun e => bad (fun hb => ?_) _ rfl) fun e => split_cond (fun e2 => ?_) fun e2 => ?_
        · have := hk.1 hb
          rw [hdr] at this
          have h1 := this.1
          rw [beqS_val] at e
          rw [Bool.or_eq_true] at e
          rcases e with e | e
          · rw [blt_asymm h1] at e; cases e
          · rw [of_decide_eq_true e, blt_irrefl] at h1; cases h1
        · rw [e2] at e; cases e
        · have hlt : blt la nd.l[j].key = true := by
            have := ble_not nd.l[j].key la
            rw [e] at this; exact this.symm
          refine split_not (fun e3 => split_not (fun e4 => bad (fun hb => ?_) _ rfl) fun e4 => ?_) fun e3 => ?_
          · have := hk.1 hb
            rw [hdr] at this
            rw [this.2.1 (fun et => by rw [beqS_val, decide_eq_true et] at e3; cases e3)] at e4; cases e4
          · exact ⟨_, by omega, j + 1, rfl, rfl, hj', rfl, .inr ⟨by omega, fin (fun e => by omega) (fun _ => hlt) fun _ => e4⟩⟩
          · exact ⟨_, by omega, j + 1, rfl, rfl, hj', rfl, .inr ⟨by omega, fin (fun e => by omega) (fun _ => hlt) fun ht => by rw [beqS_val] at e3; exact absurd (of_decide_eq_true e3) ht⟩⟩
      · have hj0 : j = 0 := by have gp : ¬ (j : Int) > 0 := gp; omega
        obtain ⟨_, rfl⟩ := hla.resolve_right fun h => by omega
        subst hj0
        have e0 : nd.l = nd.l[0] :: nd.l.drop 1 := by rw [← hdr]; rfl
        refine split_cond (fun e => bad (fun hb => ?_) _ rfl) fun e => ?_
        · rw [e0] at hb
          rw [hb.1] at e; cases e
        · refine split_not (fun e3 => split_not (fun e4 => bad (fun hb => ?_) _ rfl) fun e4 => ?_) fun e3 => ?_
          · rw [e0] at hb
            rw [hb.2.1 (fun et => by rw [beqS_val, decide_eq_true et] at e3; cases e3)] at e4; cases e4
          · exact ⟨_, by omega, 1, rfl, rfl, hj', rfl, .inr ⟨by omega, fin (fun _ => e) (fun e => by omega) fun _ => e4⟩⟩
          · exact ⟨_, by omega, 1, rfl, rfl, hj', rfl, .inr ⟨by omega, fin (fun _ => e) (fun e => by omega) fun ht => by rw [beqS_val] at e3; exact absurd (of_decide_eq_true e3) ht⟩⟩
    · have hjl : j = nd.l.length := by have g : ¬ (j : Int) < (nd.l.length : Int) := g; omega
      have kok : keysOk f t nd.l := by
        rcases hla with ⟨h1, _⟩ | ⟨_, h2⟩
        · have : nd.l = [] := List.length_eq_zero_iff.1 (by omega)
          rw [this]; trivial
        · rw [h2, hjl, List.drop_length]; trivial
      clear hla bad g
      refine ⟨k', 0, rfl, _, N2e.c0, ?_⟩
      cases hlf : nd.leaf with
      | true =>
        have ek : ((nd.kind : Nat) : Int) = 1 := by unfold Nd.kind; rw [hlf]; rfl
        rw [ek]
        have T0 : Tr (P.pgs D n) 0 id f t := ⟨nd, end2, hlf, kok⟩
        refine split_eq (fun _ => ⟨_, C2.hh.cell' 0 rfl, split_eq (fun e0 => ⟨C2.hh.store (by show 1 ≤ 1; decide), _, (C2.hh.put 0 _).cell' 0 rfl, split_ne (fun e => absurd rfl e) fun _ => ?_⟩) fun e0 => ⟨_, C2.hh.cell' 0 rfl, split_ne (fun e1 => h4 _ ?_ kp2) fun e1 => ?_⟩⟩) fun e => absurd rfl e
        · exact h0 0 _ T0 s1 (.inl (by omega)) C2.high (kp2.trans (Keep.put _ _ _ _ (.inr rfl)))
        · rintro ⟨m, Tm, _, hH⟩
          have := Tm.inj T0
          omega
        · have : H = depth := by omega
          subst this
          exact h0 0 _ T0 s1 (.inr rfl) C2 kp2
      | false =>
        have ek : ((nd.kind : Nat) : Int) = 2 := by unfold Nd.kind; rw [hlf]; rfl
        rw [ek]
        refine split_eq (fun e => by cases e) fun _ => ?_
        have kl := nd.kids_len
        refine ⟨fun i x M => ∃ (j m : Nat), i = (j : Int) - 1 ∧ M = nd.kids.length - j ∧ j ≤ nd.kids.length ∧ CkAt x tb kt km kb kh kw (s ++ [id] ++ (nd.kids.take j).flatMap (ids (P.pgs D n) m)) (if j = 0 then H else depth + 1 + m) ∧
          (∀ i, i < j → ∀ c, nd.kids[i]? = some c → Tr (P.pgs D n) m c (nd.lo f i) (nd.hi t i)) ∧ (j ≠ 0 → H = 0 ∨ H = depth + 1 + m) ∧ (s ++ [id] ++ (nd.kids.take j).flatMap (ids (P.pgs D n) m)).Nodup ∧ Keep (fun c => c = km ∨ c = kh) y2 x, ⟨_, 0, 0, by decide, rfl, Nat.zero_le _, ?_, (fun i hi => by omega), (fun e => absurd rfl e), ?_, Keep.refl _ _⟩, ?_⟩
        · rw [List.take_zero, List.flatMap_nil, List.append_nil, if_pos rfl]; exact C2
        · rw [List.take_zero, List.flatMap_nil, List.append_nil]; exact s1
        rintro i x M ⟨j, m, rfl, rfl, hj, Cx, hT, hH, hnd, kpx⟩
        have outx : ∀ c, S c → ¬ (c = km ∨ c = kh) := fun c hc h => h.elim (fun e => nm (e ▸ hc)) fun e => nh (e ▸ hc)
        have Ex := E2.out kpx outx
        have Tx : TrAt x tb pb k := Blk.keep T2 kpx fun h => h.elim tne.1 tne.2
        have Nx := N2e.out kpx (fun h => h.elim knm.1 knm.2) anm
        refine ⟨k', 0, rfl, _, _, _, Nx.c2, split_dec (fun g => ?_) fun g => ?_⟩
        · have g : (j : Int) - 1 < (nd.l.length : Int) := g
          have hj' : j < nd.kids.length := by omega
          obtain ⟨c', hc'⟩ : ∃ c', nd.kids[j]? = some c' := ⟨_, List.getElem?_eq_getElem hj'⟩
          have e12 : IntKind.i64.wrap ((j : Int) - 1 + 1) = ((j + 1 : Nat) : Int) - 1 := by rw [wid (by omega) (by omega)]; omega
          have e13 : IntKind.i64.wrap ((depth : Int) + 1) = ((depth + 1 : Nat) : Int) := by rw [wid (by omega) (by omega)]; omega
          have sub : ∀ i ∈ s ++ [id] ++ (nd.kids.take j).flatMap (ids (P.pgs D n) m), i < n := fun i hi => by
            rcases List.mem_append.1 hi with hi | hi
            · exact s1n i hi
            · obtain ⟨c, hc, hi⟩ := List.mem_flatMap.1 hi
              obtain ⟨q, hq⟩ := List.mem_iff_getElem?.1 hc
              rw [List.getElem?_take] at hq
              split at hq
              · rename_i hqj
                exact (pgs_lt ((hT q hqj c hq).in_pg i hi)).2
              · cases hq
          have hl2 : (s ++ [id] ++ (nd.kids.take j).flatMap (ids (P.pgs D n) m)).length = s.length + 1 + ((nd.kids.take j).flatMap (ids (P.pgs D n) m)).length := by rw [List.length_append, List.length_append]; rfl
          have hl3 := nodup_below n _ hnd sub
          refine fnI (cap := []) (by kernel_rfl) (keys_spec Nx (by omega) (by omega) _ _ ⟨_, _, rfl, _, Cx.w.cell' 0 rfl, fnI (cap := []) (by kernel_rfl) (kid_spec Nx hc' ⟨_, rfl, Sub.refl _, fnI (cap := [_, _, _, _]) (by kernel_rfl) ?_⟩)⟩)
          rw [e12, e13]
          refine ih (n - (s ++ [id] ++ (nd.kids.take j).flatMap (ids (P.pgs D n) m)).length) (by omega) rfl Ex Tx nm nh Cx hnd sub (by omega) (by omega) (fun mc h' Tc ndc Hc Cc kpc => ⟨_, rfl, split_ne (fun e => absurd rfl e) fun _ => ⟨nd.kids.length - (j + 1), by omega, ?_⟩⟩) fun h' no kpc => ⟨_, rfl, split_ne (fun _ => h4 h' ?_ (kp2.trans (kpx.trans kpc))) fun e => by cases e⟩
          · have ec : j ≠ 0 → mc = m := fun hj0 => by
              rw [if_neg hj0] at Hc; omega
            have et : (nd.kids.take j).flatMap (ids (P.pgs D n) m) ++ ids (P.pgs D n) mc c' = (nd.kids.take (j + 1)).flatMap (ids (P.pgs D n) mc) := by
              rw [flat_take hc']
              by_cases hj0 : j = 0
              · subst hj0; rfl
              · rw [ec hj0]
            rw [List.append_assoc, et] at Cc ndc
            refine ⟨j + 1, mc, rfl, rfl, by omega, by rw [if_neg (by omega)]; exact Cc, fun i hi c hc => ?_, fun _ => ?_, ndc, kpx.trans kpc⟩
            · by_cases ei : i = j
              · subst ei
                rw [hc'] at hc; cases hc
                exact Tc
              · rw [ec (by omega)]
                exact hT i (by omega) c hc
            · by_cases hj0 : j = 0
              · rw [if_pos hj0] at Hc; exact Hc
              · rw [ec hj0]; exact hH hj0
          · rintro ⟨m2, Tm, ndm, Hm⟩
            cases m2 with
            | zero =>
              obtain ⟨nd', q1, q2, _⟩ := Tm
              rw [end2] at q1; cases q1; rw [hlf] at q2; cases q2
            | succ m2 =>
              obtain ⟨nd', q1, q2, q3, q4⟩ := Tm
              rw [end2] at q1; cases q1
              have em : j ≠ 0 → m2 = m := fun hj0 => (q4 0 nd.first rfl).inj (hT 0 (by omega) nd.first rfl)
              have et : (nd.kids.take j).flatMap (ids (P.pgs D n) m) = (nd.kids.take j).flatMap (ids (P.pgs D n) m2) := by
                by_cases hj0 : j = 0
                · subst hj0; rfl
                · rw [em hj0]
              refine no ⟨m2, q4 j c' hc', ?_, ?_⟩
              · rw [et, List.append_assoc, ← flat_take hc', List.append_assoc]
                refine ndm.sublist (List.Sublist.append_left ?_ s)
                show List.Sublist (id :: (nd.kids.take (j + 1)).flatMap (ids (P.pgs D n) m2)) _
                unfold ids
                rw [kidsOf_eq end2]
                exact List.Sublist.cons_cons _ (flat_sub _ _)
              · by_cases hj0 : j = 0
                · rw [if_pos hj0]; omega
                · rw [if_neg hj0, em hj0]; right; rfl
        · have hjl : j = nd.kids.length := by have g : ¬ (j : Int) - 1 < (nd.l.length : Int) := g; omega
          have hj0 : j ≠ 0 := by omega
          rw [if_neg hj0] at Cx
          rw [hjl, List.take_length] at Cx hnd
          have ei : s ++ [id] ++ nd.kids.flatMap (ids (P.pgs D n) m) = s ++ ids (P.pgs D n) (m + 1) id := by
            rw [List.append_assoc]
            congr 1
            unfold ids
            rw [kidsOf_eq end2]
            cases m <;> rfl
          rw [ei] at Cx hnd
          refine h0 (m + 1) x ⟨nd, end2, hlf, kok, fun i c hc => hT i (by have := (List.getElem?_eq_some_iff.1 hc).1; omega) c hc⟩ hnd ?_ ?_ (kp2.trans kpx)
          · have := hH hj0; omega
          · rw [show depth + (m + 1) = depth + 1 + m by omega]; exact Cx
  · obtain ⟨o, xs, ho, hm, hx⟩ := C.m
    have no : ∀ (q : ∀ m, Tr (P.pgs D n) m id f t → (s ++ ids (P.pgs D n) m id).Nodup → False), ¬ ∃ m, Tr (P.pgs D n) m id f t ∧ (s ++ ids (P.pgs D n) m id).Nodup ∧ (H = 0 ∨ H = depth + m) := fun q ⟨m, a, b, _⟩ => q m a b
    refine ⟨_, C.b.cell' 0 rfl, km, o, xs, rfl, ho, hm, ?_⟩
    have hxi := hx id
    by_cases his : id ∈ s
    · rw [if_pos his] at hxi
      refine ⟨true, true, .inl ⟨rfl, hxi⟩, split_cond (fun _ => h4 h (no fun m Tm ndm => ?_) (Keep.refl _ _)) fun e => by cases e⟩
      exact (List.nodup_append.1 ndm).2.2 id his id ids_self rfl
    · rw [if_neg his] at hxi
      refine ⟨false, false, .inr ⟨rfl, hxi, rfl⟩, split_cond (fun e => by cases e) fun _ => ⟨_, C.t.cell' 0 rfl, tb, 0, rfl, _, T.cell' 0 rfl, fnI (cap := []) (by kernel_rfl) (used_spec E _ ⟨_, rfl, split_not (fun eu => h4 h (no fun m Tm ndm => ?_) (Keep.refl _ _)) fun eu => split_eq (fun e0 => h4 h (no fun m Tm ndm => ?_) (Keep.refl _ _)) fun e0 => ⟨rfl, his, ?_⟩⟩)⟩⟩
      · have := why_iff.1 (pgs_why (Tm.in_pg id ids_self))
        rw [this.1] at eu; cases eu
      · exact (why_iff.1 (pgs_why (Tm.in_pg id ids_self))).2 (by omega)
      · exact why_iff.2 ⟨eu, by omega⟩
end Go.Proofs.YthbogjbcecmopaaGreatDoor
namespace Go.Proofs.YthbogjbcecmopaaGreatDoor
open Go.Gx
set_option maxRecDepth 100000
set_option linter.unusedVariables false
variable {h : Hp} {K : Value → Hp → Prop} {pb jb db n : Nat} {S : Nat → Prop} {D : Dk} {P : Pg} {tb k : Nat}
def Tree (pg : Nat → Option Nd) (root : Nat) (hg : Nat) (L : List KV) (I : List Nat) : Prop := match hg with
  | 0 => root = 0 ∧ L = [] ∧ I = []
  | m + 1 => root ≠ 0 ∧ Tr pg m root eB eB ∧ L = ents pg m root ∧ I = ids pg m root ∧ I.Nodup
theorem Tree.inj {pg : Nat → Option Nd} {root hg hg' : Nat} {L L' : List KV} {I I' : List Nat} (T : Tree pg root hg L I) (T' : Tree pg root hg' L' I') : hg = hg' ∧ L = L' ∧ I = I' := by
  cases hg with
  | zero =>
    cases hg' with
    | zero => exact ⟨rfl, T.2.1.trans T'.2.1.symm, T.2.2.trans T'.2.2.symm⟩
    | succ m' => exact absurd T.1 T'.1
  | succ m =>
    cases hg' with
    | zero => exact absurd T'.1 T.1
    | succ m' =>
      have := T.2.1.inj T'.2.1
      subst this
      exact ⟨rfl, T.2.2.1.trans T'.2.2.1.symm, T.2.2.2.1.trans T'.2.2.2.1.symm⟩
theorem fresh_put {h : Hp} {b : Nat} {t : TypeId} {vs us : List Value} (hb : h b = none) : Sub h ((h.upd b (.cells vs.toArray t (0, 0))).put b 0 us) ∧ Blk ((h.upd b (.cells vs.toArray t (0, 0))).put b 0 us) b t (setL vs 0 us) :=
  ⟨(Keep.put (fun c => c = b) _ _ _ rfl).sub (Sub.upd hb _) fun c e => by rw [e]; exact hb, (Blk.new h b t vs).put 0 us⟩
theorem S_out (E : PgAt h pb jb db S n D P) {c : Nat} (hc : h c = none) : ¬ S c := fun hs => E.in_heap hs hc
set_option maxHeartbeats 1000000 in
theorem check_spec (E : PgAt h pb jb db S n D P) (T : TrAt h tb pb k) (hk : k < 4) (hK : ∀ h' v, Sub h h' → ((v = 0 ∧ ∃ hg L I, Tree (P.pgs D n) (P.now.r k) hg L I) ∨ (v = 4 ∧ ¬ ∃ hg L I, Tree (P.pgs D n) (P.now.r k) hg L I)) → K (.int .i64 v) h') :
    CallsH Tryz.prog btree_Tree_Check.id #[.pointer (some ⟨tb, 0, none⟩)] h K := by
  have hn := E.n2
  apply btree_Tree_Check.calls
  unfold btree_Tree_Check.W
  intro k1 hk1
  have B1 := Blk.new h k1 25 [.pointer (some ⟨tb, 0, none⟩)]
  have s1 := Sub.upd hk1 (.cells [Value.pointer (some ⟨tb, 0, none⟩)].toArray 25 (0, 0))
  generalize h.upd k1 (.cells [Value.pointer (some ⟨tb, 0, none⟩)].toArray 25 (0, 0)) = y1 at B1 s1 ⊢
  refine ⟨_, B1.cell' 0 rfl, split_cond (fun e => by cases e) fun _ => ?_⟩
  intro k3 hk3 x4 hm k5 hk5
  have g3 := Hp.upd_same y1 k3 x4
  have s3 := Sub.upd hk3 x4
  generalize y1.upd k3 x4 = y2 at hk5 g3 s3 ⊢
  obtain ⟨s5, B5⟩ := fresh_put (t := 113) (vs := [.map none]) (us := [.map (some k3)]) hk5
  refine ⟨(Blk.new y2 k5 113 [.map none]).store (by show 1 ≤ 1; decide), fun k6 hk6 => ?_⟩
  generalize (y2.upd k5 (.cells [Value.map none].toArray 113 (0, 0))).put k5 0 [.map (some k3)] = y4 at s5 B5 hk6 ⊢
  obtain ⟨s6, B6⟩ := fresh_put (t := 3) (vs := [.int .i64 0]) (us := [.int .i64 0]) hk6
  refine ⟨(Blk.new y4 k6 3 [.int .i64 0]).store (by show 1 ≤ 1; decide), fun k7 hk7 => ?_⟩
  generalize (y4.upd k6 (.cells [Value.int .i64 0].toArray 3 (0, 0))).put k6 0 [.int .i64 0] = y6 at s6 B6 hk7 ⊢
  obtain ⟨s7, B7⟩ := fresh_put (t := 114) (vs := [.nilFunc]) (us := [.func (.func 64) #[] #[.pointer (some ⟨k5, 0, none⟩), .pointer (some ⟨k1, 0, none⟩), .pointer (some ⟨k6, 0, none⟩), .pointer (some ⟨k7, 0, none⟩)]]) hk7
  refine ⟨(Blk.new y6 k7 114 [.nilFunc]).store (by show 1 ≤ 1; decide), ?_⟩
  generalize (y6.upd k7 (.cells [Value.nilFunc].toArray 114 (0, 0))).put k7 0 [.func (.func 64) #[] #[.pointer (some ⟨k5, 0, none⟩), .pointer (some ⟨k1, 0, none⟩), .pointer (some ⟨k6, 0, none⟩), .pointer (some ⟨k7, 0, none⟩)]] = y8 at s7 B7 ⊢
  have s13 := s1.trans s3
  have s68 := s6.trans s7
  have s8 : Sub h y8 := (s13.trans s5).trans s68
  have C : CkAt y8 tb k1 k3 k5 k6 k7 [] 0 := ⟨B1.sub ((s3.trans s5).trans s68), ⟨x4, [], (s5.trans s68) _ _ g3, hm, fun i => rfl⟩, B5.sub s68, B6.sub s7, B7⟩
  have E8 := E.sub s8
  have T8 : TrAt y8 tb pb k := Blk.sub T s8
  refine ⟨_, C.t.cell' 0 rfl, tb, 0, rfl, _, T8.cell' 0 rfl, _, C.t.cell' 0 rfl, tb, 0, rfl, _, T8.cell' 1 rfl, fnI (cap := []) (by kernel_rfl) (root_spec E8 hk ⟨_, rfl, split_ne (fun e => ?_) fun e => ?_⟩)⟩
  · refine ⟨_, C.w.cell' 0 rfl, fnI (cap := [_, _, _, _]) (by kernel_rfl) (check_walk _ (id := P.now.r k) (depth := 1) rfl E8 T8 (S_out E (s1.none hk3)) (S_out E ((s13.trans s5).none hk6)) C List.nodup_nil (fun i hi => by cases hi) (by decide) (by decide) (fun m h' Tm nd _ _ kp => ⟨_, rfl, hK h' _ ?_ (.inl ⟨rfl, m + 1, _, _, ?_, Tm, rfl, rfl, by simpa using nd⟩)⟩) fun h' no kp => ⟨_, rfl, hK h' _ ?_ (.inr ⟨rfl, ?_⟩)⟩)⟩
    · exact kp.sub s8 fun c hc => hc.elim (fun e => by rw [e]; exact s1.none hk3) fun e => by rw [e]; exact (s13.trans s5).none hk6
    · omega
    · exact kp.sub s8 fun c hc => hc.elim (fun e => by rw [e]; exact s1.none hk3) fun e => by rw [e]; exact (s13.trans s5).none hk6
    · rintro ⟨hg, L, I, TT⟩
      cases hg with
      | zero => exact e (by rw [TT.1]; rfl)
      | succ m => exact no ⟨m, TT.2.1, by rw [List.nil_append, ← TT.2.2.2.1]; exact TT.2.2.2.2, .inl rfl⟩
  · exact hK y8 0 s8 (.inl ⟨rfl, 0, [], [], by omega, rfl, rfl⟩)
theorem open_spec (E : PgAt h pb jb db S n D P) (hk : k < 4) (hG : ∀ h' tb, Sub h h' → h tb = none → TrAt h' tb pb k → (∃ hg L I, Tree (P.pgs D n) (P.now.r k) hg L I) → K (.tuple #[.pointer (some ⟨tb, 0, none⟩), .int .i64 0]) h')
    (hB : (¬ ∃ hg L I, Tree (P.pgs D n) (P.now.r k) hg L I) → ∀ h', Sub h h' → K (.tuple #[.pointer none, .int .i64 4]) h') : CallsH Tryz.prog btree_Open.id #[.pointer (some ⟨pb, 0, none⟩), .int .i64 (k : Nat)] h K := by
  apply btree_Open.calls
  unfold btree_Open.W
  refine ⟨fun x => h = x, ?_, split_dec (fun e => by omega) fun _ => split_dec (fun e => by omega) fun _ => rfl⟩
  rintro x rfl k3 hk3
  have s3 := Sub.upd hk3 (.cells [Value.pointer (some ⟨pb, 0, none⟩), .int .i64 (k : Nat)].toArray 89 (0, 0))
  have T : TrAt _ k3 pb k := Blk.new h k3 89 [.pointer (some ⟨pb, 0, none⟩), .int .i64 (k : Nat)]
  refine check_spec (E.sub s3) T hk fun h' v s4 hv => ⟨_, rfl, ?_⟩
  rcases hv with ⟨rfl, hv⟩ | ⟨rfl, hv⟩
  · exact split_ne (fun e => absurd rfl e) fun _ => hG h' k3 (s3.trans s4) hk3 (Blk.sub T s4) hv
  · exact split_ne (fun _ => hB hv h' (s3.trans s4)) fun e => by cases e
theorem opened_spec (q : Nat) (h1 : 2 ≤ q) (h2 : q ≤ 24) (hK : ∀ h' tb pb jb db S, Sub h h' → PgAt h' pb jb db S q (Dk.new (8 * q + 1)) newPg → (∀ c, S c → h c = none) → TrAt h' tb pb 1 → h tb = none → ¬ S tb → K (.tuple #[.pointer (some ⟨db, 0, none⟩), .pointer (some ⟨pb, 0, none⟩), .pointer (some ⟨tb, 0, none⟩)]) h') :
    CallsH Tryz.prog law15_opened.id #[.int .i64 (q : Nat)] h K := by
  apply law15_opened.calls
  unfold law15_opened.W
  refine split_dec (fun e => by omega) fun _ => split_dec (fun e => by omega) fun _ => ?_
  have e1 : IntKind.i64.wrap (IntKind.i64.wrap (8 * (q : Int)) + 1) = ((8 * q + 1 : Nat) : Int) := by rw [wid (x := 8 * (q : Int)) (by omega) (by omega), wid (by omega) (by omega)]; omega
  rw [e1]
  refine dnew_spec (8 * q + 1) (by omega) (by omega) fun h3 db S3 D3 s3 f3 => ⟨_, _, rfl, ?_⟩
  refine jopen_spec D3 rfl q (by omega) (by omega) (by show _ ≤ (List.replicate _ _).length; rw [List.length_replicate]; exact Nat.le_refl _) (new_read _ (by omega)) fun h4 jb S4 J4 s4 f4 => ⟨_, _, rfl, ?_⟩
  have hz := new_own (8 * q + 1) q 0 (by omega)
  refine popen_spec J4 rfl h1 (fun e => absurd hz e) fun H hH h5 pb S5 n5 st5 E => ⟨_, _, rfl, ?_⟩
  rcases hH with ⟨_, rfl⟩ | ⟨e, _⟩
  · have fr : ∀ c, S5 c → h c = none := fun c hc => by
      rcases st5.2 c hc with h' | h'
      · rcases f4 c h' with h' | h'
        · exact f3 c h'
        · exact s3.none h'
      · exact s3.none (s4.none h')
    have s5 : Sub h h5 := st5.1.sub (s3.trans s4) fun c hc => by
      rcases f4 c hc with h' | h'
      · exact f3 c h'
      · exact s3.none h'
    refine open_spec E (k := 1) (by decide) (fun h6 tb s6 n6 T _ => ⟨_, _, rfl, hK h6 tb pb jb db S5 (s5.trans s6) (E.sub s6) fr T (s5.none n6) (S_out E n6)⟩) fun no => absurd ⟨0, [], [], rfl, rfl, rfl⟩ no
  · exact absurd hz e
theorem opened_bad (pages : Int) (hp : pages < 2 ∨ pages > 24) (hK : K (.tuple #[.pointer none, .pointer none, .pointer none]) h) : CallsH Tryz.prog law15_opened.id #[.int .i64 pages] h K := by
  apply law15_opened.calls
  unfold law15_opened.W
  exact split_dec (fun _ => hK) fun e => split_dec (fun _ => hK) fun e2 => by omega
theorem height_spec (E : PgAt h pb jb db S n D P) (T : TrAt h tb pb k) (hk : k < 4) {hg : Nat} {L : List KV} {I : List Nat} (TT : Tree (P.pgs D n) (P.now.r k) hg L I) (hhg : hg ≤ 1000) (hK : ∀ h', Sub h h' → K (.int .i64 (hg : Nat)) h') :
    CallsH Tryz.prog btree_Tree_Height.id #[.pointer (some ⟨tb, 0, none⟩)] h K := by
  have hpk := pgs_ok E
  apply btree_Tree_Height.calls
  unfold btree_Tree_Height.W
  refine ⟨_, T.cell' 0 rfl, _, T.cell' 1 rfl, root_spec E hk ⟨_, rfl, ?_⟩⟩
  refine ⟨fun i id x m => ∃ a c : Nat, i = (a : Int) ∧ id = (c : Int) ∧ a + m = hg ∧ Sub h x ∧ (m = 0 → c = 0) ∧ ∀ m', m = m' + 1 → c ≠ 0 ∧ ∃ f t, Tr (P.pgs D n) m' c f t, ⟨hg, 0, P.now.r k, rfl, rfl, Nat.zero_add _, Sub.refl h, ?_, ?_⟩, ?_⟩
  · intro e; subst e; exact TT.1
  · rintro m' rfl; exact ⟨TT.1, _, _, TT.2.1⟩
  rintro i id x m ⟨a, c, rfl, rfl, ham, sx, hz, hs⟩
  refine split_ne (fun e => ?_) fun e => ?_
  · obtain ⟨m', rfl⟩ : ∃ m', m = m' + 1 := by
      cases m with
      | zero => exact absurd (by rw [hz rfl]; rfl) e
      | succ m' => exact ⟨m', rfl⟩
    obtain ⟨c0, f, t, Tm⟩ := hs m' rfl
    have e1 : IntKind.i64.wrap ((a : Int) + 1) = ((a + 1 : Nat) : Int) := by rw [wid (by omega) (by omega)]; omega
    rw [e1]
    refine load_spec (E.sub sx) (Blk.sub T sx) _ (fun e => ?_) fun nd e y k' N => ⟨_, _, rfl, split_ne (fun e => absurd rfl e) fun _ => ?_⟩
    · obtain ⟨nd, g1, _⟩ := Tm.node
      rw [show P.pgs D n c = none from e] at g1; cases g1
    · obtain ⟨al, cl, Ne, _⟩ := N.ex
      have sy := sx.trans N.sub
      refine ⟨k', 0, rfl, _, Ne.c0, split_eq (fun ek => ?_) fun ek => ?_⟩
      · obtain ⟨nd', g1, g2, g3⟩ := Tm.node
        rw [show P.pgs D n c = some nd from e] at g1; cases g1
        have : m' = 0 := g3.1 (by
          cases hlf : nd.leaf with
          | true => rfl
          | false => unfold Nd.kind at ek; rw [hlf] at ek; cases ek)
        subst this
        have : a + 1 = hg := by omega
        rw [this]; exact hK y sy
      · cases m' with
        | zero =>
          obtain ⟨nd', g1, g2, g3⟩ := Tm
          rw [show P.pgs D n c = some nd from e] at g1; cases g1
          unfold Nd.kind at ek; rw [g2] at ek; exact absurd rfl ek
        | succ m2 =>
          obtain ⟨nd', g1, g2, g3, g4⟩ := Tm
          rw [show P.pgs D n c = some nd from e] at g1; cases g1
          have T0 := g4 0 nd.first rfl
          refine ⟨k', 0, rfl, _, Ne.c1, m2 + 1, by omega, a + 1, nd.first, rfl, rfl, by omega, sy, (fun h => by cases h), fun m3 h3 => ?_⟩
          cases h3
          refine ⟨?_, _, _, T0⟩
          have := pgs_lt (T0.in_pg _ ids_self)
          omega
  · cases m with
    | zero => rw [show a = hg by omega]; exact hK x sx
    | succ m' => exact absurd (by omega) (hs m' rfl).1
end Go.Proofs.YthbogjbcecmopaaGreatDoor
namespace Go.Proofs.YthbogjbcecmopaaGreatDoor
open Go.Gx
set_option maxRecDepth 100000
set_option linter.unusedVariables false
variable {h : Hp} {K : Value → Hp → Prop} {pb jb db n : Nat} {S : Nat → Prop} {D : Dk} {P : Pg} {tb k : Nat}
theorem get_kid {pg : Nat → Option Nd} (O : PgOk pg) {m id c : Nat} {f t key : ByteArray} {nd : Nd} (e : pg id = some nd) (T : Tr pg (m + 1) id f t) (hc : nd.kids[kvBe key nd.kv]? = some c) : kvGet key (ents pg (m + 1) id) = kvGet key (ents pg m c) := by
  have s1 := (T.ents_ok O).2
  obtain ⟨nd', g1, g2, g3, g4⟩ := T
  rw [e] at g1; cases g1
  have sub := fun j c hj => (g4 j c hj).ents_ok O
  have s2 := (sub _ c hc).2
  have hbe := kvBe_le key nd.kv
  rw [nd.kv_len] at hbe
  apply Option.ext
  intro v
  show kvGet key _ = some v ↔ kvGet key _ = some v
  rw [kvGet_iff s1, kvGet_iff s2]
  unfold ents
  rw [kidsOf_eq e]
  constructor
  · intro hm
    obtain ⟨c', hc', hm⟩ := List.mem_flatMap.1 hm
    obtain ⟨j, hj⟩ := List.mem_iff_getElem?.1 hc'
    obtain ⟨q1, q2, q3⟩ := (sub j c' hj).1 _ hm
    have jl : j ≤ nd.l.length := by
      have := (List.getElem?_eq_some_iff.1 hj).1
      rw [nd.kids_len] at this; omega
    rcases Nat.lt_trichotomy j (kvBe key nd.kv) with h' | h' | h'
    · have he : nd.l[j]? = some nd.l[j] := List.getElem?_eq_getElem (by omega)
      have := kvBe_before key nd.kv j _ (Nd.kv_get he) h'
      rw [Nd.hi_some he] at q2
      have q2 : blt key nd.l[j].key = true := q2 ((O id nd e).key_ne (List.mem_of_getElem? he))
      rw [show blt key nd.l[j].key = false from this] at q2; cases q2
    · subst h'
      rw [hc] at hj; cases hj
      cases m <;> exact hm
    · obtain ⟨i, rfl⟩ : ∃ i, j = i + 1 := ⟨j - 1, by omega⟩
      have he : nd.l[i]? = some nd.l[i] := List.getElem?_eq_getElem (by omega)
      have := kvBe_after (keysOk_iff.1 g3).2 (Nd.kv_get he) (by omega : kvBe key nd.kv ≤ i)
      rw [Nd.lo_succ he] at q1
      rw [show blt key nd.l[i].key = true from this] at q1; cases q1
  · intro hm
    exact List.mem_flatMap.2 ⟨c, List.mem_of_getElem? hc, by cases m <;> exact hm⟩
theorem get_spec (E : PgAt h pb jb db S n D P) (T : TrAt h tb pb k) (hk : k < 4) {hg : Nat} {L : List KV} {I : List Nat} (TT : Tree (P.pgs D n) (P.now.r k) hg L I) (key : ByteArray) (hK : ∀ h', Sub h h' → K (.tuple #[.string ((kvGet key L).getD eB), .bool (kvGet key L).isSome]) h') :
    CallsH Tryz.prog btree_Tree_Get.id #[.pointer (some ⟨tb, 0, none⟩), .string key] h K := by
  have hpk := pgs_ok E
  apply btree_Tree_Get.calls
  unfold btree_Tree_Get.W
  refine ⟨_, T.cell' 0 rfl, _, T.cell' 1 rfl, root_spec E hk ⟨_, rfl, ?_⟩⟩
  refine ⟨fun id x m => ∃ c : Nat, id = (c : Int) ∧ Sub h x ∧ (m = 0 → c = 0 ∧ kvGet key L = none) ∧ ∀ m', m = m' + 1 → c ≠ 0 ∧ (∃ f t, Tr (P.pgs D n) m' c f t) ∧ kvGet key L = kvGet key (ents (P.pgs D n) m' c), ⟨hg, P.now.r k, rfl, Sub.refl h, ?_, ?_⟩, ?_⟩
  · intro e; subst e; exact ⟨TT.1, by rw [TT.2.1]; rfl⟩
  · rintro m' rfl; exact ⟨TT.1, ⟨_, _, TT.2.1⟩, by rw [TT.2.2.1]⟩
  rintro id x m ⟨c, rfl, sx, hz, hs⟩
  refine split_ne (fun e => ?_) fun e => ?_
  · obtain ⟨m', rfl⟩ : ∃ m', m = m' + 1 := by
      cases m with
      | zero => exact absurd (by rw [(hz rfl).1]; rfl) e
      | succ m' => exact ⟨m', rfl⟩
    obtain ⟨c0, ⟨f, t, Tm⟩, hget⟩ := hs m' rfl
    refine load_spec (E.sub sx) (Blk.sub T sx) _ (fun e => ?_) fun nd e y k' N => ⟨_, _, rfl, split_ne (fun e => absurd rfl e) fun _ => ?_⟩
    · obtain ⟨nd, g1, _⟩ := Tm.node
      rw [show P.pgs D n c = none from e] at g1; cases g1
    have e : P.pgs D n c = some nd := e
    have ok := hpk c nd e
    have ll := ok.len
    obtain ⟨al, cl, Ne, _⟩ := N.ex
    have sy := sx.trans N.sub
    have srt : kvSorted nd.kv := by
      obtain ⟨nd', g1, g2, _⟩ := Tm.node
      rw [e] at g1; cases g1
      exact (keysOk_iff.1 g2).2
    refine ⟨k', 0, rfl, _, Ne.c0, split_eq (fun ek => ?_) fun ek => ?_⟩
    · have : m' = 0 := by
        obtain ⟨nd', g1, g2, g3⟩ := Tm.node
        rw [e] at g1; cases g1
        refine g3.1 ?_
        cases hlf : nd.leaf with
        | true => rfl
        | false => unfold Nd.kind at ek; rw [hlf] at ek; cases ek
      subst this
      have hL : kvGet key L = kvGet key nd.kv := by rw [hget]; unfold ents; rw [kvs_eq e]
      refine place_spec Ne srt (by omega) key fun z sz => ⟨_, rfl, ?_⟩
      have Nz := Ne.sub sz
      have syz := sy.trans sz
      have hat := kvAt_le key nd.kv
      rw [nd.kv_len] at hat
      refine ⟨k', 0, rfl, _, _, _, Nz.c2, split_eq (fun e2 => ?_) fun e2 => ?_⟩
      · have e2 : ((kvAt key nd.kv : Nat) : Int) = ((nd.l.length : Nat) : Int) := e2
        have : kvGet key L = none := by
          rw [hL]
          unfold kvGet kvIs
          rw [List.getElem?_eq_none (by rw [nd.kv_len]; omega)]; rfl
        rw [this] at hK
        exact hK z syz
      · have e2 : ((kvAt key nd.kv : Nat) : Int) ≠ ((nd.l.length : Nat) : Int) := e2
        have he : nd.l[kvAt key nd.kv]? = some (nd.l[kvAt key nd.kv]'(by omega)) := List.getElem?_eq_getElem (by omega)
        generalize nd.l[kvAt key nd.kv]'(by omega) = en at he
        obtain ⟨b, o, ea, g0, g1, g2⟩ := Nz.get he
        have hkv := Nd.kv_get he
        refine ⟨k', 0, rfl, _, _, _, Nz.c2, by omega, by show ((kvAt key nd.kv : Nat) : Int) < ((nd.l.length : Nat) : Int); omega, b, o, ea, _, by rw [Int.toNat_natCast]; exact g0, ?_⟩
        refine split_not (fun e3 => ?_) fun e3 => ?_
        · rw [beqS_val] at e3
          have : kvGet key L = none := by
            rw [hL]
            unfold kvGet kvIs
            rw [hkv]
            show (if decide (en.key = key) = true then _ else _) = _
            rw [e3]; rfl
          rw [this] at hK
          exact hK z syz
        · rw [beqS_val] at e3
          have : kvGet key L = some en.val := by
            rw [hL]
            unfold kvGet kvIs
            rw [hkv]
            show (if decide (en.key = key) = true then _ else _) = _
            rw [e3]; rfl
          rw [this] at hK
          exact ⟨k', 0, rfl, _, _, _, Nz.c2, by omega, by show ((kvAt key nd.kv : Nat) : Int) < ((nd.l.length : Nat) : Int); omega, b, o, ea, _, by rw [Int.toNat_natCast]; exact g1, hK z syz⟩
    · cases m' with
      | zero =>
        obtain ⟨nd', g1, g2, g3⟩ := Tm
        rw [e] at g1; cases g1
        unfold Nd.kind at ek; rw [g2] at ek; exact absurd rfl ek
      | succ m2 =>
        have hbe := kvBe_le key nd.kv
        rw [nd.kv_len] at hbe
        obtain ⟨c', hc'⟩ : ∃ c', nd.kids[kvBe key nd.kv]? = some c' := ⟨_, List.getElem?_eq_getElem (by rw [nd.kids_len]; omega)⟩
        have gk := get_kid hpk e Tm hc'
        obtain ⟨nd', g1, g2, g3, g4⟩ := Tm
        rw [e] at g1; cases g1
        refine below_spec Ne srt (by omega) key fun z sz => ⟨_, rfl, kid_spec (Ne.sub sz) hc' ⟨_, rfl, m2 + 1, by omega, c', rfl, sy.trans sz, (fun h => by cases h), fun m3 h3 => ?_⟩⟩
        cases h3
        have T0 := g4 _ c' hc'
        refine ⟨?_, ⟨_, _, T0⟩, hget.trans gk⟩
        have := pgs_lt (T0.in_pg _ ids_self)
        omega
  · cases m with
    | zero =>
      rw [(hz rfl).2] at hK
      exact hK x sx
    | succ m' => exact absurd (by omega) (hs m' rfl).1
def idsP (pg : Nat → Option Nd) : Nat → Nat → List Nat
  | 0, id => [id]
  | m + 1, id => (kidsOf pg id).flatMap (idsP pg m) ++ [id]
theorem idsP_mem {pg : Nat → Option Nd} : ∀ {m id : Nat}, (idsP pg m id).Perm (ids pg m id)
  | 0, id => List.Perm.refl _
  | m + 1, id => by
    unfold idsP ids
    refine List.perm_append_comm.trans (List.Perm.cons _ ?_)
    induction kidsOf pg id with
    | nil => exact List.Perm.refl _
    | cons c l ih => rw [List.flatMap_cons, List.flatMap_cons]; exact idsP_mem.append ih
def visit (pg : Nat → Option Nd) : Nat → Nat → List Nat
  | 0, _ => []
  | m + 1, root => idsP pg m root
theorem visit_perm {pg : Nat → Option Nd} {root hg : Nat} {L : List KV} {I : List Nat} (T : Tree pg root hg L I) : (visit pg hg root).Perm I := by
  cases hg with
  | zero => rw [T.2.2]; exact List.Perm.refl _
  | succ m => rw [T.2.2.2.1]; exact idsP_mem
structure EwAt (h : Hp) (tb k1 k2 k3 : Nat) (f : Value) : Prop where
  t : Blk h k1 25 [.pointer (some ⟨tb, 0, none⟩)]
  f : Blk h k2 104 [f]
  w : Blk h k3 112 [.func (.func 92) #[] #[.pointer (some ⟨k1, 0, none⟩), .pointer (some ⟨k3, 0, none⟩), .pointer (some ⟨k2, 0, none⟩)]]
theorem EwAt.sub {h' : Hp} {k1 k2 k3 : Nat} {f : Value} (C : EwAt h tb k1 k2 k3 f) (s : Sub h h') : EwAt h' tb k1 k2 k3 f := ⟨C.t.sub s, C.f.sub s, C.w.sub s⟩
theorem EwAt.keep {S' : Nat → Prop} {h' : Hp} {k1 k2 k3 : Nat} {f : Value} (C : EwAt h tb k1 k2 k3 f) (s : Keep S' h h') (h1 : ¬ S' k1) (h2 : ¬ S' k2) (h3 : ¬ S' k3) : EwAt h' tb k1 k2 k3 f := ⟨C.t.keep s h1, C.f.keep s h2, C.w.keep s h3⟩
set_option maxHeartbeats 1000000 in
theorem each_walk {B k1 k2 k3 : Nat} {fv : Value} {I : List Nat → (Nat → Prop) → Hp → Prop} (hsub : ∀ {L M x y}, I L M x → Sub x y → I L M y) (hin : ∀ {L M x c}, I L M x → M c → x c ≠ none)
    (hdo : ∀ {L M x id nd k' a c}, L.length < B → I L M x → P.pgs D n id = some nd → NdEx x k' a c nd → ∀ K' : Value → Hp → Prop, (∀ x' M', I (L ++ [id]) M' x' → Step M x M' x' → K' (.tuple #[]) x') → FnH Tryz.prog fv [.int .i64 (id : Nat), .pointer (some ⟨k', 0, none⟩)] x K') :
    ∀ (m : Nat) {h : Hp} {K : Value → Hp → Prop} {id : Nat} {f t : ByteArray} {L : List Nat} {M : Nat → Prop}, Tr (P.pgs D n) m id f t → I L M h → PgAt h pb jb db S n D P → TrAt h tb pb k → EwAt h tb k1 k2 k3 fv → (∀ c, S c → ¬ M c) → ¬ M tb → ¬ M k1 → ¬ M k2 → ¬ M k3 → L.length + (idsP (P.pgs D n) m id).length ≤ B →
      (∀ h' M', I (L ++ idsP (P.pgs D n) m id) M' h' → Step M h M' h' → K (.tuple #[]) h') → CallsH Tryz.prog 92 #[.int .i64 (id : Nat), .pointer (some ⟨k1, 0, none⟩), .pointer (some ⟨k3, 0, none⟩), .pointer (some ⟨k2, 0, none⟩)] h K := by
  intro m
  induction m with
  | zero =>
    intro h K id f t L M Tm Ih E T W nS nt n1 n2 n3 hB hK
    apply btree_Tree_each_1.calls
    unfold btree_Tree_each_1.W
    obtain ⟨nd, g1, g2, g3⟩ := Tm
    refine ⟨_, W.t.cell' 0 rfl, fnI (cap := []) (by kernel_rfl) (load_spec E T _ (fun e => ?_) fun nd' e y k' N => ⟨_, _, rfl, split_ne (fun e => absurd rfl e) fun _ => ?_⟩)⟩
    · rw [show P.pgs D n id = none from e] at g1; cases g1
    · rw [show P.pgs D n id = some nd' from e] at g1; cases g1
      obtain ⟨a, c, Ne, _⟩ := N.ex
      refine ⟨k', 0, rfl, _, Ne.c0, split_eq (fun ek => ?_) fun ek => ?_⟩
      · unfold Nd.kind at ek; rw [g2] at ek; cases ek
      · exact ⟨_, (W.sub N.sub).f.cell' 0 rfl, hdo hB (hsub Ih N.sub) e Ne _ fun x' M' I' st => ⟨rfl, hK x' M' I' ((Step.sub N.sub).trans st)⟩⟩
  | succ m ih =>
    intro h K id f t L M Tm Ih E T W nS nt n1 n2 n3 hB hK
    have hpk := pgs_ok E
    apply btree_Tree_each_1.calls
    unfold btree_Tree_each_1.W
    obtain ⟨nd, g1, g2, g3, g4⟩ := Tm
    refine ⟨_, W.t.cell' 0 rfl, fnI (cap := []) (by kernel_rfl) (load_spec E T _ (fun e => ?_) fun nd' e y k' N => ⟨_, _, rfl, split_ne (fun e => absurd rfl e) fun _ => ?_⟩)⟩
    · rw [show P.pgs D n id = none from e] at g1; cases g1
    have e : P.pgs D n id = some nd' := e
    rw [e] at g1; cases g1
    obtain ⟨a, c, Ne, fr⟩ := N.ex
    have ll := (hpk id nd e).len
    have kl := nd.kids_len
    have el : (idsP (P.pgs D n) (m + 1) id) = nd.kids.flatMap (idsP (P.pgs D n) m) ++ [id] := by
      rw [← kidsOf_eq e]
      cases m <;> rfl
    rw [el, List.length_append] at hB
    refine ⟨k', 0, rfl, _, Ne.c0, split_eq (fun ek => ?_) fun ek => ?_⟩
    · have Iy := hsub Ih N.sub
      have Ey := E.sub N.sub
      have Ty : TrAt y tb pb k := Blk.sub T N.sub
      have Wy := W.sub N.sub
      have nk : ¬ M k' := fun hm => hin Ih hm N.k0
      have na : ∀ b, blkOf a b → ¬ M b := fun b hb hm => hin Ih hm (fr b hb)
      refine ⟨fun i x M0 => ∃ (j : Nat) (Mx : Nat → Prop), i = (j : Int) - 1 ∧ M0 = nd.kids.length - j ∧ j ≤ nd.kids.length ∧ I (L ++ (nd.kids.take j).flatMap (idsP (P.pgs D n) m)) Mx x ∧ Step M y Mx x, ⟨_, 0, M, by decide, rfl, Nat.zero_le _, by rw [List.take_zero, List.flatMap_nil, List.append_nil]; exact Iy, Step.refl _ _⟩, ?_⟩
      rintro i x M0 ⟨j, Mx, rfl, rfl, hj, Ix, st⟩
      have keepB : ∀ {c o}, y c = some o → ¬ M c → ¬ Mx c := fun {c o} hc hn => (st.out hc hn).2
      have Ex := Ey.out st.1 nS
      have Tx : TrAt x tb pb k := Blk.keep Ty st.1 nt
      have Wx := Wy.keep st.1 n1 n2 n3
      have Nx := Ne.out st.1 nk na
      have e12 : IntKind.i64.wrap ((j : Int) - 1 + 1) = ((j + 1 : Nat) : Int) - 1 := by rw [wid (by omega) (by omega)]; omega
      rw [e12]
      refine ⟨k', 0, rfl, _, _, _, Nx.c2, split_dec (fun g => ?_) fun g => ?_⟩
      · have g : (j : Int) - 1 < (nd.l.length : Int) := g
        obtain ⟨c', hc'⟩ : ∃ c', nd.kids[j]? = some c' := ⟨_, List.getElem?_eq_getElem (by omega)⟩
        refine ⟨_, Wx.w.cell' 0 rfl, fnI (cap := []) (by kernel_rfl) (kid_spec Nx hc' ⟨_, rfl, Sub.refl _, fnI (cap := [_, _, _]) (by kernel_rfl) ?_⟩)⟩
        refine ih (g4 j c' hc') Ix Ex Tx Wx (fun c hc => ?_) (keepB Ty nt) (keepB Wy.t n1) (keepB Wy.f n2) (keepB Wy.w n3) ?_ fun h' M' I' st' => ⟨rfl, nd.kids.length - (j + 1), by omega, j + 1, M', rfl, rfl, by omega, ?_, st.trans st'⟩
        · obtain ⟨o, ho⟩ := Option.ne_none_iff_exists'.1 (Ey.in_heap hc)
          exact keepB ho (nS c hc)
        · have h1 := (flat_sub (g := idsP (P.pgs D n) m) nd.kids (j + 1)).length_le
          rw [flat_take hc', List.length_append] at h1
          rw [List.length_append]
          omega
        · rw [flat_take hc', ← List.append_assoc]; exact I'
      · have hjl : j = nd.kids.length := by have g : ¬ (j : Int) - 1 < (nd.l.length : Int) := g; omega
        rw [hjl, List.take_length] at Ix
        refine ⟨_, Wx.f.cell' 0 rfl, hdo (by rw [List.length_append]; have : [id].length = 1 := rfl; omega) Ix e Nx _ fun x' M' I' st' => ⟨rfl, hK x' M' ?_ ((Step.sub N.sub).trans (st.trans st'))⟩⟩
        unfold idsP
        rw [kidsOf_eq e, ← List.append_assoc]
        cases m <;> exact I'
    · unfold Nd.kind at ek; rw [g2] at ek; exact absurd rfl ek
set_option maxHeartbeats 1000000 in
theorem each_spec {B : Nat} {fv : Value} {I : List Nat → (Nat → Prop) → Hp → Prop} (hsub : ∀ {L M x y}, I L M x → Sub x y → I L M y) (hin : ∀ {L M x c}, I L M x → M c → x c ≠ none)
    (hdo : ∀ {L M x id nd k' a c}, L.length < B → I L M x → P.pgs D n id = some nd → NdEx x k' a c nd → ∀ K' : Value → Hp → Prop, (∀ x' M', I (L ++ [id]) M' x' → Step M x M' x' → K' (.tuple #[]) x') → FnH Tryz.prog fv [.int .i64 (id : Nat), .pointer (some ⟨k', 0, none⟩)] x K')
    (hfv : cellsOfV fv = [fv]) {M : Nat → Prop} (I0 : I [] M h) (E : PgAt h pb jb db S n D P) (T : TrAt h tb pb k) (hk : k < 4) (nS : ∀ c, S c → ¬ M c) (nt : ¬ M tb) {hg : Nat} {L : List KV} {ix : List Nat} (TT : Tree (P.pgs D n) (P.now.r k) hg L ix)
    (hB : (visit (P.pgs D n) hg (P.now.r k)).length ≤ B) (hK : ∀ h' M', I (visit (P.pgs D n) hg (P.now.r k)) M' h' → Step M h M' h' → K (.tuple #[]) h') : CallsH Tryz.prog btree_Tree_each.id #[.pointer (some ⟨tb, 0, none⟩), fv] h K := by
  apply btree_Tree_each.calls
  unfold btree_Tree_each.W
  intro k1 hk1
  have B1 := Blk.new h k1 25 [.pointer (some ⟨tb, 0, none⟩)]
  have s1 := Sub.upd hk1 (.cells [Value.pointer (some ⟨tb, 0, none⟩)].toArray 25 (0, 0))
  generalize h.upd k1 (.cells [Value.pointer (some ⟨tb, 0, none⟩)].toArray 25 (0, 0)) = y1 at B1 s1 ⊢
  intro k2 hk2
  rw [hfv]
  have B2 := Blk.new y1 k2 104 [fv]
  have s2 := Sub.upd hk2 (.cells [fv].toArray 104 (0, 0))
  generalize y1.upd k2 (.cells [fv].toArray 104 (0, 0)) = y2 at B2 s2 ⊢
  intro k3 hk3
  obtain ⟨s3, B3⟩ := fresh_put (t := 112) (vs := [.nilFunc]) (us := [.func (.func 92) #[] #[.pointer (some ⟨k1, 0, none⟩), .pointer (some ⟨k3, 0, none⟩), .pointer (some ⟨k2, 0, none⟩)]]) hk3
  refine ⟨(Blk.new y2 k3 112 [.nilFunc]).store (by show 1 ≤ 1; decide), ?_⟩
  generalize (y2.upd k3 (.cells [Value.nilFunc].toArray 112 (0, 0))).put k3 0 [.func (.func 92) #[] #[.pointer (some ⟨k1, 0, none⟩), .pointer (some ⟨k3, 0, none⟩), .pointer (some ⟨k2, 0, none⟩)]] = y8 at s3 B3 ⊢
  have s12 := s1.trans s2
  have s8 := s12.trans s3
  have W : EwAt y8 tb k1 k2 k3 fv := ⟨B1.sub (s2.trans s3), B2.sub s3, B3⟩
  have I8 := hsub I0 s8
  have E8 := E.sub s8
  have T8 : TrAt y8 tb pb k := Blk.sub T s8
  have fr : ∀ {c}, h c = none → ¬ M c := fun {c} hc hm => hin I0 hm hc
  refine ⟨_, W.t.cell' 0 rfl, split_not (fun _ => ?_) fun e => by cases e⟩
  refine ⟨_, W.t.cell' 0 rfl, tb, 0, rfl, _, T8.cell' 0 rfl, _, W.t.cell' 0 rfl, tb, 0, rfl, _, T8.cell' 1 rfl, fnI (cap := []) (by kernel_rfl) (root_spec E8 hk ⟨_, rfl, split_ne (fun e => ?_) fun e => ?_⟩)⟩
  · cases hg with
    | zero => exact absurd (by rw [TT.1]; rfl) e
    | succ m =>
      refine ⟨_, W.w.cell' 0 rfl, _, W.t.cell' 0 rfl, tb, 0, rfl, _, T8.cell' 0 rfl, _, W.t.cell' 0 rfl, tb, 0, rfl, _, T8.cell' 1 rfl, fnI (cap := []) (by kernel_rfl) (root_spec E8 hk ⟨_, rfl, Sub.refl _, fnI (cap := [_, _, _]) (by kernel_rfl) ?_⟩)⟩
      exact each_walk (I := I) hsub hin hdo m (L := []) TT.2.1 I8 E8 T8 W nS nt (fr hk1) (fr (s1.none hk2)) (fr (s12.none hk3)) (by rw [List.length_nil, Nat.zero_add]; exact hB) fun h' M' I' st => ⟨rfl, hK h' M' I' ((Step.sub s8).trans st)⟩
  · cases hg with
    | zero => exact hK y8 M I8 (Step.sub s8)
    | succ m => exact absurd (by omega) TT.1
def lfN (pg : Nat → Option Nd) (i : Nat) : Nat := match pg i with
  | some nd => if nd.leaf then nd.l.length else 0
  | none => 0
theorem lfN_ents {pg : Nat → Option Nd} : ∀ {m id : Nat} {f t : ByteArray}, Tr pg m id f t → ((idsP pg m id).map (lfN pg)).sum = (ents pg m id).length
  | 0, id, f, t, T => by
    obtain ⟨nd, g1, g2, g3⟩ := T
    unfold idsP ents lfN
    rw [kvs_eq g1, nd.kv_len]
    simp [g1, g2]
  | m + 1, id, f, t, T => by
    obtain ⟨nd, g1, g2, g3, g4⟩ := T
    unfold idsP ents
    rw [kidsOf_eq g1, List.map_append, List.sum_append]
    have e0 : ([id].map (lfN pg)).sum = 0 := by simp [lfN, g1, g2]
    rw [e0, Nat.add_zero]
    have : ∀ l : List Nat, (∀ c ∈ l, c ∈ nd.kids) → ((l.flatMap (idsP pg m)).map (lfN pg)).sum = (l.flatMap (ents pg m)).length := by
      intro l hl
      induction l with
      | nil => rfl
      | cons c l ih =>
        obtain ⟨j, hj⟩ := List.mem_iff_getElem?.1 (hl c List.mem_cons_self)
        rw [List.flatMap_cons, List.flatMap_cons, List.map_append, List.sum_append, List.length_append, ih fun c hc => hl c (List.mem_cons_of_mem _ hc), lfN_ents (g4 j c hj)]
    exact this _ fun c hc => hc
theorem lfN_le {pg : Nat → Option Nd} (O : PgOk pg) (i : Nat) : lfN pg i ≤ 256 := by
  unfold lfN
  cases e : pg i with
  | none => exact Nat.zero_le _
  | some nd =>
    have := (O i nd e).len
    simp only []
    split <;> omega
theorem sum_le {α : Type} {f : α → Nat} {b : Nat} (hf : ∀ x, f x ≤ b) : ∀ l : List α, (l.map f).sum ≤ l.length * b
  | [] => Nat.zero_le _
  | x :: l => by
    rw [List.map_cons, List.sum_cons, List.length_cons, Nat.add_mul]
    have := sum_le hf l
    have := hf x
    omega
theorem Tree.pages {pg : Nat → Option Nd} (lt : ∀ i, (pg i).isSome = true → i < n) {root hg : Nat} {L : List KV} {I : List Nat} (T : Tree pg root hg L I) : I.length ≤ n := by
  cases hg with
  | zero => rw [T.2.2]; exact Nat.zero_le _
  | succ m =>
    obtain ⟨h0, h1, h2, h3, h4⟩ := T
    exact nodup_below n I h4 fun i hi => lt i (h1.in_pg i (by rw [← h3]; exact hi))
theorem Tree.few {pg : Nat → Option Nd} (O : PgOk pg) (lt : ∀ i, (pg i).isSome = true → i < n) {root hg : Nat} {L : List KV} {I : List Nat} (T : Tree pg root hg L I) : L.length ≤ n * 256 := by
  cases hg with
  | zero => rw [T.2.1]; exact Nat.zero_le _
  | succ m =>
    obtain ⟨h0, h1, h2, h3, h4⟩ := T
    rw [h2, ← lfN_ents h1]
    refine Nat.le_trans (sum_le (lfN_le O) _) ?_
    rw [idsP_mem.length_eq, ← h3]
    exact Nat.mul_le_mul_right _ (nodup_below n I h4 fun i hi => lt i (h1.in_pg i (by rw [← h3]; exact hi)))
theorem len_spec (E : PgAt h pb jb db S n D P) (T : TrAt h tb pb k) (hk : k < 4) {hg : Nat} {L : List KV} {I : List Nat} (TT : Tree (P.pgs D n) (P.now.r k) hg L I) (hK : ∀ h', Sub h h' → K (.int .i64 (L.length : Nat)) h') :
    CallsH Tryz.prog btree_Tree_Len.id #[.pointer (some ⟨tb, 0, none⟩)] h K := by
  have hn := E.n2
  have hpk := pgs_ok E
  have few := TT.few hpk fun i hi => (pgs_lt hi).2
  apply btree_Tree_Len.calls
  unfold btree_Tree_Len.W
  intro k1 hk1
  obtain ⟨s1, B1⟩ := fresh_put (t := 3) (vs := [.int .i64 0]) (us := [.int .i64 0]) hk1
  refine ⟨(Blk.new h k1 3 [.int .i64 0]).store (by show 1 ≤ 1; decide), ?_⟩
  generalize (h.upd k1 (.cells [Value.int .i64 0].toArray 3 (0, 0))).put k1 0 [.int .i64 0] = y at s1 B1 ⊢
  have hv : (visit (P.pgs D n) hg (P.now.r k)).length ≤ n := by
    rw [(visit_perm TT).length_eq]
    exact TT.pages fun i hi => (pgs_lt hi).2
  refine each_spec (B := n) (I := fun l M x => (∀ c, M c ↔ c = k1) ∧ Blk x k1 3 [.int .i64 ((l.map (lfN (P.pgs D n))).sum : Nat)]) ?_ ?_ ?_ rfl (M := fun c => c = k1) ⟨fun c => Iff.rfl, B1⟩ (E.sub s1) (Blk.sub T s1) hk (fun c hc e => S_out E hk1 (e ▸ hc)) (fun e => by subst e; unfold TrAt Blk at T; rw [T] at hk1; cases hk1) TT hv fun h' M' I' st => ⟨rfl, _, I'.2.cell' 0 rfl, ?_⟩
  · exact fun {L M x y} H s => ⟨H.1, H.2.sub s⟩
  · exact fun {L M x c} H hc e => by
      have := H.2
      unfold Blk at this
      rw [(H.1 c).1 hc] at e
      rw [this] at e; cases e
  · intro l M x id nd k' a c hl H e Ne K' hK'
    refine fnI (cap := [_]) (by kernel_rfl) ?_
    apply btree_Tree_Len_1.calls
    unfold btree_Tree_Len_1.W
    have hs := sum_le (lfN_le hpk) l
    have hsl : l.length * 256 ≤ 128 * 256 := Nat.mul_le_mul_right _ (by omega)
    have ll := (hpk id nd e).len
    have es : ((l ++ [id]).map (lfN (P.pgs D n))).sum = (l.map (lfN (P.pgs D n))).sum + (if nd.leaf = true then nd.l.length else 0) := by
      rw [List.map_append, List.sum_append]
      congr 1
      simp [lfN, e]
    refine ⟨_, Ne.c0, split_eq (fun ek => ?_) fun ek => ?_⟩
    · have hlf : nd.leaf = true := by
        cases hlf : nd.leaf with
        | true => rfl
        | false => unfold Nd.kind at ek; rw [hlf] at ek; cases ek
      rw [if_pos hlf] at es
      refine ⟨_, H.2.cell' 0 rfl, _, _, _, Ne.c2, H.2.store (by show 1 ≤ 1; decide), hK' _ M ⟨H.1, ?_⟩ ⟨Keep.put _ _ _ _ ((H.1 _).2 rfl), fun c h => .inl h⟩⟩
      have := H.2.put 0 [.int .i64 (IntKind.i64.wrap (((l.map (lfN (P.pgs D n))).sum : Nat) + Int.ofNat nd.l.length))]
      rw [es]
      have e3 : IntKind.i64.wrap (((l.map (lfN (P.pgs D n))).sum : Nat) + Int.ofNat nd.l.length) = (((l.map (lfN (P.pgs D n))).sum + nd.l.length : Nat) : Int) := by
        rw [show Int.ofNat nd.l.length = ((nd.l.length : Nat) : Int) from rfl, wid (by omega) (by omega)]; omega
      rw [e3] at this ⊢
      exact this
    · have hlf : nd.leaf = false := by
        cases hlf : nd.leaf with
        | false => rfl
        | true => unfold Nd.kind at ek; rw [hlf] at ek; exact absurd rfl ek
      rw [hlf, if_neg (by decide), Nat.add_zero] at es
      exact hK' _ M ⟨H.1, by rw [es]; exact H.2⟩ (Step.refl _ _)
  · have : ((visit (P.pgs D n) hg (P.now.r k)).map (lfN (P.pgs D n))).sum = L.length := by
      cases hg with
      | zero => rw [TT.2.1]; rfl
      | succ m =>
        rw [TT.2.2.1]
        exact lfN_ents TT.2.1
    rw [this]
    exact hK h' (st.1.sub s1 fun c hc => by rw [hc]; exact hk1)
end Go.Proofs.YthbogjbcecmopaaGreatDoor
namespace Go.Proofs.YthbogjbcecmopaaGreatDoor
open Go.Gx
set_option maxRecDepth 100000
set_option linter.unusedVariables false
variable {h : Hp} {K : Value → Hp → Prop} {pb jb db n : Nat} {S : Nat → Prop} {D : Dk} {P : Pg} {tb k : Nat}
def kvC (p : KV) : List Value := [.string p.1, .string p.2]
theorem kvC_len (p : KV) : (kvC p).length = 2 := rfl
theorem kvC_plain (p : KV) : plainP (kvC p) := plainP_of rfl
theorem appTKV : AppT Tryz.prog 42 2 32 := AppT.of (by kernel_rfl)
structure OutAt (h : Hp) (k5 : Nat) (M : Nat → Prop) (L : List KV) : Prop where
  ex : ∃ a c, Blk h k5 37 [.slice a L.length c] ∧ OwnR kvC 2 h 42 a c L ∧ (∀ b, blkOf a b → b ≠ k5) ∧ ∀ b, M b ↔ (b = k5 ∨ blkOf a b)
theorem OutAt.sub {h' : Hp} {k5 : Nat} {M : Nat → Prop} {L : List KV} (O : OutAt h k5 M L) (s : Sub h h') : OutAt h' k5 M L := by
  obtain ⟨a, c, h1, h2, h3, h4⟩ := O.ex
  exact ⟨a, c, h1.sub s, h2.sub s, h3, h4⟩
theorem OutAt.in_heap {k5 : Nat} {M : Nat → Prop} {L : List KV} (O : OutAt h k5 M L) {c : Nat} (hc : M c) : h c ≠ none := by
  obtain ⟨a, c', h1, h2, h3, h4⟩ := O.ex
  rcases (h4 c).1 hc with rfl | hc
  · intro e; unfold Blk at h1; rw [h1] at e; cases e
  · exact Own.in_heap h2 hc
def rg (mx : Nat) (out R : List KV) : List KV := out ++ R.take (mx - out.length)
theorem rg_nil (mx : Nat) (out : List KV) : rg mx out [] = out := by unfold rg; simp
theorem rg_full {mx : Nat} {out : List KV} (h : mx ≤ out.length) (R : List KV) : rg mx out R = out := by
  unfold rg; rw [Nat.sub_eq_zero_of_le h, List.take_zero, List.append_nil]
theorem rg_append (mx : Nat) (out A B : List KV) : rg mx out (A ++ B) = rg mx (rg mx out A) B := by
  unfold rg
  rw [List.take_append, List.append_assoc]
  congr 3
  rw [List.length_append, List.length_take]
  omega
theorem rg_one {mx : Nat} {out : List KV} (h : out.length < mx) (p : KV) : rg mx out [p] = out ++ [p] := by
  unfold rg
  obtain ⟨r, hr⟩ : ∃ r, mx - out.length = r + 1 := ⟨mx - out.length - 1, by omega⟩
  rw [hr, List.take_succ_cons, List.take_nil]
theorem rg_len (mx : Nat) (out R : List KV) : (rg mx out R).length ≤ out.length + R.length := by
  unfold rg; rw [List.length_append, List.length_take]; omega
structure RwAt (h : Hp) (tb k1 k2 k3 k4 k5 k6 : Nat) (f t : ByteArray) (mo : Int) : Prop where
  tt : Blk h k1 25 [.pointer (some ⟨tb, 0, none⟩)]
  ff : Blk h k2 9 [.string f]
  tn : Blk h k3 9 [.string t]
  mo : Blk h k4 3 [.int .i64 mo]
  w : Blk h k6 112 [.func (.func 63) #[] #[.pointer (some ⟨k1, 0, none⟩), .pointer (some ⟨k2, 0, none⟩), .pointer (some ⟨k5, 0, none⟩), .pointer (some ⟨k4, 0, none⟩), .pointer (some ⟨k3, 0, none⟩), .pointer (some ⟨k6, 0, none⟩)]]
section
variable {k1 k2 k3 k4 k5 k6 : Nat} {f t : ByteArray} {mo : Int}
theorem RwAt.sub {h' : Hp} (C : RwAt h tb k1 k2 k3 k4 k5 k6 f t mo) (s : Sub h h') : RwAt h' tb k1 k2 k3 k4 k5 k6 f t mo := ⟨C.tt.sub s, C.ff.sub s, C.tn.sub s, C.mo.sub s, C.w.sub s⟩
theorem RwAt.keep {S' : Nat → Prop} {h' : Hp} (C : RwAt h tb k1 k2 k3 k4 k5 k6 f t mo) (s : Keep S' h h') (hn : ∀ c, c = k1 ∨ c = k2 ∨ c = k3 ∨ c = k4 ∨ c = k6 → ¬ S' c) : RwAt h' tb k1 k2 k3 k4 k5 k6 f t mo :=
  ⟨C.tt.keep s (hn _ (.inl rfl)), C.ff.keep s (hn _ (.inr (.inl rfl))), C.tn.keep s (hn _ (.inr (.inr (.inl rfl)))), C.mo.keep s (hn _ (.inr (.inr (.inr (.inl rfl))))), C.w.keep s (hn _ (.inr (.inr (.inr (.inr rfl)))))⟩
theorem RwAt.in_heap (C : RwAt h tb k1 k2 k3 k4 k5 k6 f t mo) {c : Nat} (hc : c = k1 ∨ c = k2 ∨ c = k3 ∨ c = k4 ∨ c = k6) : ∃ o, h c = some o := by
  rcases hc with rfl | rfl | rfl | rfl | rfl
  · exact ⟨_, C.tt⟩
  · exact ⟨_, C.ff⟩
  · exact ⟨_, C.tn⟩
  · exact ⟨_, C.mo⟩
  · exact ⟨_, C.w⟩
end
theorem not_in_lo {f t : ByteArray} {p : KV} (h : blt p.1 f = true) : kvIn f t p = false := by unfold kvIn; rw [h]; rfl
theorem not_in_hi {f t : ByteArray} {p : KV} (h : blt t p.1 = true) : kvIn f t p = false := by
  unfold kvIn
  rw [blt_asymm h, decide_eq_false (fun e => blt_ne h e.symm)]
  simp
theorem filter_none {L : List KV} {q : KV → Bool} (h : ∀ p ∈ L, q p = false) : L.filter q = [] := List.filter_eq_nil_iff.2 fun p hp e => by rw [h p hp] at e; cases e
set_option maxHeartbeats 4000000 in
theorem range_walk {k1 k2 k3 k4 k5 k6 : Nat} {f t : ByteArray} {mo : Int} : ∀ (m : Nat) {h : Hp} {K : Value → Hp → Prop} {id : Nat} {lo hi : ByteArray} {M : Nat → Prop} {out : List KV}, Tr (P.pgs D n) m id lo hi → OutAt h k5 M out → PgAt h pb jb db S n D P → TrAt h tb pb k → RwAt h tb k1 k2 k3 k4 k5 k6 f t mo →
      (∀ c, S c → ¬ M c) → ¬ M tb → (∀ c, c = k1 ∨ c = k2 ∨ c = k3 ∨ c = k4 ∨ c = k6 → ¬ M c) → out.length + (ents (P.pgs D n) m id).length ≤ 1000000 →
      (∀ h' M', OutAt h' k5 M' (rg mo.toNat out ((ents (P.pgs D n) m id).filter (kvIn f t))) → Step M h M' h' → K (.tuple #[]) h') →
      CallsH Tryz.prog 63 #[.int .i64 (id : Nat), .pointer (some ⟨k1, 0, none⟩), .pointer (some ⟨k2, 0, none⟩), .pointer (some ⟨k5, 0, none⟩), .pointer (some ⟨k4, 0, none⟩), .pointer (some ⟨k3, 0, none⟩), .pointer (some ⟨k6, 0, none⟩)] h K := by
  intro m
  induction m with
  | zero =>
    intro h K id lo hi M out Tm O E T W nS nt nW hB hK
    have hpk := pgs_ok E
    apply btree_Tree_Range_1.calls
    unfold btree_Tree_Range_1.W
    obtain ⟨nd, g1, g2, g3⟩ := Tm
    refine ⟨_, W.tt.cell' 0 rfl, fnI (cap := []) (by kernel_rfl) (load_spec E T _ (fun e => ?_) fun nd' e y k' N => ⟨_, _, rfl, split_ne (fun e => absurd rfl e) fun _ => ?_⟩)⟩
    · rw [show P.pgs D n id = none from e] at g1; cases g1
    have e : P.pgs D n id = some nd' := e
    rw [e] at g1; cases g1
    obtain ⟨a, c, Ne, fr⟩ := N.ex
    have ll := (hpk id nd e).len
    refine ⟨k', 0, rfl, _, Ne.c0, split_eq (fun ek => ?_) fun ek => ?_⟩
    · unfold Nd.kind at ek; rw [g2] at ek; cases ek
    have srt : kvSorted nd.kv := (keysOk_iff.1 g3).2
    have Wy := W.sub N.sub
    have eent : ents (P.pgs D n) 0 id = nd.kv := kvs_eq e
    rw [eent] at hB hK
    refine ⟨k', 0, rfl, _, _, _, Ne.c2, _, Wy.ff.cell' 0 rfl, fnI (cap := []) (by kernel_rfl) (place_spec Ne srt (by omega) f fun z sz => ⟨_, rfl, sz, by omega, ?_, ?_⟩)⟩
    · have := kvAt_le f nd.kv
      rw [nd.kv_len] at this
      show ((kvAt f nd.kv : Nat) : Int) ≤ ((nd.l.length : Nat) : Int)
      omega
    have hat := kvAt_le f nd.kv
    rw [nd.kv_len] at hat
    rw [Int.toNat_natCast]
    have Nz := Ne.sub sz
    have sxz := N.sub.trans sz
    have Oz := O.sub sxz
    have Wz := W.sub sxz
    have nk : ¬ M k' := fun hm => O.in_heap hm N.k0
    have na : ∀ b, blkOf a b → ¬ M b := fun b hb hm => O.in_heap hm (fr b hb)
    -- what the entries ahead of the place are
    have e1 : nd.kv.filter (kvIn f t) = (nd.kv.drop (kvAt f nd.kv)).filter (kvIn f t) := by
      conv => lhs; rw [← List.take_append_drop (kvAt f nd.kv) nd.kv, List.filter_append]
      rw [filter_none, List.nil_append]
      intro p hp
      obtain ⟨i, hi⟩ := List.mem_iff_getElem?.1 hp
      rw [List.getElem?_take] at hi
      split at hi
      · exact not_in_lo (kvAt_before f nd.kv i p hi (by assumption))
      · cases hi
    rw [e1] at hK
    have Rz : RowAt enC 3 z (slA c (kvAt f nd.kv) 3 a) (nd.l.drop (kvAt f nd.kv)) := by
      have := RowAt.part enC_len Nz.row (c := c) (i := kvAt f nd.kv) (n := nd.l.length - kvAt f nd.kv) Nz.le (by omega)
      rw [List.take_of_length_le (by rw [List.length_drop]; omega)] at this
      exact this
    have hsl : ∀ b, blkOf (slA c (kvAt f nd.kv) 3 a) b → blkOf a b := by
      intro b hb
      obtain ⟨o, s, hb⟩ := hb
      unfold slA at hb
      split at hb
      · exact ⟨o, s, hb⟩
      · cases a with
        | none => cases hb
        | some a0 =>
          have hb : some (a0.add _) = some _ := hb
          have h2 : ∀ q, (a0.add q).block = a0.block := fun q => by unfold Addr.add; split <;> rfl
          have h1 : (a0.add _).block = b := congrArg Addr.block (Option.some.inj hb)
          rw [h2] at h1
          subst h1
          exact ⟨a0.off, a0.spot, rfl⟩
    refine ⟨fun i x m0 => ∃ (q : Nat) (Mx : Nat → Prop), i = (q : Int) ∧ q ≤ nd.l.length - kvAt f nd.kv ∧ m0 = nd.l.length - kvAt f nd.kv - q ∧ OutAt x k5 Mx (rg mo.toNat out (((nd.kv.drop (kvAt f nd.kv)).take q).filter (kvIn f t))) ∧ Step M z Mx x, ⟨_, 0, M, rfl, Nat.zero_le _, rfl, by rw [List.take_zero, List.filter_nil, rg_nil]; exact Oz, Step.refl _ _⟩, ?_⟩
    rintro i x m0 ⟨q, Mx, rfl, hq, rfl, Ox, st⟩
    have Rx := Rz.keep st.1 fun b hb => na b (hsl b hb)
    have Wx := Wz.keep st.1 nW
    have done : ∀ {R : List KV}, (nd.kv.drop (kvAt f nd.kv)).filter (kvIn f t) = ((nd.kv.drop (kvAt f nd.kv)).take q).filter (kvIn f t) ++ R → rg mo.toNat (rg mo.toNat out (((nd.kv.drop (kvAt f nd.kv)).take q).filter (kvIn f t))) R = rg mo.toNat out (((nd.kv.drop (kvAt f nd.kv)).take q).filter (kvIn f t)) → K (.tuple #[]) x := fun {R} h1 h2 => by
      refine hK x Mx ?_ ((Step.sub sxz).trans st)
      rw [h1, rg_append, h2]; exact Ox
    have spl : (nd.kv.drop (kvAt f nd.kv)).filter (kvIn f t) = ((nd.kv.drop (kvAt f nd.kv)).take q).filter (kvIn f t) ++ ((nd.kv.drop (kvAt f nd.kv)).drop q).filter (kvIn f t) := by
      rw [← List.filter_append, List.take_append_drop]
    refine split_dec (fun g => ?_) fun g => ?_
    · have g : (q : Int) < ((nd.l.length - kvAt f nd.kv : Nat) : Int) := g
      have hlt : kvAt f nd.kv + q < nd.l.length := by omega
      have he : nd.l[kvAt f nd.kv + q]? = some nd.l[kvAt f nd.kv + q] := List.getElem?_eq_getElem hlt
      have hed : (nd.l.drop (kvAt f nd.kv))[q]? = some nd.l[kvAt f nd.kv + q] := by rw [List.getElem?_drop]; exact he
      generalize nd.l[kvAt f nd.kv + q] = en at he hed
      have hkv := Nd.kv_get he
      have hkd : (nd.kv.drop (kvAt f nd.kv))[q]? = some en.kv := by rw [List.getElem?_drop]; exact hkv
      obtain ⟨b, o, ea, hc⟩ := RowAt.get enC_len (by decide) Rx hed
      have e11 : IntKind.i64.wrap ((q : Int) + 1) = ((q + 1 : Nat) : Int) := by rw [wid (by omega) (by omega)]; omega
      rw [e11]
      have gef : blt en.key f = false := Go.Proofs.YthbogjbcecmopaaGreatDoor.kvAt_after srt hkv (by omega)
      refine ⟨by omega, g, b, o, ea, _, by rw [Int.toNat_natCast]; exact hc 0 _ rfl, _, by rw [Int.toNat_natCast]; exact hc 1 (.string en.val) rfl, _, by rw [Int.toNat_natCast]; exact hc 2 (.int .i64 (en.kid : Nat)) rfl, _, Wx.tn.cell' 0 rfl, ?_⟩
      rw [bltS_val]
      refine split_not (fun e3 => done spl ?_) fun e3 => ?_
      · have hno : ((nd.kv.drop (kvAt f nd.kv)).drop q).filter (kvIn f t) = [] := filter_none ?_
        · rw [hno, rg_nil]
        intro p hp
        have gt : blt t en.key = true := by rw [← ble_not, e3]; rfl
        obtain ⟨j, hj⟩ := List.mem_iff_getElem?.1 hp
        rw [List.getElem?_drop, List.getElem?_drop] at hj
        refine not_in_hi ?_
        rcases Nat.eq_zero_or_pos j with rfl | hj0
        · rw [Nat.add_zero, hkv] at hj; cases hj; exact gt
        · exact blt_trans gt (sorted_lt srt hkv hj (by omega))
      · obtain ⟨oa, oc, o1, o2, o3, o4⟩ := Ox.ex
        refine ⟨_, _, _, o1.cell' 0 rfl, _, Wx.mo.cell' 0 rfl, split_dec (fun gm => done spl ?_) fun gm => ?_⟩
        · have gm : (((rg mo.toNat out (((nd.kv.drop (kvAt f nd.kv)).take q).filter (kvIn f t))).length : Nat) : Int) ≥ mo := gm
          exact rg_full (by omega) _
        · have gm : ¬ (((rg mo.toNat out (((nd.kv.drop (kvAt f nd.kv)).take q).filter (kvIn f t))).length : Nat) : Int) ≥ mo := gm
          have isin : kvIn f t en.kv = true := by
            unfold kvIn
            rw [beqS_val] at e3
            show (!blt en.key f && (blt en.key t || decide (en.key = t))) = true
            rw [gef, e3]; rfl
          have nx : rg mo.toNat out (((nd.kv.drop (kvAt f nd.kv)).take (q + 1)).filter (kvIn f t)) = rg mo.toNat out (((nd.kv.drop (kvAt f nd.kv)).take q).filter (kvIn f t)) ++ [en.kv] := by
            rw [List.take_add_one, hkd, List.filter_append, rg_append]
            have : ([en.kv]).filter (kvIn f t) = [en.kv] := by rw [List.filter_cons_of_pos isin]; rfl
            show rg _ _ (([en.kv]).filter (kvIn f t)) = _
            rw [this, rg_one (by omega)]
          have rl := rg_len mo.toNat out (((nd.kv.drop (kvAt f nd.kv)).take q).filter (kvIn f t))
          have fl := (((nd.kv.drop (kvAt f nd.kv)).take q).filter_sublist (p := kvIn f t)).length_le
          rw [List.length_take, List.length_drop, nd.kv_len] at fl
          rw [nd.kv_len] at hB
          refine ⟨_, _, _, o1.cell' 0 rfl, fun k72 hk72 => ⟨kvC en.kv, (Blk.new x k72 42 (kvC en.kv)).slice rfl, ?_⟩⟩
          have s72 := Sub.upd hk72 (.cells (kvC en.kv).toArray 42 (0, 0))
          refine ⟨fun a' c' x' => ∃ Mx', StoreOk x' k5 0 1 ∧ OutAt (x'.put k5 0 [.slice a' ((rg mo.toNat out (((nd.kv.drop (kvAt f nd.kv)).take q).filter (kvIn f t))).length + 1) c']) k5 Mx' (rg mo.toNat out (((nd.kv.drop (kvAt f nd.kv)).take q).filter (kvIn f t)) ++ [en.kv]) ∧ Step Mx x Mx' (x'.put k5 0 [.slice a' ((rg mo.toNat out (((nd.kv.drop (kvAt f nd.kv)).take q).filter (kvIn f t))).length + 1) c']), ?_, ?_⟩
          · rintro a' c' x' ⟨Mx', so, O', st'⟩
            exact ⟨so, nd.l.length - kvAt f nd.kv - (q + 1), by omega, q + 1, Mx', rfl, by omega, rfl, by rw [nx]; exact O', st.trans st'⟩
          · generalize rg mo.toNat out (((nd.kv.drop (kvAt f nd.kv)).take q).filter (kvIn f t)) = ou at o1 o2 rl ⊢
            refine append_ownR appTKV kvC_len kvC_plain (M := [en.kv]) (o2.sub s72) rfl rfl (rowC_one _).symm ?_ fun a' c' x' O' kp nb => ?_
            · show (2 * (ou.length + 1) + 768) * 32 ≤ _
              omega
            · have Bx : Blk x' k5 37 _ := (o1.sub s72).keep kp fun hb => o3 _ hb rfl
              have nb' : ∀ b, blkOf a' b → blkOf oa b ∨ x b = none := fun b hb => (nb b hb).imp (fun h => h) s72.none
              have ne' : ∀ b, blkOf a' b → b ≠ k5 := fun b hb e => by
                subst e
                rcases nb' b hb with h1 | h1
                · exact o3 b h1 rfl
                · unfold Blk at o1; rw [o1] at h1; cases h1
              refine ⟨fun c => c = k5 ∨ blkOf a' c, Bx.store (by show 1 ≤ 1; decide), ⟨a', c', ?_, O'.keep (Keep.put (fun c => c = k5) _ _ _ rfl) ne', ne', fun b => Iff.rfl⟩, ?_, ?_⟩
              · rw [List.length_append]; exact Bx.put 0 _
              · exact ((s72.keep _).trans (kp.mono fun c hc => (o4 c).2 (.inr hc))).trans (Keep.put _ _ _ _ ((o4 k5).2 (.inl rfl)))
              · rintro c (rfl | hc)
                · exact .inl ((o4 _).2 (.inl rfl))
                · exact (nb' c hc).imp (fun hb => (o4 c).2 (.inr hb)) fun h => h
    · have g : ¬ (q : Int) < ((nd.l.length - kvAt f nd.kv : Nat) : Int) := g
      refine done spl ?_
      have hno : (nd.kv.drop (kvAt f nd.kv)).drop q = [] := List.drop_eq_nil_of_le (by rw [List.length_drop, nd.kv_len]; omega)
      rw [hno, List.filter_nil, rg_nil]
  | succ m ih =>
    intro h K id lo hi M out Tm O E T W nS nt nW hB hK
    have hpk := pgs_ok E
    apply btree_Tree_Range_1.calls
    unfold btree_Tree_Range_1.W
    obtain ⟨nd, g1, g2, g3, g4⟩ := Tm
    refine ⟨_, W.tt.cell' 0 rfl, fnI (cap := []) (by kernel_rfl) (load_spec E T _ (fun e => ?_) fun nd' e y k' N => ⟨_, _, rfl, split_ne (fun e => absurd rfl e) fun _ => ?_⟩)⟩
    · rw [show P.pgs D n id = none from e] at g1; cases g1
    have e : P.pgs D n id = some nd' := e
    rw [e] at g1; cases g1
    obtain ⟨a, c, Ne, fr⟩ := N.ex
    have ll := (hpk id nd e).len
    have kl := nd.kids_len
    refine ⟨k', 0, rfl, _, Ne.c0, split_eq (fun ek => ?_) fun ek => ?_⟩
    rotate_left
    · unfold Nd.kind at ek; rw [g2] at ek; exact absurd rfl ek
    have srt : kvSorted nd.kv := (keysOk_iff.1 g3).2
    have Wy := W.sub N.sub
    have hbe := kvBe_le f nd.kv
    rw [nd.kv_len] at hbe
    have eent : ents (P.pgs D n) (m + 1) id = nd.kids.flatMap (ents (P.pgs D n) m) := by
      rw [← kidsOf_eq e]; cases m <;> rfl
    rw [eent] at hB hK
    have sub := fun j c hj => (g4 j c hj).ents_ok hpk
    refine ⟨_, Wy.ff.cell' 0 rfl, fnI (cap := []) (by kernel_rfl) (below_spec Ne srt (by omega) f fun z sz => ⟨_, rfl, ?_⟩)⟩
    have Nz := Ne.sub sz
    have sxz := N.sub.trans sz
    have Oz := O.sub sxz
    have Wz := W.sub sxz
    have Ez := E.sub sxz
    have Tz : TrAt z tb pb k := Blk.sub T sxz
    have nk : ¬ M k' := fun hm => O.in_heap hm N.k0
    have na : ∀ b, blkOf a b → ¬ M b := fun b hb hm => O.in_heap hm (fr b hb)
    have mem_take : ∀ {j : Nat} {p : KV}, p ∈ (nd.kids.take j).flatMap (ents (P.pgs D n) m) → ∃ i c, i < j ∧ nd.kids[i]? = some c ∧ p ∈ ents (P.pgs D n) m c := fun {j p} hp => by
      obtain ⟨c, hc, hp⟩ := List.mem_flatMap.1 hp
      obtain ⟨i, hi⟩ := List.mem_iff_getElem?.1 hc
      rw [List.getElem?_take] at hi
      split at hi
      · exact ⟨i, c, by assumption, hi, hp⟩
      · cases hi
    have mem_drop : ∀ {j : Nat} {p : KV}, p ∈ (nd.kids.drop j).flatMap (ents (P.pgs D n) m) → ∃ i c, j ≤ i ∧ nd.kids[i]? = some c ∧ p ∈ ents (P.pgs D n) m c := fun {j p} hp => by
      obtain ⟨c, hc, hp⟩ := List.mem_flatMap.1 hp
      obtain ⟨i, hi⟩ := List.mem_iff_getElem?.1 hc
      rw [List.getElem?_drop] at hi
      exact ⟨j + i, c, by omega, hi, hp⟩
    have e1 : ((nd.kids.take (kvBe f nd.kv)).flatMap (ents (P.pgs D n) m)).filter (kvIn f t) = [] := by
      refine filter_none fun p hp => ?_
      obtain ⟨i, c, hi, hc, hp⟩ := mem_take hp
      have he : nd.l[i]? = some nd.l[i] := List.getElem?_eq_getElem (by omega)
      have h1 := kvBe_before f nd.kv i _ (Nd.kv_get he) hi
      have h2 := ((sub i c hc).1 p hp).2.1
      rw [Nd.hi_some he] at h2
      exact not_in_lo (blt_le_trans (h2 ((hpk id nd e).key_ne (List.mem_of_getElem? he))) h1)
    refine ⟨fun i x m0 => ∃ (j : Nat) (Mx : Nat → Prop), i = (j : Int) - 1 ∧ kvBe f nd.kv ≤ j ∧ j ≤ nd.kids.length ∧ m0 = nd.kids.length - j ∧ OutAt x k5 Mx (rg mo.toNat out (((nd.kids.take j).flatMap (ents (P.pgs D n) m)).filter (kvIn f t))) ∧ Step M z Mx x, ⟨_, kvBe f nd.kv, M, rfl, Nat.le_refl _, by omega, rfl, by rw [e1, rg_nil]; exact Oz, Step.refl _ _⟩, ?_⟩
    rintro i x m0 ⟨j, Mx, rfl, hjb, hj, rfl, Ox, st⟩
    have keepB : ∀ {c o}, z c = some o → ¬ M c → ¬ Mx c := fun {c o} hc hn => (st.out hc hn).2
    have Ex := Ez.out st.1 nS
    have Tx : TrAt x tb pb k := Blk.keep Tz st.1 nt
    have Wx := Wz.keep st.1 nW
    have Nx := Nz.out st.1 nk na
    have spl : (nd.kids.flatMap (ents (P.pgs D n) m)).filter (kvIn f t) = ((nd.kids.take j).flatMap (ents (P.pgs D n) m)).filter (kvIn f t) ++ ((nd.kids.drop j).flatMap (ents (P.pgs D n) m)).filter (kvIn f t) := by
      rw [← List.filter_append, ← List.flatMap_append, List.take_append_drop]
    have done : rg mo.toNat (rg mo.toNat out (((nd.kids.take j).flatMap (ents (P.pgs D n) m)).filter (kvIn f t))) (((nd.kids.drop j).flatMap (ents (P.pgs D n) m)).filter (kvIn f t)) = rg mo.toNat out (((nd.kids.take j).flatMap (ents (P.pgs D n) m)).filter (kvIn f t)) → K (.tuple #[]) x := fun h2 => by
      refine hK x Mx ?_ ((Step.sub sxz).trans st)
      rw [spl, rg_append, h2]; exact Ox
    have e12 : IntKind.i64.wrap ((j : Int) - 1 + 1) = ((j + 1 : Nat) : Int) - 1 := by rw [wid (by omega) (by omega)]; omega
    rw [e12]
    obtain ⟨oa, oc, o1, o2, o3, o4⟩ := Ox.ex
    refine ⟨fun x' => x = x' ∧ j < nd.kids.length, ?_, k', 0, rfl, _, _, _, Nx.c2, split_dec (fun g => ⟨_, _, _, o1.cell' 0 rfl, _, Wx.mo.cell' 0 rfl, split_dec (fun gm => split_dec (fun g0 => ⟨rfl, ?_⟩) fun g0 => ?_) fun gm => done ?_⟩) fun g => done ?_⟩
    · rintro x' ⟨rfl, hjl⟩
      obtain ⟨c', hc'⟩ : ∃ c', nd.kids[j]? = some c' := ⟨_, List.getElem?_eq_getElem hjl⟩
      refine ⟨_, Wx.w.cell' 0 rfl, fnI (cap := []) (by kernel_rfl) (kid_spec Nx hc' ⟨_, rfl, Sub.refl _, fnI (cap := [_, _, _, _, _, _]) (by kernel_rfl) ?_⟩)⟩
      refine ih (g4 j c' hc') Ox Ex Tx Wx (fun c hc => ?_) (keepB Tz nt) (fun c hc => ?_) ?_ fun h' M' O' st' => ⟨rfl, nd.kids.length - (j + 1), by omega, j + 1, M', rfl, by omega, by omega, rfl, ?_, st.trans st'⟩
      · obtain ⟨o, ho⟩ := Option.ne_none_iff_exists'.1 (Ez.in_heap hc)
        exact keepB ho (nS c hc)
      · obtain ⟨o, ho⟩ := Wz.in_heap hc
        exact keepB ho (nW c hc)
      · have h1 := rg_len mo.toNat out (((nd.kids.take j).flatMap (ents (P.pgs D n) m)).filter (kvIn f t))
        have h2 := (((nd.kids.take j).flatMap (ents (P.pgs D n) m)).filter_sublist (p := kvIn f t)).length_le
        have h3 := (flat_sub (g := ents (P.pgs D n) m) nd.kids (j + 1)).length_le
        rw [flat_take hc', List.length_append] at h3
        omega
      · rw [flat_take hc', List.filter_append, rg_append]; exact O'
    · omega
    · obtain ⟨q, rfl⟩ : ∃ q, j = q + 1 := ⟨j - 1, by omega⟩
      have e13 : ((q + 1 : Nat) : Int) - 1 = ((q : Nat) : Int) := by omega
      rw [e13] at g ⊢
      have g : (q : Int) < (nd.l.length : Int) := g
      have he : nd.l[q]? = some nd.l[q] := List.getElem?_eq_getElem (by omega)
      obtain ⟨b, o, ea, c0, c1, c2⟩ := Nx.get he
      refine ⟨k', 0, rfl, _, _, _, Nx.c2, by omega, g, b, o, ea, _, by rw [Int.toNat_natCast]; exact c0, _, Wx.tn.cell' 0 rfl, ?_⟩
      rw [bltS_val]
      refine split_cond (fun _ => ⟨rfl, by omega⟩) fun e3 => done ?_
      have gt : blt t nd.l[q].key = true := by rw [← ble_not, e3]; rfl
      have hno : ((nd.kids.drop (q + 1)).flatMap (ents (P.pgs D n) m)).filter (kvIn f t) = [] := filter_none fun p hp => by
        obtain ⟨i, c, hi, hc, hp⟩ := mem_drop hp
        have h2 := ((sub i c hc).1 p hp).1
        have hil : i ≤ nd.l.length := by
          have := (List.getElem?_eq_some_iff.1 hc).1
          omega
        obtain ⟨i', rfl⟩ : ∃ i', i = i' + 1 := ⟨i - 1, by omega⟩
        have he' : nd.l[i']? = some nd.l[i'] := List.getElem?_eq_getElem (by omega)
        rw [Nd.lo_succ he'] at h2
        refine not_in_hi ?_
        rcases Nat.lt_or_ge q i' with h' | h'
        · exact blt_le_trans (blt_trans gt (sorted_lt srt (Nd.kv_get he) (Nd.kv_get he') h')) h2
        · have : i' = q := by omega
          subst this
          exact blt_le_trans gt h2
      rw [hno, rg_nil]
    · have gm : ¬ (((rg mo.toNat out (((nd.kids.take j).flatMap (ents (P.pgs D n) m)).filter (kvIn f t))).length : Nat) : Int) < mo := gm
      exact rg_full (by omega) _
    · have g : ¬ (j : Int) - 1 < (nd.l.length : Int) := g
      have hno : nd.kids.drop j = [] := List.drop_eq_nil_of_le (by omega)
      rw [hno, List.flatMap_nil, List.filter_nil, rg_nil]
set_option maxHeartbeats 1000000 in
theorem range_spec (E : PgAt h pb jb db S n D P) (T : TrAt h tb pb k) (hk : k < 4) {hg : Nat} {L : List KV} {I : List Nat} (TT : Tree (P.pgs D n) (P.now.r k) hg L I) (f t : ByteArray) (mo : Int) (hK : ∀ h' a c, NewR kvC 2 42 h h' a c (kvRange f t mo.toNat L) → K (.slice a (kvRange f t mo.toNat L).length c) h') :
    CallsH Tryz.prog btree_Tree_Range.id #[.pointer (some ⟨tb, 0, none⟩), .string f, .string t, .int .i64 mo] h K := by
  have hn := E.n2
  have hpk := pgs_ok E
  have few := TT.few hpk fun i hi => (pgs_lt hi).2
  have few2 : n * 256 ≤ 128 * 256 := Nat.mul_le_mul_right _ hn
  apply btree_Tree_Range.calls
  unfold btree_Tree_Range.W
  intro k1 hk1
  have B1 := Blk.new h k1 25 [.pointer (some ⟨tb, 0, none⟩)]
  have s1 := Sub.upd hk1 (.cells [Value.pointer (some ⟨tb, 0, none⟩)].toArray 25 (0, 0))
  generalize h.upd k1 (.cells [Value.pointer (some ⟨tb, 0, none⟩)].toArray 25 (0, 0)) = y1 at B1 s1 ⊢
  intro k2 hk2
  have B2 := Blk.new y1 k2 9 [.string f]
  have s2 := Sub.upd hk2 (.cells [Value.string f].toArray 9 (0, 0))
  generalize y1.upd k2 (.cells [Value.string f].toArray 9 (0, 0)) = y2 at B2 s2 ⊢
  intro k3 hk3
  have B3 := Blk.new y2 k3 9 [.string t]
  have s3 := Sub.upd hk3 (.cells [Value.string t].toArray 9 (0, 0))
  generalize y2.upd k3 (.cells [Value.string t].toArray 9 (0, 0)) = y3 at B3 s3 ⊢
  intro k4 hk4
  have B4 := Blk.new y3 k4 3 [.int .i64 mo]
  have s4 := Sub.upd hk4 (.cells [Value.int .i64 mo].toArray 3 (0, 0))
  generalize y3.upd k4 (.cells [Value.int .i64 mo].toArray 3 (0, 0)) = y4 at B4 s4 ⊢
  intro k5 hk5
  have B5 := Blk.new y4 k5 37 [.slice none 0 0]
  have s5 := Sub.upd hk5 (.cells [Value.slice none 0 0].toArray 37 (0, 0))
  generalize y4.upd k5 (.cells [Value.slice none 0 0].toArray 37 (0, 0)) = y5 at B5 s5 ⊢
  have s15 : Sub h y5 := s1.trans (s2.trans (s3.trans (s4.trans s5)))
  refine ⟨_, (B1.sub (s2.trans (s3.trans (s4.trans s5)))).cell' 0 rfl, split_cond (fun e => by cases e) fun _ => ?_⟩
  intro k6 hk6
  obtain ⟨s6, B6⟩ := fresh_put (t := 112) (vs := [.nilFunc]) (us := [.func (.func 63) #[] #[.pointer (some ⟨k1, 0, none⟩), .pointer (some ⟨k2, 0, none⟩), .pointer (some ⟨k5, 0, none⟩), .pointer (some ⟨k4, 0, none⟩), .pointer (some ⟨k3, 0, none⟩), .pointer (some ⟨k6, 0, none⟩)]]) hk6
  refine ⟨(Blk.new y5 k6 112 [.nilFunc]).store (by show 1 ≤ 1; decide), ?_⟩
  generalize (y5.upd k6 (.cells [Value.nilFunc].toArray 112 (0, 0))).put k6 0 [.func (.func 63) #[] #[.pointer (some ⟨k1, 0, none⟩), .pointer (some ⟨k2, 0, none⟩), .pointer (some ⟨k5, 0, none⟩), .pointer (some ⟨k4, 0, none⟩), .pointer (some ⟨k3, 0, none⟩), .pointer (some ⟨k6, 0, none⟩)]] = y8 at s6 B6 ⊢
  have W : RwAt y8 tb k1 k2 k3 k4 k5 k6 f t mo := ⟨B1.sub (s2.trans (s3.trans (s4.trans (s5.trans s6)))), B2.sub (s3.trans (s4.trans (s5.trans s6))), B3.sub (s4.trans (s5.trans s6)), B4.sub (s5.trans s6), B6⟩
  have s8 := s15.trans s6
  have E8 := E.sub s8
  have T8 : TrAt y8 tb pb k := Blk.sub T s8
  have O8 : OutAt y8 k5 (fun c => c = k5) [] := ⟨none, 0, B5.sub s6, OwnR.nil _ _, (fun b ⟨o, s, e⟩ => by cases e), fun b => ⟨.inl, fun h => h.elim (fun h => h) fun ⟨o, s, e⟩ => by cases e⟩⟩
  have h5 : h k5 = none := (s1.trans (s2.trans (s3.trans s4))).none hk5
  refine ⟨_, W.tt.cell' 0 rfl, tb, 0, rfl, _, T8.cell' 0 rfl, _, W.tt.cell' 0 rfl, tb, 0, rfl, _, T8.cell' 1 rfl, fnI (cap := []) (by kernel_rfl) (root_spec E8 hk ⟨_, rfl, split_ne (fun e => ?_) fun e => ?_⟩)⟩
  · cases hg with
    | zero => exact absurd (by rw [TT.1]; rfl) e
    | succ m =>
      refine ⟨_, W.w.cell' 0 rfl, fnI (cap := [_, _, _, _, _, _]) (by kernel_rfl) ?_⟩
      rw [TT.2.2.1] at few
      refine range_walk m TT.2.1 O8 E8 T8 W (fun c hc e => S_out E h5 (e ▸ hc)) (fun e => by subst e; unfold TrAt Blk at T; rw [T] at h5; cases h5) ?_ (by rw [List.length_nil]; omega) fun h' M' O' st => ⟨rfl, ?_⟩
      · have n5 : ∀ {c o}, y4 c = some o → c ≠ k5 := fun {c o} hc e => by rw [e, hk5] at hc; cases hc
        rintro c (rfl | rfl | rfl | rfl | rfl)
        · exact n5 (B1.sub (s2.trans (s3.trans s4)))
        · exact n5 (B2.sub (s3.trans s4))
        · exact n5 (B3.sub s4)
        · exact n5 B4
        · exact fun e => by rw [e] at hk6; unfold Blk at B5; rw [B5] at hk6; cases hk6
      · obtain ⟨a, c, o1, o2, o3, o4⟩ := O'.ex
        have er : rg mo.toNat [] ((ents (P.pgs D n) m (P.now.r k)).filter (kvIn f t)) = kvRange f t mo.toNat L := by
          rw [TT.2.2.1]; rfl
        rw [er] at o1 o2
        refine ⟨_, _, _, o1.cell' 0 rfl, hK h' a c ⟨st.1.sub s8 fun c hc => by rw [hc]; exact h5, fun b hb => ?_, o2⟩⟩
        rcases st.2 b ((o4 b).2 (.inr hb)) with h1 | h1
        · rw [h1]; exact h5
        · exact s8.none h1
  · cases hg with
    | zero =>
      have er : kvRange f t mo.toNat L = [] := by rw [TT.2.1]; unfold kvRange; simp
      have := hK y8 none 0 (by rw [er]; exact ⟨s8, (fun b ⟨o, s, e⟩ => by cases e), OwnR.nil _ _⟩)
      rw [er] at this
      exact ⟨_, _, _, (B5.sub s6).cell' 0 rfl, this⟩
    | succ m => exact absurd (by omega) TT.1
end Go.Proofs.YthbogjbcecmopaaGreatDoor
namespace Go.Proofs.YthbogjbcecmopaaGreatDoor
open Go.Gx Go.Shelf Go.RowKit
set_option maxRecDepth 100000
set_option linter.unusedVariables false
def Tryz.rep_ren : Go.Shelf.Ren := ⟨fun | 105 => 55 | 212 => 93 | 99 => 94 | 165 => 95 | 166 => 96 | 170 => 97 | 169 => 98 | 263 => 119 | 264 => 120 | 206 => 121 | 240 => 122 | 241 => 123 | 276 => 139 | 277 => 140 | n => n, fun | 9 => 9 | 3 => 3 | 4 => 4 | 20 => 20 | 0 => 0 | 46 => 143 | 109 => 144 | 5 => 5 | 72 => 148 | 76 => 151 | 51 => 172 | 146 => 173 | 53 => 79 | 148 => 175 | 70 => 146 | 37 => 32 | 75 => 150 | 127 => 177 | 164 => 190 | 80 => 90 | n => n, fun n => n⟩
theorem Tryz.rep : Go.Proofs.Lays.n105 Tryz.prog Tryz.rep_ren := {
  mixed := by kernel_rfl
  f99 := Tryz.func94.trans (congrArg some (by kernel_rfl))
  f105 := Tryz.func55.trans (congrArg some (by kernel_rfl))
  f165 := Tryz.func95.trans (congrArg some (by kernel_rfl))
  f166 := Tryz.func96.trans (congrArg some (by kernel_rfl))
  f169 := Tryz.func98.trans (congrArg some (by kernel_rfl))
  f170 := Tryz.func97.trans (congrArg some (by kernel_rfl))
  f206 := Tryz.func121.trans (congrArg some (by kernel_rfl))
  f212 := Tryz.func93.trans (congrArg some (by kernel_rfl))
  f240 := Tryz.func122.trans (congrArg some (by kernel_rfl))
  f241 := Tryz.func123.trans (congrArg some (by kernel_rfl))
  f263 := Tryz.func119.trans (congrArg some (by kernel_rfl))
  f264 := Tryz.func120.trans (congrArg some (by kernel_rfl))
  f276 := Tryz.func139.trans (congrArg some (by kernel_rfl))
  f277 := Tryz.func140.trans (congrArg some (by kernel_rfl))
  t0 := Tryz.underlying0
  a0 := Tryz.isAgg0
  z0 := Tryz.sizeOf0
  v0 := Tryz.zeroValue0
  t3 := Tryz.underlying3
  a3 := Tryz.isAgg3
  z3 := Tryz.sizeOf3
  v3 := Tryz.zeroValue3
  t4 := Tryz.underlying4
  a4 := Tryz.isAgg4
  z4 := Tryz.sizeOf4
  v4 := Tryz.zeroValue4
  t5 := Tryz.underlying5
  a5 := Tryz.isAgg5
  z5 := Tryz.sizeOf5
  v5 := Tryz.zeroValue5
  t9 := Tryz.underlying9
  a9 := Tryz.isAgg9
  z9 := Tryz.sizeOf9
  v9 := Tryz.zeroValue9
  t20 := Tryz.underlying20
  a20 := Tryz.isAgg20
  z20 := Tryz.sizeOf20
  v20 := Tryz.zeroValue20
  t37 := Tryz.underlying32
  a37 := Tryz.isAgg32
  z37 := Tryz.sizeOf32
  v37 := Tryz.zeroValue32
  t46 := Tryz.underlying143
  a46 := Tryz.isAgg143
  z46 := Tryz.sizeOf143
  v46 := Tryz.zeroValue143
  t51 := Tryz.underlying172
  a51 := Tryz.isAgg172
  z51 := Tryz.sizeOf172
  v51 := Tryz.zeroValue172
  t53 := Tryz.underlying79
  a53 := Tryz.isAgg79
  z53 := Tryz.sizeOf79
  v53 := Tryz.zeroValue79
  t70 := Tryz.underlying146
  a70 := Tryz.isAgg146
  z70 := Tryz.sizeOf146
  v70 := Tryz.zeroValue146
  t72 := Tryz.underlying148
  a72 := Tryz.isAgg148
  z72 := Tryz.sizeOf148
  v72 := Tryz.zeroValue148
  t75 := Tryz.underlying150
  a75 := Tryz.isAgg150
  z75 := Tryz.sizeOf150
  v75 := Tryz.zeroValue150
  t76 := Tryz.underlying151
  a76 := Tryz.isAgg151
  z76 := Tryz.sizeOf151
  v76 := Tryz.zeroValue151
  t109 := Tryz.underlying144
  a109 := Tryz.isAgg144
  z109 := Tryz.sizeOf144
  v109 := Tryz.zeroValue144
  t127 := Tryz.underlying177
  a127 := Tryz.isAgg177
  z127 := Tryz.sizeOf177
  v127 := Tryz.zeroValue177
  t146 := Tryz.underlying173
  a146 := Tryz.isAgg173
  z146 := Tryz.sizeOf173
  v146 := Tryz.zeroValue173
  t148 := Tryz.underlying175
  a148 := Tryz.isAgg175
  z148 := Tryz.sizeOf175
  v148 := Tryz.zeroValue175
  t164 := Tryz.underlying190
  a164 := Tryz.isAgg190
  z164 := Tryz.sizeOf190
  v164 := Tryz.zeroValue190 }
theorem Tryz.rep_extra : Builder.Extra Tryz.prog Tryz.rep_ren where
  sizeBuilder := by kernel_rfl
  liesBuilder := by kernel_rfl
  t5 := Tryz.rep.t5
  a5 := Tryz.rep.a5
  z5 := Tryz.rep.z5
  v5 := Tryz.rep.v5
  infoByte := by kernel_rfl
  cellsByte := by kernel_rfl
  sizeByte := by kernel_rfl
  neB5 := by decide
variable {h : Hp} {K : Value → Hp → Prop} {pb jb db n : Nat} {S : Nat → Prop} {D : Dk} {P : Pg} {tb k : Nat}
theorem callsH_below {P : Program} {f : FuncId} {args : Array Value} {v : Value} (H : ∀ w, Calls P f args w fun e w' => e = .returned v ∧ Below w.heap.size w w') (hK : K v h) : CallsH P f args h K := fun w hw =>
  Calls.mono (H w) fun e w' ⟨he, b⟩ => by
    have hb : ∀ k o, w.heap[k]? = some o → w'.heap[k]? = some o := fun k o ho => by
      obtain ⟨hlt, _⟩ := Array.getElem?_eq_some_iff.1 ho
      rw [← ho]
      exact b.block k hlt
    exact ⟨v, h, he, hK, fun k o ho => hb k o (hw k o ho), ⟨b.os, b.tape, b.output, b.size, fun k o ho hn => ⟨hb k o ho, hn⟩⟩⟩
def top64 : ByteArray := ⟨(List.replicate 64 255).toArray⟩
theorem repeat_spec (hK : K (.string top64) h) : CallsH Tryz.prog strings_Repeat.id #[.string (bytesL [255]), .int .i64 64] h K := by
  refine callsH_below (fun w => ?_) hK
  have H := Any.strings_Repeat Tryz.rep Tryz.rep_extra (bytesL [255]) 64 w (by decide) (by decide)
  have e : (⟨(Lib.repeatL (bytesL [255]).data.toList 64).toArray⟩ : ByteArray) = top64 := rfl
  rw [e] at H
  exact H
end Go.Proofs.YthbogjbcecmopaaGreatDoor
