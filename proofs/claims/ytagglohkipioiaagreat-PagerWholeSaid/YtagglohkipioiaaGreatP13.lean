/- A map's copy, and its keys in order, over heaps. Conditions: the map's pages are few. When two heads are one; which pages are others. Conditions: numbers that fit. -/
import Derived.Test.YtagglohkipioiaaGreatP9
namespace Go.Proofs.YtagglohkipioiaaGreat
open Go.Gx Go.Proofs Go.RowKit Go.Maps Go.Sort Go.Shelf
set_option maxRecDepth 100000
set_option linter.unusedVariables false

theorem holds_alloc {h : Hp} {W : World} (hW : Holds h W) : h W.heap.size = none := by
  cases hh : h W.heap.size with
  | none => rfl
  | some o => have := (Array.getElem?_eq_some_iff.1 (hW _ o hh)).1; omega
theorem clone_spec {h : Hp} {K : Value → Hp → Prop} {b : Nat} {L : List Ch} (H : DAt h b L) (hK : ∀ k o, h k = none → DAt (h.upd k o) k L → K (.map (some k)) (h.upd k o)) :
    CallsH Tryz.prog 46 #[.map (some b)] h K := by
  obtain ⟨o, hb, M⟩ := H
  intro W hW
  have hn := holds_alloc hW
  have M' := M
  obtain ⟨es, clock, rfl, hm2, hst, hok⟩ := M
  refine (AnyW.maps_Clone Tryz.clone67 b es clock W (hW b _ hb)).mono fun e w' ⟨he, hw⟩ => ?_
  subst hw
  refine ⟨_, h.upd W.heap.size (.map es clock), he, hK _ _ hn ⟨_, Hp.upd_same _ _ _, M'⟩, fun c o hc => ?_, ?_⟩
  · by_cases e : c = W.heap.size
    · rw [e, Hp.upd_same] at hc; cases hc; rw [e]; exact (MapKept.heap_alloc W _).1
    · rw [Hp.upd_ne _ _ e] at hc
      have := hW c o hc
      have hlt := (Array.getElem?_eq_some_iff.1 this).1
      exact (Go.RowKit.Below.heap_alloc _ _ c hlt).trans this
  · refine ⟨rfl, rfl, rfl, by show W.heap.size ≤ (W.heap.push _).size; rw [Array.size_push]; omega, fun c o hc hc2 => ?_⟩
    have hlt := (Array.getElem?_eq_some_iff.1 hc).1
    exact ⟨(Go.RowKit.Below.heap_alloc _ _ c hlt).trans hc, by rw [Hp.upd_ne _ _ (by omega)]; exact hc2⟩
/-! ### the keys in order -/
theorem mkeys_spec {h : Hp} {K : Value → Hp → Prop} {b : Nat} (hK : ∀ k, h k = none → K (.func (.func 71) #[] #[.pointer (some ⟨k, 0, none⟩)]) (h.upd k (.cells #[.map (some b)] 84 (0, 0)))) : CallsH Tryz.prog 45 #[.map (some b)] h K := by
  intro W hW
  have hn := holds_alloc hW
  refine (callsIn_wide.1 (AnyZI.keys_in Tryz.keys69 Fence.wide 5 trivial rfl (some b) W)).mono fun e w' ⟨he, hw⟩ => ?_
  subst hw
  refine ⟨_, h.upd W.heap.size (.cells #[.map (some b)] 84 (0, 0)), he, hK _ hn, fun c o hc => ?_, rfl, rfl, rfl, by show W.heap.size ≤ (W.heap.push _).size; rw [Array.size_push]; omega, fun c o hc hc2 => ?_⟩
  · by_cases e : c = W.heap.size
    · rw [e, Hp.upd_same] at hc; cases hc; rw [e]; exact (MapKept.heap_alloc W _).1
    · rw [Hp.upd_ne _ _ e] at hc
      have := hW c o hc
      have hlt := (Array.getElem?_eq_some_iff.1 this).1
      exact (Go.RowKit.Below.heap_alloc _ _ c hlt).trans this
  · have hlt := (Array.getElem?_eq_some_iff.1 hc).1
    exact ⟨(Go.RowKit.Below.heap_alloc _ _ c hlt).trans hc, by rw [Hp.upd_ne _ _ (by omega)]; exact hc2⟩
def keyC (i : Nat) : List Value := [.int .i64 (i : Nat)]
theorem keyC_len (i : Nat) : (keyC i).length = 1 := rfl
theorem keyC_plain (i : Nat) : plainP (keyC i) := plainP_of rfl
theorem sorts68 (m : Nat) : AnyZI.SortsIn Tryz.prog Tryz.sorted68_ren Fence.wide m :=
  ⟨fun blk off cap ss W hH hblk hsz => callsIn_wide.2 (AnyM.slices_Sort_int Tryz.sort94 blk off cap ss W hH hblk hsz),
   fun p cap W => callsIn_wide.2 (AnyM.slices_Sort_int_none Tryz.sort94 p cap W)⟩
theorem sortedAt {H : Type} {R : Value → Option (DataW H × List MemPlace)} (k b nn : Nat) (D0 : DataW H) (W : World) (hlt : k < W.heap.size) (hk : W.cell? ⟨k, 0, none⟩ = some (.map (some b))) (hown : W.ownsMap Tryz.prog 3 R b nn D0) (hmax : Maps.size D0 ≤ maxLen) (hbytes : Maps.size D0 * 8 ≤ 140737488355328) :
    CallsIn Fence.wide 5 Tryz.prog 44 #[.func (.func 71) #[] #[.pointer (some ⟨k, 0, none⟩)]] W fun e w' => ∃ (v : Value) (ss : List Int), e = .returned v ∧ ss.Perm (intKeys D0) ∧
      w'.ownsRow W.heap.size 3 1 v ss.length ((ss.mergeSort (fun x y => decide (x ≤ y))).map encZ) ∧ (v = .slice none 0 0 ↔ ss = []) ∧ Go.RowKit.Below W.heap.size W w' := by
  have hseq : SeqGives Fence.wide 2 Tryz.prog 71 #[.pointer (some ⟨k, 0, none⟩)] encZ (fun ss => ss.Perm (intKeys D0)) (Maps.size D0) W :=
    AnyZI.keys_gives (ρ := Tryz.keys69_ren) { Tryz.keys69 with } Fence.wide _ trivial rfl (by omega) k b nn D0 W hlt hk hown
  exact AnyZI.sorted_in Tryz.sorted68 Fence.wide 5 trivial trivial trivial trivial rfl (by omega) (sorts68 _) (enters_of Tryz.func70 (by kernel_rfl) rfl) 71 #[.pointer (some ⟨k, 0, none⟩)] trivial (enters_of Tryz.func71 (by kernel_rfl) rfl) _ _ hmax hbytes _ hseq
theorem sortedk_spec {h : Hp} {K : Value → Hp → Prop} {k b n : Nat} {L : List Ch} (hk : h.cell k 0 = some (.map (some b))) (H : DAt h b L) (ok : DOk n L) (hn : n ≤ 128)
    (hK : ∀ h' a c rs, rs.Perm (L.map (·.1)) → rs.Pairwise (fun x y => x ≤ y) → NewR keyC 1 3 h h' a c rs → K (.slice a rs.length c) h') :
    CallsH Tryz.prog 44 #[.func (.func 71) #[] #[.pointer (some ⟨k, 0, none⟩)]] h K := by
  intro W hW
  obtain ⟨o, hb, M⟩ := H
  obtain ⟨es, clock, rfl, hm2, hst, hok⟩ := M
  have hbW := hW b _ hb
  have hkeys : es.toList.map (·.key) = (L.map (·.1)).map fun i : Nat => Value.int .i64 (i : Nat) := by
    have e1 : es.toList.map (·.key) = (mapD L).map (·.1) := by rw [← hm2, List.map_map]; rfl
    rw [e1]
    unfold mapD
    rw [List.map_map, List.map_map]; rfl
  have hesl : es.size = L.length := by
    have := congrArg List.length hkeys
    simpa using this
  have hlen : L.length ≤ 128 := Nat.le_trans ok.len hn
  have hu : Tryz.prog.underlying 3 = some (.int .i64) := Tryz.underlying3
  have rdk : ∀ x ∈ es.toList, ∃ i : Nat, i < n ∧ x.key = .int .i64 (i : Nat) ∧ WideElems.rd (H := Unit) Tryz.prog 3 (fun _ => some (.nil, [])) x = some (.int .i64 (i : Nat), .nil) := by
    intro x hx
    have : x.key ∈ (L.map (·.1)).map fun i : Nat => Value.int .i64 (i : Nat) := by rw [← hkeys]; exact List.mem_map.2 ⟨x, hx, rfl⟩
    obtain ⟨i, hi, e⟩ := List.mem_map.1 this
    obtain ⟨c, hc, rfl⟩ := List.mem_map.1 hi
    have hin := (ok.mem c hc).1
    refine ⟨c.1, hin, e.symm, ?_⟩
    unfold WideElems.rd
    have hw : (Lit.int .i64 ((c.1 : Nat) : Int)).wf = true := by
      show (decide (IntKind.i64.min ≤ ((c.1 : Nat) : Int)) && decide (((c.1 : Nat) : Int) ≤ IntKind.i64.max)) = true
      have e3 : IntKind.i64.min = -9223372036854775808 := by decide
      have e4 : IntKind.i64.max = 9223372036854775807 := by decide
      rw [decide_eq_true (by omega), decide_eq_true (by omega)]; rfl
    rw [← e, keyOf_int_mk hu hw]; rfl
  have hown : W.ownsMap Tryz.prog 3 (fun _ => some ((.nil : DataW Unit), [])) b es.size (.map ((es.toList.map (WideElems.rg Tryz.prog 3 (fun _ => some (.nil, [])))).foldr DataW.insert [])) :=
    ⟨es, clock, hbW, ⟨by have : (128 : Nat) ≤ maxLen := by decide
                         omega, hst, fun x hx => by obtain ⟨i, _, _, e⟩ := rdk x hx; exact ⟨_, e⟩⟩, Nat.le_refl _, rfl⟩
  have hsk : (intKeys (H := Unit) (.map ((es.toList.map (WideElems.rg Tryz.prog 3 (fun _ => some (.nil, [])))).foldr DataW.insert []))).Perm ((L.map (·.1)).map fun i : Nat => ((i : Nat) : Int)) := by
    refine ((WideShapes.sorted_perm _).map _).trans ?_
    rw [List.map_map]
    have : es.toList.map ((fun p => Go.intOf p.1) ∘ WideElems.rg (H := Unit) Tryz.prog 3 (fun _ => some (.nil, []))) = (L.map (·.1)).map fun i : Nat => ((i : Nat) : Int) := by
      have h2 : es.toList.map ((fun p => Go.intOf p.1) ∘ WideElems.rg (H := Unit) Tryz.prog 3 (fun _ => some (.nil, []))) = (es.toList.map (·.key)).map fun v => match v with
          | .int _ s => s
          | _ => 0 := by
        rw [List.map_map]
        refine List.map_congr_left fun x hx => ?_
        obtain ⟨i, _, e1, e2⟩ := rdk x hx
        show Go.intOf (WideElems.rg Tryz.prog 3 (fun _ => some (.nil, [])) x).1 = _
        unfold WideElems.rg
        rw [e2]
        show ((i : Nat) : Int) = _
        simp only [Function.comp, e1]
      rw [h2, hkeys, List.map_map]; rfl
    rw [this]
  have hlt : k < W.heap.size := by
    unfold Hp.cell at hk
    cases hkk : h k with
    | none => rw [hkk] at hk; cases hk
    | some ob => exact (Array.getElem?_eq_some_iff.1 (hW k ob hkk)).1
  have hcell : W.cell? ⟨k, 0, none⟩ = some (.map (some b)) := by
    unfold Hp.cell at hk
    cases hkk : h k with
    | none => rw [hkk] at hk; cases hk
    | some ob =>
      rw [hkk] at hk
      cases ob with
      | cells c t f =>
        simp only [] at hk
        unfold World.cell?
        simp [hW k _ hkk, hk]
      | _ => cases hk
  have hsize : Maps.size (H := Unit) (.map ((es.toList.map (WideElems.rg Tryz.prog 3 (fun _ => some (.nil, [])))).foldr DataW.insert [])) = L.length := by
    rw [Maps.size_eq, (WideShapes.sorted_perm _).length_eq, List.length_map, Array.length_toList, hesl]
  have hmx : (128 : Nat) * 8 ≤ maxLen := by decide
  refine (callsIn_wide.1 (sortedAt k b _ _ W hlt hcell hown (by rw [hsize]; omega) (by rw [hsize]; omega))).mono fun e w' ⟨v, ss, he, hp, hrow, hnil, bel⟩ => ?_
  have hp' := hp.trans hsk
  have hlen' : ss.length = L.length := by rw [hp'.length_eq, List.length_map, List.length_map]
  have hid : ∀ l : List Nat, (l.map fun i : Nat => ((i : Nat) : Int)).map Int.toNat = l := fun l => by
    rw [List.map_map]
    have : (Int.toNat ∘ fun i : Nat => ((i : Nat) : Int)) = id := funext fun i => by show Int.toNat ((i : Nat) : Int) = i; exact Int.toNat_natCast i
    rw [this, List.map_id]
  have hperm : ((ss.mergeSort (fun x y => decide (x ≤ y))).map Int.toNat).Perm (L.map (·.1)) := by
    have h1 := ((List.mergeSort_perm ss (fun x y => decide (x ≤ y))).trans hp').map Int.toNat
    rw [hid] at h1; exact h1
  have hpos : ∀ x ∈ ss.mergeSort (fun x y => decide (x ≤ y)), 0 ≤ x := fun x hx => by
    have h1 := ((List.mergeSort_perm ss (fun x y => decide (x ≤ y))).trans hp').mem_iff.1 hx
    obtain ⟨i, _, rfl⟩ := List.mem_map.1 h1
    omega
  have hpw : (ss.mergeSort (fun x y => decide (x ≤ y))).Pairwise (fun x y => x ≤ y) := by
    have := List.pairwise_mergeSort (le := fun (x y : Int) => decide (x ≤ y)) (fun a b c h1 h2 => decide_eq_true (Int.le_trans (of_decide_eq_true h1) (of_decide_eq_true h2)))
      (fun a b => by rcases Int.le_total a b with h | h <;> simp [h]) ss
    exact this.imp fun h => of_decide_eq_true h
  have hpw2 : ((ss.mergeSort (fun x y => decide (x ≤ y))).map Int.toNat).Pairwise (fun x y => x ≤ y) := by
    rw [List.pairwise_map]
    exact hpw.imp fun h => by omega
  have hxs : (ss.mergeSort (fun x y => decide (x ≤ y))).map encZ = rowC keyC ((ss.mergeSort (fun x y => decide (x ≤ y))).map Int.toNat) := by
    unfold rowC keyC
    rw [List.flatMap_map]
    generalize ss.mergeSort (fun x y => decide (x ≤ y)) = l at hpos
    induction l with
    | nil => rfl
    | cons x l ih =>
      rw [List.map_cons, List.flatMap_cons, ih fun y hy => hpos y (List.mem_cons_of_mem _ hy)]
      have := hpos x List.mem_cons_self
      show Value.int .i64 x :: _ = [Value.int .i64 ((x.toNat : Nat) : Int)] ++ _
      rw [show ((x.toNat : Nat) : Int) = x by omega]; rfl
  have hml : (ss.mergeSort (fun x y => decide (x ≤ y))).length = ss.length := (List.mergeSort_perm ss _).length_eq
  have hhn : ∀ c, W.heap.size ≤ c → h c = none := fun c hc => by
    cases hh : h c with
    | none => rfl
    | some o => have := (Array.getElem?_eq_some_iff.1 (hW c o hh)).1; omega
  have hWk : ∀ b o, W.heap[b]? = some o → w'.heap[b]? = some o := fun b o e => (bel.block b (Array.getElem?_eq_some_iff.1 e).1).trans e
  obtain ⟨_, ⟨e1, e2⟩ | ⟨g, cap, cur, e1, hg, hcur, hnc, hcm, hcs, htk⟩⟩ := hrow
  · have hss : ss = [] := List.eq_nil_of_length_eq_zero e2
    refine ⟨v, h, he, ?_, fun c o hc => hWk c o (hW c o hc), ⟨bel.os, bel.tape, bel.output, bel.size, fun c o e e' => ⟨hWk c o e, e'⟩⟩⟩
    have := hK h none 0 _ hperm hpw2 (by rw [hss, List.mergeSort_nil]; exact NewR.nil _ _)
    rw [List.length_map, hml, e2] at this
    rw [e1]; exact this
  · have hgn := hhn g hg
    refine ⟨v, h.upd g (.cells cur 3 (0, 0)), he, ?_, fun c o hc => ?_, ⟨bel.os, bel.tape, bel.output, bel.size, fun c o e e' => ⟨hWk c o e, ?_⟩⟩⟩
    · have := hK (h.upd g (.cells cur 3 (0, 0))) (some ⟨g, 0, none⟩) cap _ hperm hpw2 ⟨Sub.upd hgn _, (by rintro b ⟨o, s, e⟩; cases e; exact hgn), by
        refine ⟨by rw [← hxs]; simp [hml], by rw [List.length_map, hml]; exact hnc, .inr ⟨g, cur.toList.drop (ss.length * 1), rfl, ?_, ?_⟩⟩
        · unfold Blk
          rw [Hp.upd_same, ← hxs, ← htk, List.take_append_drop]
        · rw [List.length_drop, List.length_map, hml, Array.length_toList, hcs, Nat.mul_one, Nat.mul_one, Nat.mul_one]⟩
      rw [List.length_map, hml] at this
      rw [e1]; exact this
    · by_cases hcg : c = g
      · subst hcg; rw [Hp.upd_same] at hc; cases hc; exact hcur
      · rw [Hp.upd_ne _ _ hcg] at hc; exact hWk c o (hW c o hc)
    · by_cases hcg : c = g
      · subst hcg; have := (Array.getElem?_eq_some_iff.1 e).1; omega
      · rw [Hp.upd_ne _ _ hcg]; exact e'
end Go.Proofs.YtagglohkipioiaaGreat
namespace Go.Proofs.YtagglohkipioiaaGreat
open Go.Gx
set_option maxRecDepth 100000
set_option linter.unusedVariables false

theorem mapM_some {α β : Type} {f : α → Option β} {g : α → β} : ∀ {l : List α}, (∀ x ∈ l, f x = some (g x)) → l.mapM f = some (l.map g)
  | [], _ => rfl
  | x :: l, h => by
    rw [List.mapM_cons, h x List.mem_cons_self, mapM_some fun y hy => h y (List.mem_cons_of_mem _ hy)]; rfl
def headL (s : Nat) (r : Nat → Nat) (u : Nat → Bool) : List Lit := .int .u64 (s : Nat) :: ((List.range 4).map (fun k => Lit.int .i64 (r k : Nat)) ++ (List.range 128).map fun i => Lit.bool (u i))
def litC : Lit → Value
  | .int q n => .int q n
  | .bool b => .bool b
  | _ => undef
theorem headL_C (s : Nat) (r : Nat → Nat) (u : Nat → Bool) : (headL s r u).map litC = headC s r u := by
  unfold headL headC rootV usedV
  rw [List.map_cons, List.map_append, List.map_map, List.map_map]; rfl
theorem rowLits {d e n : Nat} {t : TypeId} {cs : List Value} {g : Nat → Lit} (hu : Tryz.prog.underlying t = some (.array n e)) (hl : cs.length = n) (hc : Tryz.prog.cellsOf t = n) (he : Tryz.prog.cellsOf e = 1)
    (hg : ∀ i, i < n → Tryz.prog.keyLits d e ((cs.drop i).take 1) = some [g i]) : Tryz.prog.keyLits (d + 1) t cs = some ((List.range n).map g) := by
  have h1 : (List.range n).mapM (fun i => Tryz.prog.keyLits d e ((cs.drop (i * Tryz.prog.cellsOf e)).take (Tryz.prog.cellsOf e))) = some ((List.range n).map fun i => [g i]) :=
    mapM_some fun i hi => by rw [he, Nat.mul_one]; exact hg i (List.mem_range.1 hi)
  unfold Program.keyLits
  rw [hu]
  simp only [hl, hc, if_true]
  rw [h1]
  show some _ = some _
  congr 1
  induction List.range n with
  | nil => rfl
  | cons x l ih => rw [List.map_cons, List.flatten_cons, ih]; rfl
theorem drop_take_one {cs : List Value} {i : Nat} {v : Value} (h : cs[i]? = some v) : (cs.drop i).take 1 = [v] := by
  rw [List.drop_eq_getElem_cons (List.getElem?_eq_some_iff.1 h).1, (List.getElem?_eq_some_iff.1 h).2]; rfl
theorem head_lits (s : Nat) (r : Nat → Nat) (u : Nat → Bool) (hs : s < 18446744073709551616) (hr : ∀ k, k < 4 → r k < 9223372036854775808) : LitsAre Tryz.prog 83 (headC s r u) (headL s r u) := by
  refine ⟨by rw [headC_len]; kernel_rfl, 3, ?_⟩
  have w64 : (Lit.int .u64 ((s : Nat) : Int)).wf = true := by
    show (decide (IntKind.u64.min ≤ ((s : Nat) : Int)) && decide (((s : Nat) : Int) ≤ IntKind.u64.max)) = true
    have e3 : IntKind.u64.min = 0 := by decide
    have e4 : IntKind.u64.max = 18446744073709551615 := by decide
    rw [decide_eq_true (by omega), decide_eq_true (by omega)]; rfl
  have wr : ∀ k, k < 4 → (Lit.int .i64 ((r k : Nat) : Int)).wf = true := fun k hk => by
    have := hr k hk
    show (decide (IntKind.i64.min ≤ ((r k : Nat) : Int)) && decide (((r k : Nat) : Int) ≤ IntKind.i64.max)) = true
    have e3 : IntKind.i64.min = -9223372036854775808 := by decide
    have e4 : IntKind.i64.max = 9223372036854775807 := by decide
    rw [decide_eq_true (by omega), decide_eq_true (by omega)]; rfl
  have g1 : Tryz.prog.keyLits 2 34 [.int .u64 (s : Nat)] = some [.int .u64 (s : Nat)] := by
    unfold Program.keyLits
    rw [Tryz.underlying34]
    simp only [w64, and_self, if_true]
  have g2 : Tryz.prog.keyLits 2 33 (rootV r) = some ((List.range 4).map fun k => Lit.int .i64 (r k : Nat)) :=
    rowLits (d := 1) (e := 3) Tryz.underlying33 (rootV_len r) (by kernel_rfl) (by kernel_rfl) fun i hi => by
      rw [drop_take_one (rootV_get hi)]
      unfold Program.keyLits
      rw [Tryz.underlying3]
      simp only [wr i hi, and_self, if_true]
  have g3 : Tryz.prog.keyLits 2 81 (usedV u) = some ((List.range 128).map fun i => Lit.bool (u i)) :=
    rowLits (d := 1) (e := 4) Tryz.underlying81 (usedV_len u) (by kernel_rfl) (by kernel_rfl) fun i hi => by
      rw [drop_take_one (usedV_get hi)]
      unfold Program.keyLits
      rw [Tryz.underlying4]
  have c1 : Tryz.prog.cellsOf 34 = 1 := by kernel_rfl
  have c2 : Tryz.prog.cellsOf 33 = 4 := by kernel_rfl
  have c3 : Tryz.prog.cellsOf 81 = 128 := by kernel_rfl
  have c0 : Tryz.prog.cellsOf 83 = 133 := by kernel_rfl
  have d1 : ((headC s r u).drop 0).take 1 = [.int .u64 (s : Nat)] := rfl
  have d2 : ((headC s r u).drop 1).take 4 = rootV r := by
    show (rootV r ++ usedV u).take 4 = _
    rw [List.take_append_of_le_length (by rw [rootV_len]; exact Nat.le_refl _), List.take_of_length_le (by rw [rootV_len]; exact Nat.le_refl _)]
  have d3 : ((headC s r u).drop 5).take 128 = usedV u := by
    show ((rootV r ++ usedV u).drop 4).take 128 = _
    rw [List.drop_append_of_le_length (by rw [rootV_len]; exact Nat.le_refl _), List.drop_of_length_le (by rw [rootV_len]; exact Nat.le_refl _), List.nil_append, List.take_of_length_le (by rw [usedV_len]; exact Nat.le_refl _)]
  unfold Program.keyLits
  rw [Tryz.underlying83]
  simp only [headC_len, c0, true_and]
  rw [if_pos (by kernel_rfl)]
  simp only [List.mapM_cons, List.mapM_nil, c1, c2, c3, d1, d2, d3, g1, g2, g3]
  rfl
def Hd.lits (H : Hd) : List Lit := headL H.s H.r H.u
theorem HdOk.lits {n : Nat} {H : Hd} (O : HdOk n H) : LitsAre Tryz.prog 83 H.c H.lits := head_lits _ _ _ (by have := O.ser; omega) fun k hk => by have := (O.roots k hk).1; omega
def Hd.same (A B : Hd) : Bool := Nat.beq A.s B.s && ((List.range 4).all (fun k => Nat.beq (A.r k) (B.r k)) && (List.range 128).all fun i => A.u i == B.u i)
theorem Hd.same_eq {A B : Hd} : A.same B = true ↔ A.s = B.s ∧ (∀ k, k < 4 → A.r k = B.r k) ∧ ∀ i, i < 128 → A.u i = B.u i := by
  unfold Hd.same
  rw [Bool.and_eq_true, Bool.and_eq_true, List.all_eq_true, List.all_eq_true]
  constructor
  · rintro ⟨h1, h2, h3⟩
    exact ⟨Nat.eq_of_beq_eq_true h1, fun k hk => Nat.eq_of_beq_eq_true (h2 k (List.mem_range.2 hk)), fun i hi => by simpa using h3 i (List.mem_range.2 hi)⟩
  · rintro ⟨h1, h2, h3⟩
    exact ⟨by rw [h1]; exact Nat.beq_refl _, fun k hk => by rw [h2 k (List.mem_range.1 hk)]; exact Nat.beq_refl _, fun i hi => by rw [h3 i (List.mem_range.1 hi)]; simp⟩
theorem Hd.same_lits {A B : Hd} : A.same B = true ↔ A.lits = B.lits := by
  rw [Hd.same_eq]
  unfold Hd.lits headL
  constructor
  · rintro ⟨h1, h2, h3⟩
    rw [h1, List.map_congr_left fun k hk => by rw [h2 k (List.mem_range.1 hk)], List.map_congr_left (l := List.range 128) fun i hi => by rw [h3 i (List.mem_range.1 hi)]]
  · intro h
    rw [List.cons.injEq] at h
    obtain ⟨h1, h2⟩ := h
    obtain ⟨h2, h3⟩ := List.append_inj h2 (by rw [List.length_map, List.length_map])
    rw [List.map_inj_left] at h2 h3
    refine ⟨?_, fun k hk => ?_, fun i hi => ?_⟩
    · cases A; cases B; simp at h1 ⊢; omega
    · have := h2 k (List.mem_range.2 hk); simp at this; omega
    · have := h3 i (List.mem_range.2 hi); simpa using this
theorem Hd.leq {A B : Hd} : leqL A.lits B.lits = A.same B := by
  unfold leqL
  rw [hb_eq]
  cases h : A.same B with
  | true => exact @decide_eq_true _ (Classical.propDecidable _) (Hd.same_lits.1 h)
  | false => exact @decide_eq_false _ (Classical.propDecidable _) fun e => by rw [Hd.same_lits.2 e] at h; cases h
theorem Hd.same_c {A B : Hd} (h : A.same B = true) : A.c = B.c := by
  have := congrArg (List.map litC) (Hd.same_lits.1 h)
  unfold Hd.lits at this
  rw [headL_C, headL_C] at this; exact this
/-! ### which pages are others -/
def Pg.diff (P : Pg) (D : Dk) (n i : Nat) : Bool := match dget P.d i with
  | some s => !decide (D.own n i = s)
  | none => false
def Pg.chg (P : Pg) (D : Dk) (n : Nat) : List Nat := (if P.now.same P.good then [] else [0]) ++ (List.range n).filter (P.diff D n)
/-- Sorted keys, once each, are the pages in order that have one. -/
theorem keys_eq {n : Nat} {L : List Ch} (ok : DOk n L) {rs : List Nat} (hp : rs.Perm (L.map (·.1))) (hs : rs.Pairwise (fun x y => x ≤ y)) : rs = (List.range n).filter fun i => (dget L i).isSome := by
  have hnd : rs.Nodup := hp.nodup_iff.2 ok.nd
  have h1 : ((List.range n).filter fun i => (dget L i).isSome).Pairwise (fun x y => x ≤ y) := (List.pairwise_lt_range.imp fun h => Nat.le_of_lt h).sublist List.filter_sublist
  refine List.Perm.eq_of_pairwise (le := fun x y => x ≤ y) (fun a b _ _ h1 h2 => Nat.le_antisymm h1 h2) hs h1 ?_
  refine (List.perm_ext_iff_of_nodup hnd (List.nodup_range.sublist List.filter_sublist)).2 fun a => ?_
  rw [hp.mem_iff, List.mem_filter, List.mem_range]
  constructor
  · intro h
    obtain ⟨e, he, rfl⟩ := List.mem_map.1 h
    exact ⟨(ok.mem e he).1, by rw [mem_dget ok.nd (i := e.1) (s := e.2) he]; rfl⟩
  · rintro ⟨_, h⟩
    obtain ⟨s, hs⟩ := Option.isSome_iff_exists.1 h
    exact List.mem_map.2 ⟨_, dget_mem hs, rfl⟩
theorem diff_some {P : Pg} {D : Dk} {n i : Nat} (h : P.diff D n i = true) : ∃ s, dget P.d i = some s ∧ D.own n i ≠ s := by
  unfold Pg.diff at h
  cases e : dget P.d i with
  | none => rw [e] at h; cases h
  | some s => rw [e] at h; exact ⟨s, rfl, by simpa using h⟩
theorem filter_keys {P : Pg} {D : Dk} {n : Nat} : ((List.range n).filter fun i => (dget P.d i).isSome).filter (P.diff D n) = (List.range n).filter (P.diff D n) := by
  rw [List.filter_filter]
  refine List.filter_congr fun i _ => ?_
  cases h : P.diff D n i with
  | false => rfl
  | true => obtain ⟨s, hs, _⟩ := diff_some h; rw [hs]; rfl
end Go.Proofs.YtagglohkipioiaaGreat
