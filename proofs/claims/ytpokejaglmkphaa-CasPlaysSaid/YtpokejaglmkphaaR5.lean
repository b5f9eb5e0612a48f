/- The document's own digest of some bytes is package sha's. Condition: fewer than 2^60 bytes. -/
import Derived.Test.YtpokejaglmkphaaR4
import Derived.KernelRfl
namespace Go.Proofs.Ytpokejaglmkphaa
open Go.Gx
set_option maxRecDepth 100000
set_option linter.unusedVariables false
theorem blocks_end (m : List UInt8) : blocksN S0 (m ++ padB m.length) ((m ++ padB m.length).length / 64) = endF m := by
  unfold endF
  have e : (m ++ padB m.length).length / 64 = m.length / 64 + (rsF m ++ padB m.length).length / 64 := by
    rw [List.length_append, List.length_append, rsF_length]; omega
  rw [e, blocksN_add, blocksN_append _ _ _ _ (by omega), List.drop_append_of_le_length (by omega)]
  rfl
theorem word_cellsR (w : BitVec 32) : [Value.int IntKind.u8 (IntKind.u8.wrap (IntKind.u32.wrap ((u32 w).tdiv 16777216))), Value.int IntKind.u8 (IntKind.u8.wrap ((IntKind.u32.wrap ((u32 w).tdiv 65536)).tmod 256)), Value.int IntKind.u8 (IntKind.u8.wrap ((IntKind.u32.wrap ((u32 w).tdiv 256)).tmod 256)), Value.int IntKind.u8 (IntKind.u8.wrap ((u32 w).tmod 256))] = cells8 (word4 w) := by
  have hw := w.isLt
  have t1 : ∀ d : Nat, (u32 w).tdiv (d : Int) = ((w.toNat / d : Nat) : Int) := fun d => tdivN _ d
  have w1 : ∀ q : Nat, q < 4294967296 → IntKind.u32.wrap (q : Int) = (q : Int) := fun q hq => by rw [wrap32]; omega
  have d1 := t1 16777216
  have d2 := t1 65536
  have d3 := t1 256
  have m1 : (u32 w).tmod 256 = ((w.toNat % 256 : Nat) : Int) := tmodN _ 256
  rw [show (u32 w).tdiv 16777216 = ((w.toNat / 16777216 : Nat) : Int) from d1, show (u32 w).tdiv 65536 = ((w.toNat / 65536 : Nat) : Int) from d2, show (u32 w).tdiv 256 = ((w.toNat / 256 : Nat) : Int) from d3, m1]
  rw [w1 _ (by omega), w1 _ (by omega), w1 _ (by omega), show ((w.toNat / 65536 : Nat) : Int).tmod 256 = ((w.toNat / 65536 % 256 : Nat) : Int) from tmodN _ 256, show ((w.toNat / 256 : Nat) : Int).tmod 256 = ((w.toNat / 256 % 256 : Nat) : Int) from tmodN _ 256]
  unfold word4 cells8
  simp only [List.map_cons, List.map_nil, u8_ofNat, wrap8]
  have x1 : ((w.toNat / 16777216 : Nat) : Int) % 256 = ((w.toNat / 16777216 % 256 : Nat) : Int) := by omega
  have x2 : ((w.toNat / 65536 % 256 : Nat) : Int) % 256 = ((w.toNat / 65536 % 256 : Nat) : Int) := by omega
  have x3 : ((w.toNat / 256 % 256 : Nat) : Int) % 256 = ((w.toNat / 256 % 256 : Nat) : Int) := by omega
  have x4 : ((w.toNat % 256 : Nat) : Int) % 256 = ((w.toNat % 256 : Nat) : Int) := by omega
  rw [x1, x2, x3, x4]
def p8 (i : Nat) : List Int := wI ((List.range i).map iv) ++ List.replicate (8 - i) 0
theorem p8_length {i : Nat} (h : i ≤ 8) : (p8 i).length = 8 := by unfold p8; simp [wI_length]; omega
theorem p8_set {i : Nat} (h : i < 8) : (p8 i).set i (u32 (iv i)) = p8 (i + 1) := by
  unfold p8
  have hl : (wI ((List.range i).map iv)).length = i := by simp [wI_length]
  rw [List.set_append_right _ _ (by omega), hl, Nat.sub_self]
  have : 8 - i = (8 - (i + 1)) + 1 := by omega
  rw [this, List.replicate_succ, List.set_cons_zero, List.range_succ]
  simp [wI]
theorem prs_small (i : Nat) : (prs 310).getD i 0 < 4294967296 := by
  rw [List.getD_eq_getElem?_getD]
  cases h : (prs 310)[i]? with
  | none => decide
  | some p =>
    have hm := List.mem_of_getElem? h
    unfold prs at hm
    obtain ⟨q, hq, rfl⟩ := List.mem_map.1 (List.mem_filter.1 hm).1
    have := List.mem_range.1 hq
    show q + 2 < _
    omega
theorem sumR_spec (b : ByteArray) (hn : b.size < 1152921504606846976) {h : Hp} {K : Value → Hp → Prop} (hK : ∀ h', Sub h h' → K (.string (shaF b)) h') : CallsH Try.prog ref02_Sum.id #[.string b] h K := by
  apply ref02_Sum.calls
  unfold ref02_Sum.W
  refine words_spec fun h2 s2 => ⟨wI kW, by rw [wI_length, kW_length], rfl, fun k4 hk4 => ?_⟩
  have hw : (wI kW).length = 64 := by rw [wI_length, kW_length]
  have f4 : h k4 = none := s2.none hk4
  have N4 : Blk (h2.upd k4 (.cells (bigV .u32 (List.replicate 64 0)).toArray 97 (0, 0))) k4 97 (bigV .u32 (List.replicate 64 0)) := Blk.new _ _ _ _
  have P4 : Blk ((h2.upd k4 (.cells (bigV .u32 (List.replicate 64 0)).toArray 97 (0, 0))).put k4 0 (bigV .u32 (wI kW))) k4 97 (bigV .u32 (wI kW)) := by
    have := N4.put 0 (bigV .u32 (wI kW))
    rw [setL_all (by rw [bigV_length, bigV_length, hw]; rfl)] at this
    exact this
  have S4 : Sub h ((h2.upd k4 (.cells (bigV .u32 (List.replicate 64 0)).toArray 97 (0, 0))).put k4 0 (bigV .u32 (wI kW))) := (Keep.put (fun c => c = k4) _ _ _ rfl).sub (s2.trans (Sub.upd hk4 _)) fun c hc => by rw [hc]; exact f4
  refine ⟨by rw [bigV_length]; exact hw, bigV_plain _ _, N4.store (by rw [bigV_length, bigV_length, hw]; decide), fun k5 hk5 => ?_⟩
  generalize hX : (h2.upd k4 (.cells (bigV .u32 (List.replicate 64 0)).toArray 97 (0, 0))).put k4 0 (bigV .u32 (wI kW)) = X at P4 S4 hk5
  have hX' : (h2.upd k4 (.cells (bigV .u32 (List.replicate 64 0)).toArray 97 (0, 0))).put k4 0 (bigV .u32 (wI kW)) = X := hX
  have f5 : h k5 = none := S4.none hk5
  have n54 : k5 ≠ k4 := fun e => by rw [e, P4.get] at hk5; cases hk5
  have N5 : Blk (X.upd k5 (.cells (bigV .u32 (p8 0)).toArray 99 (0, 0))) k5 99 (bigV .u32 (p8 0)) := Blk.new _ _ _ _
  have put5 : ∀ {y : Hp} {us i}, Sub h y → Sub h (y.put k5 i us) := fun s => (Keep.put (fun c => c = k5) _ _ _ rfl).sub s fun c hc => by rw [hc]; exact f5
  refine ⟨fun n y m => ∃ i : Nat, n = (i : Int) ∧ i ≤ 8 ∧ m = 8 - i ∧ Sub h y ∧ Blk y k4 97 (bigV .u32 (wI kW)) ∧ Blk y k5 99 (bigV .u32 (p8 i)), ⟨8, 0, rfl, by omega, rfl, ?_, ?_, ?_⟩, ?_⟩
  · show Sub h (((h2.upd k4 (.cells (bigV .u32 (List.replicate 64 0)).toArray 97 (0, 0))).put k4 0 (bigV .u32 (wI kW))).upd k5 (.cells (bigV .u32 (p8 0)).toArray 99 (0, 0)))
    rw [hX']
    exact S4.trans (Sub.upd hk5 _)
  · show Blk (((h2.upd k4 (.cells (bigV .u32 (List.replicate 64 0)).toArray 97 (0, 0))).put k4 0 (bigV .u32 (wI kW))).upd k5 (.cells (bigV .u32 (p8 0)).toArray 99 (0, 0))) k4 97 _
    rw [hX']
    exact P4.upd hk5 _
  · show Blk (((h2.upd k4 (.cells (bigV .u32 (List.replicate 64 0)).toArray 97 (0, 0))).put k4 0 (bigV .u32 (wI kW))).upd k5 (.cells (bigV .u32 (p8 0)).toArray 99 (0, 0))) k5 99 _
    rw [hX']
    exact N5
  rintro n y m ⟨i, rfl, hi, rfl, sy, b4, b5⟩
  refine split_dec (fun g => ?_) fun g => ?_
  · have g : i < 8 := by omega
    refine primeR_spec i (by omega) ⟨_, rfl, rootR_spec _ (prs_small i) false ⟨_, rfl, by omega, by omega, ?_⟩⟩
    have e1 : 0 + ((i : Nat) : Int).toNat * 1 = i := by omega
    have e2 : ((rootN ((prs 310).getD i 0) false 49 % 4294967296 : Nat) : Int) = u32 (iv i) := by
      unfold u32 iv; rw [BitVec.toNat_ofNat]
    rw [e1, e2]
    refine ⟨b5.store (by rw [bigV_length, p8_length hi]; omega), 8 - (i + 1), by omega, i + 1, by rw [wid (by omega) (by omega)]; omega, by omega, rfl, put5 sy, b4.put_ne _ _ n54.symm, ?_⟩
    have := b5.put i [.int .u32 (u32 (iv i))]
    rw [bigV_set, p8_set g] at this
    exact this
  · have hi : i = 8 := by omega
    subst hi
    have b5 : Blk y k5 99 (bigV .u32 (wI S0.list)) := b5
    refine padR_spec b.size hn fun y2 s2 => ⟨_, rfl, ?_, ?_⟩
    · rw [ofL_size, padB_length]; unfold padZ; omega
    have sy := sy.trans s2
    have b4 := b4.sub s2
    have b5 := b5.sub s2
    have hlen : b.data.toList.length = b.size := by rw [Array.length_toList]; rfl
    generalize hm : b.data.toList = M at hlen
    rw [← hlen]
    generalize hall : M ++ padB M.length = A
    have hA : (b ++ ofL (padB M.length)).data.toList = A := by
      rw [ByteArray.data_append, Array.toList_append, hm, ← hall]
      simp [ofL]
    have hAs : (b ++ ofL (padB M.length)).size = A.length := by
      rw [← hA, Array.length_toList]; rfl
    have hA64 : A.length % 64 = 0 := by rw [← hall, List.length_append]; exact padB_all _
    have hAl : A.length < 1152921504606846976 + 100 := by
      rw [← hall, List.length_append, padB_length]; unfold padZ; omega
    rw [hAs]
    refine ⟨fun n x m => ∃ j : Nat, n = ((64 * j : Nat) : Int) ∧ 64 * j ≤ A.length ∧ m = A.length - 64 * j ∧ Sub h x ∧ Blk x k4 97 (bigV .u32 (wI kW)) ∧ Blk x k5 99 (bigV .u32 (wI (blocksN S0 A j).list)), ⟨_, 0, rfl, by omega, rfl, sy, b4, b5⟩, ?_⟩
    clear b4 b5 sy s2
    rintro n x m ⟨j, rfl, hj, rfl, sx, b4, b5⟩
    refine split_dec (fun g => ?_) fun g => ?_
    · have g : 64 * j < A.length := by
        have : ((64 * j : Nat) : Int) < (A.length : Int) := g
        omega
      have w64 : IntKind.i64.wrap (((64 * j : Nat) : Int) + 64) = ((64 * j + 64 : Nat) : Int) := by rw [wid (by omega) (by omega)]; omega
      rw [w64]
      have c4 : CellsAt x k4 0 (bigV .u32 (wI kW)) := b4.cellsAt (fun i _ => by rw [Nat.zero_add])
      refine ⟨wI kW, hw, c4, _, b5.cell' 0 rfl, _, b5.cell' 1 rfl, _, b5.cell' 2 rfl, _, b5.cell' 3 rfl, _, b5.cell' 4 rfl, _, b5.cell' 5 rfl, _, b5.cell' 6 rfl, _, b5.cell' 7 rfl, by omega, ?_, by omega, ?_, ?_⟩
      · show ((64 * j + 64 : Nat) : Int) ≤ (A.length : Int); omega
      · show ((64 * j : Nat) : Int) ≤ ((((64 * j + 64 : Nat) : Int).toNat : Nat) : Int); omega
      have t1 : ((64 * j : Nat) : Int).toNat = 64 * j := by omega
      have t2 : ((64 * j + 64 : Nat) : Int).toNat = 64 * j + 64 := by omega
      rw [t1, t2]
      have hx : ((b ++ ofL (padB M.length)).extract (64 * j) (64 * j + 64)).data.toList = (A.drop (64 * j)).take 64 := by
        rw [ByteArray.data_extract, Array.toList_extract, hA, List.extract_eq_take_drop]
        congr 1; omega
      refine mixR_spec (s := blocksN S0 A j) kW_length (by rw [hx, List.length_take, List.length_drop]; omega) fun z sz => ⟨_, _, _, _, _, _, _, _, rfl, (b5.sub sz).store (by rw [bigV_length, wI_length, S8.list_len]; decide), A.length - (64 * j + 64), by omega, j + 1, by omega, by omega, rfl, put5 (sx.trans sz), (b4.sub sz).put_ne _ _ n54.symm, ?_⟩
      rw [hx]
      have := (b5.sub sz).put 0 (bigV .u32 (wI (mixF kW (blocksN S0 A j) ((A.drop (64 * j)).take 64)).list))
      rw [setL_all (by rw [bigV_length, bigV_length, wI_length, wI_length, S8.list_len, S8.list_len])] at this
      rw [blocksN]
      exact this
    · have hjA : 64 * j = A.length := by
        have : ¬ ((64 * j : Nat) : Int) < (A.length : Int) := g
        omega
      have hz : blocksN S0 A j = endF M := by
        rw [← blocks_end, hall]
        congr 1; omega
      rw [hz] at b5
      generalize hzz : endF M = z at b5
      refine ⟨fun s n u m => ∃ i : Nat, n = (i : Int) ∧ i ≤ 8 ∧ m = 8 - i ∧ Sub h u ∧ Blk u k5 99 (bigV .u32 (wI z.list)) ∧ s = ofL ((z.list.take i).flatMap word4), ⟨8, 0, rfl, by omega, rfl, sx, b5, rfl⟩, ?_⟩
      rintro s n u m ⟨i, rfl, hi, rfl, su, bu, rfl⟩
      refine split_dec (fun g => ?_) fun g => ?_
      · have g : i < 8 := by omega
        have e1 : 0 + ((i : Nat) : Int).toNat * 1 = i := by omega
        rw [e1]
        have c1 : u.cell k5 i = some (.int .u32 (u32 (z.list.getD i 0))) := by
          refine bu.cell' i ?_
          rw [bigV_get, wI_get, getD_get g]; rfl
        have hfl : ((z.list.take i).flatMap word4).length ≤ 32 := by
          have : ∀ l : List (BitVec 32), (l.flatMap word4).length = 4 * l.length := fun l => by
            induction l with
            | nil => rfl
            | cons w l ih => rw [List.flatMap_cons, List.length_append, ih]; simp [word4]; omega
          rw [this, List.length_take, S8.list_len]; omega
        refine ⟨by omega, by omega, _, c1, by decide, by omega, by omega, _, c1, by decide, by decide, by omega, by omega, _, c1, by decide, by decide, by omega, by omega, _, c1, by decide, fun k hk => ⟨ofL (word4 (z.list.getD i 0)), ?_, ?_, 8 - (i + 1), by omega, i + 1, by rw [wid (by omega) (by omega)]; omega, by omega, rfl, su.trans (Sub.upd hk _), bu.upd hk _, ?_⟩⟩
        · have := (Blk.new u k 5 (cells8 (word4 (z.list.getD i 0)))).slice rfl
          rw [← word_cellsR] at this
          rw [show bytesV (ofL (word4 (z.list.getD i 0))) = cells8 (word4 (z.list.getD i 0)) from rfl, ← word_cellsR]
          exact this
        · rw [ofL_size, ofL_size]
          show _ + 4 ≤ _
          omega
        · rw [ofL_append, List.take_add_one, getD_get g, List.flatMap_append]
          simp
      · have hi : i = 8 := by omega
        subst hi
        have : ofL ((z.list.take 8).flatMap word4) = shaF b := by
          show _ = ofL (dg b.data.toList)
          unfold dg
          rw [hm, hzz]; rfl
        rw [this]
        exact hK u su
end Go.Proofs.Ytpokejaglmkphaa
