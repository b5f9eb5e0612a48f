/- Soundness of the executor, fifth part: conversions, builtins, calls. -/
import Derived.Test.YtagglohkipioiaaGreatGxS4
namespace Go.Gx

theorem SliceAt_cells {h : Hp} {w : World} (hw : Holds h w) {b o n : Nat} {xs : List Value} (hs : xs.length = n) (hc : CellsAt h b o xs) {P : Program} : (loadCells ⟨b, o, none⟩ n).run P w = .ok xs.toArray w :=
  run_loadCells xs (fun j hj => hw.cell (hc j hj)) hs
theorem push_bytes : ∀ (l : List UInt8) (s : ByteArray), (l.map fun b => ((b.toNat : Nat) : Int)).foldl (fun r n => r.push (UInt8.ofNat n.toNat)) s = ⟨s.data ++ l.toArray⟩
  | [], s => by simp
  | b :: l, s => by
    simp only [List.map_cons, List.foldl_cons, Int.toNat_natCast, UInt8.ofNat_toNat]
    rw [push_bytes l]
    apply ByteArray.ext
    simp [ByteArray.push]
theorem bytesV_eq (s : ByteArray) : bytesV s = (s.data.toList.map fun b => ((b.toNat : Nat) : Int)).map (Value.int .u8) := by
  simp [bytesV]
theorem isBytes_some {P : Program} {e : TypeId} (h : isBytesT P e = true) : P.underlying e = some (.int .u8) := by
  unfold isBytesT at h
  split at h
  · rename_i e; exact tdesc_some e (by simp)
  · cases h
theorem grown_bytes (xs : List Value) (x : Value) (k : Nat) : grown xs [] [x] k = (xs ++ List.replicate k x).toArray := by
  unfold grown
  rw [List.append_nil, List.flatten_replicate_singleton]
theorem convW_spec {P : Program} {src dst : TypeId} {x : Value} {h : Hp} {F : Value → Hp → Prop} (H : convW P src dst x h F) (hsrc : okU P src = true)
    {w0 : World} {h0 : Hp} {ρ : Nat → Nat} {st : St} {w : World} (hh : HeapR w0 h0 ρ st h w) : ∃ v w' h', F v h' ∧ (convert src dst x).run P w = .ok v w' ∧ HeapR w0 h0 ρ st h' w' := by
  have hs := okU_some hsrc
  unfold convW at H
  split at H
  · split at H
    · rename_i e
      refine ⟨_, w, h, H, ?_, hh⟩
      simp only [convert, Sem.run_bind, run_under hs, run_under (tdesc_some e (by simp)), Result.andThen_ok]
      cases tdesc P src <;> rfl
    · exact H.elim
  · rename_i s
    split at H
    · rename_i e
      refine ⟨_, w, h, H, ?_, hh⟩
      simp only [convert, Sem.run_bind, run_under hs, run_under (tdesc_some e (by simp)), Result.andThen_ok]
      cases tdesc P src <;> rfl
    · rename_i e' e
      cases hb : isBytesT P e' with
      | false => rw [hb] at H; exact H.elim
      | true =>
        rw [hb] at H; simp only [cond_true] at H
        have hge := grownCap_ge w s.size 0 e'
        have hx := H (grownCap w s.size 0 e') hge w.heap.size (hh.holds.fresh (Nat.le_refl _))
        refine ⟨_, _, _, hx, Lib.run_convert_string_bytes w src dst e' s hs (tdesc_some e (by simp)) (isBytes_some hb), hh.push ?_ rfl rfl rfl⟩
        have hsz : (Lib.bytesCells w e' s).size = grownCap w s.size 0 e' := by
          simp only [Lib.bytesCells, Array.size_append, Array.size_map, Array.size_replicate]
          have : s.data.size = s.size := rfl
          omega
        have hcs : Lib.bytesCells w e' s = (bytesV s ++ List.replicate (grownCap w s.size 0 e' - s.size) (Value.int .u8 0)).toArray := by
          simp only [Lib.bytesCells, bytesV]
          apply Array.ext'
          simp
        apply Array.ext_getElem?
        intro j
        rw [Array.getElem?_push]
        by_cases hj : j = w.heap.size
        · subst hj
          rw [Lib.bytesWorld_at_new, if_pos rfl, hsz, hcs, grown_bytes]
        · rw [if_neg hj]
          rcases Nat.lt_or_ge j w.heap.size with h' | h'
          · exact Lib.bytesWorld_at_old w e' s j h'
          · rw [Array.getElem?_eq_none (by rw [Lib.bytesWorld_size]; omega), Array.getElem?_eq_none h']
    · exact H.elim
  · rename_i a n c
    split at H
    · rename_i e e1 e2
      cases hb : isBytesT P e with
      | false => rw [hb] at H; exact H.elim
      | true =>
        rw [hb] at H; simp only [cond_true] at H
        obtain ⟨s, ⟨hl, hc⟩, H⟩ := H
        refine ⟨_, w, h, H, ?_, hh⟩
        rw [run_convert_bytes_string w src dst e a n c (tdesc_some e1 (by simp)) (isBytes_some hb) (tdesc_some e2 (by simp))]
        have hlen : s.data.toList.length = n := by simpa [bytesV] using hl
        cases a with
        | none =>
          have h0 : n = 0 := by
            rcases hc with hc | ⟨b, o, hc, _⟩
            · exact hc
            · cases hc
          have hs0 : s = ByteArray.empty := by
            apply ByteArray.ext
            apply Array.ext'
            have : s.data.toList = [] := List.length_eq_zero_iff.1 (by omega)
            rw [this]; rfl
          subst hs0
          rfl
        | some ad =>
          have hx : (loadCells ad n).run P w = .ok ((s.data.toList.map fun b => ((b.toNat : Nat) : Int)).map (Value.int .u8)).toArray w := by
            rcases hc with hc | ⟨b, o, hc, hcs⟩
            · subst hc
              have : s.data.toList = [] := List.length_eq_zero_iff.1 hlen
              rw [this]
              rfl
            · cases hc
              rw [← bytesV_eq]
              exact SliceAt_cells hh.holds hl hcs
          rw [run_bytesToString w ad n c _ hx, push_bytes]
          congr 2
          apply ByteArray.ext
          show (#[] : Array UInt8) ++ s.data.toList.toArray = s.data
          simp
    · exact H.elim
  · exact H.elim
end Go.Gx
