/- Why changes can be committed. Conditions: they are right. -/
import Derived.Test.YtagglohkipioiaaJ4
namespace Go.Proofs.Ytagglohkipioiaa
open Go.Gx
set_option maxRecDepth 100000
set_option linter.unusedVariables false

theorem zero112 : zeroL Try.prog 112 = List.replicate 128 (.bool false) := by kernel_rfl
def seenC (l : List Ch) : List Value := (List.range 128).map fun i => .bool (l.any fun c => c.1 == i)
theorem seenC_len (l : List Ch) : (seenC l).length = 128 := by unfold seenC; simp
theorem seenC_get {l : List Ch} {i : Nat} (hi : i < 128) : (seenC l)[i]? = some (.bool (l.any fun c => c.1 == i)) := by
  unfold seenC
  rw [List.getElem?_map, List.getElem?_range hi]; rfl
theorem seenC_nil : seenC [] = List.replicate 128 (.bool false) := by kernel_rfl
theorem seenC_snoc (l : List Ch) (c : Ch) (hc : c.1 < 128) : setL (seenC l) c.1 [.bool true] = seenC (l ++ [c]) := by
  refine List.ext_getElem? fun i => ?_
  rw [setL_get]
  by_cases hi : i < 128
  · have hr := seenC_get (l := l ++ [c]) hi
    rw [hr, List.any_append]
    by_cases e : i = c.1
    · rw [if_pos ⟨e, by rw [seenC_len]; exact hc⟩, e]; simp
    · rw [if_neg (fun h => e h.1), seenC_get hi]
      have : (c.1 == i) = false := by simpa using Ne.symm e
      simp [this]
  · rw [if_neg (fun h => by omega), List.getElem?_eq_none (by rw [seenC_len]; omega), List.getElem?_eq_none (by rw [seenC_len]; omega)]
variable {h : Hp} {jb db n : Nat} {S : Nat → Prop} {D : Dk} {K : Value → Hp → Prop}
theorem check_ok (J : JAt h jb db S n D) {la : Option Addr} {lc : Nat} {cs : List Ch} (R : RowAt wrC 2 h la cs) (hl : cs.length < 1000000) (hc : ∀ c ∈ cs, c.1 < n ∧ c.2.size = 1024) (hd : (cs.map (·.1)).Nodup)
    (hK : ∀ y, Sub h y → K (.int .i64 0) y) : CallsH Try.prog journal_Journal_check.id #[.pointer (some ⟨jb, 0, none⟩), .slice la cs.length lc] h K := by
  have hn2 := J.n2
  obtain ⟨S0, j1, _⟩ := J.ex
  apply journal_Journal_check.calls
  unfold journal_Journal_check.W
  intro k1 hk1
  rw [zero112]
  have B0 : Blk (h.upd k1 (.cells (List.replicate 128 (.bool false)).toArray 112 (0, 0))) k1 112 (seenC []) := by rw [seenC_nil]; exact Blk.new h k1 112 _
  have hlen : (List.replicate 128 (Value.bool false)).length = 128 := List.length_replicate
  refine ⟨hlen, (fun v hv => by rw [(List.mem_replicate.1 hv).2]; exact ⟨(fun c h => by cases h), (fun c h => by cases h)⟩), B0.store (by rw [hlen, seenC_len]; exact Nat.le_refl _), ?_⟩
  have e0 : (h.upd k1 (.cells (List.replicate 128 (.bool false)).toArray 112 (0, 0))).put k1 0 (List.replicate 128 (.bool false)) = h.upd k1 (.cells (List.replicate 128 (.bool false)).toArray 112 (0, 0)) := by
    have B0' : Blk (h.upd k1 (.cells (List.replicate 128 (.bool false)).toArray 112 (0, 0))) k1 112 (List.replicate 128 (.bool false)) := Blk.new h k1 112 _
    rw [put_get B0']
    have e1 : setL (List.replicate 128 (Value.bool false)) 0 (List.replicate 128 (.bool false)) = List.replicate 128 (.bool false) := by kernel_rfl
    rw [e1]
    funext c
    by_cases e : c = k1
    · rw [e, Hp.upd_same, Hp.upd_same]
    · rw [Hp.upd_ne _ _ e]
  rw [e0]
  have s0 : Sub h (h.upd k1 (.cells (List.replicate 128 (.bool false)).toArray 112 (0, 0))) := Sub.upd hk1 _
  generalize h.upd k1 (.cells (List.replicate 128 (.bool false)).toArray 112 (0, 0)) = h1 at B0 s0
  have get : ∀ {x : Hp} {j : Nat}, Sub h x → j < cs.length → ∃ c b o, cs[j]? = some c ∧ c ∈ cs ∧ la = some ⟨b, o, none⟩ ∧ x.cell b (o + j * 2) = some (.int .i64 (c.1 : Nat)) ∧ x.cell b (o + j * 2 + 1) = some (.string c.2) := by
    intro x j sx hj
    have hq : cs[j]? = some cs[j] := List.getElem?_eq_getElem hj
    obtain ⟨b, o, ea, hcell⟩ := (R.sub sx).get wrC_len (by decide) hq
    exact ⟨_, b, o, hq, List.getElem_mem hj, ea, hcell 0 _ rfl, hcell 1 _ rfl⟩
  refine ⟨fun i x m => ∃ j : Nat, i = (j : Int) ∧ j ≤ cs.length ∧ m = cs.length - j ∧ x = h1, ⟨_, 0, rfl, Nat.zero_le _, rfl, rfl⟩, ?_⟩
  rintro i x m ⟨j, rfl, hj, rfl, rfl⟩
  have e4 : ∀ j : Nat, j < cs.length → IntKind.i64.wrap ((j : Int) + 1) = ((j + 1 : Nat) : Int) := fun j hj => by rw [wid (by omega) (by omega)]; omega
  refine split_dec (fun g => ?_) fun _ => ?_
  · have g : j < cs.length := by have : (j : Int) < (cs.length : Int) := g; omega
    obtain ⟨c, b, o, hq, hm, ea, c0, c1⟩ := get s0 g
    have hcn := (hc c hm).1
    exact ⟨by omega, by show (j : Int) < (cs.length : Int); omega, b, o, ea, _, c0, _, c1, split_dec (fun e => by have e : (c.1 : Int) < 0 := e; omega) fun _ => ⟨_, (j1.sub s0).cell' 1 rfl, split_dec (fun e => by have e : (c.1 : Int) ≥ (n : Int) := e; omega) fun _ => ⟨cs.length - (j + 1), by omega, j + 1, e4 j g, by omega, rfl, rfl⟩⟩⟩
  refine ⟨fun i x m => ∃ j : Nat, i = (j : Int) ∧ j ≤ cs.length ∧ m = cs.length - j ∧ Sub h x ∧ Blk x k1 112 (seenC (cs.take j)), ⟨_, 0, rfl, Nat.zero_le _, rfl, s0, B0⟩, ?_⟩
  rintro i x m ⟨j, rfl, hj, rfl, sx, Bx⟩
  refine split_dec (fun g => ?_) fun _ => ?_
  · have g : j < cs.length := by have : (j : Int) < (cs.length : Int) := g; omega
    obtain ⟨c, b, o, hq, hm, ea, c0, c1⟩ := get sx g
    have hcn := (hc c hm).1
    have hnot : ((cs.take j).any fun d => d.1 == c.1) = false := by
      rw [List.any_eq_false]
      intro d hd' e
      have e : d.1 = c.1 := by simpa using e
      obtain ⟨i, hi⟩ := List.mem_iff_getElem?.1 hd'
      have hij : i < j := by
        have := (List.getElem?_eq_some_iff.1 hi).1
        rw [List.length_take] at this; omega
      rw [List.getElem?_take_of_lt hij] at hi
      have h1 : (cs.map (·.1))[i]? = some d.1 := by rw [List.getElem?_map, hi]; rfl
      have h2 : (cs.map (·.1))[j]? = some d.1 := by rw [List.getElem?_map, hq, e]; rfl
      have := (List.getElem?_inj (by rw [List.length_map]; omega) hd).1 (h1.trans h2.symm)
      omega
    have eidx : 0 + (c.1 : Int).toNat * 1 = c.1 := by rw [Int.toNat_natCast]; omega
    refine ⟨by omega, by show (j : Int) < (cs.length : Int); omega, b, o, ea, _, c0, _, c1, by omega, by omega, false, ?_, by omega, by omega, ?_, cs.length - (j + 1), by omega, j + 1, e4 j g, by omega, rfl, ?_, ?_⟩
    · rw [eidx, Bx.cell, seenC_get (by omega), hnot]
    · rw [eidx]; exact Bx.store (by rw [seenC_len]; omega)
    · exact (Keep.put (fun c => c = k1) x _ _ rfl).sub sx fun c e => by rw [e]; exact hk1
    · rw [eidx]
      have := Bx.put c.1 [.bool true]
      rw [seenC_snoc _ _ (by omega)] at this
      rw [List.take_add_one, hq]; exact this
  refine ⟨fun i y m => ∃ j : Nat, i = (j : Int) ∧ j ≤ cs.length ∧ m = cs.length - j ∧ y = x, ⟨_, 0, rfl, Nat.zero_le _, rfl, rfl⟩, ?_⟩
  rintro i y m ⟨j, rfl, hj, rfl, rfl⟩
  refine split_dec (fun g => ?_) fun _ => hK y sx
  have g : j < cs.length := by have : (j : Int) < (cs.length : Int) := g; omega
  obtain ⟨c, b, o, hq, hm, ea, c0, c1⟩ := get sx g
  have hcn := (hc c hm).2
  exact ⟨by omega, by show (j : Int) < (cs.length : Int); omega, b, o, ea, _, c0, _, c1, split_ne (fun e => absurd (by show (c.2.size : Int) = 1024; omega) e) fun _ => ⟨cs.length - (j + 1), by omega, j + 1, e4 j g, by omega, rfl, rfl⟩⟩
end Go.Proofs.Ytagglohkipioiaa
