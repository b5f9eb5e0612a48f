/- What the comparison of two changes by their pages gives, in whatever world. Condition: pages below 256. -/
import Derived.Test.YtagglohkipioiaaSh2
import Derived.WalkKit
namespace Go.Proofs
open Go.Shelf Go.RowKit Go.Lib Go.Sort
def Try.encCh (x : Fin 256 × ByteArray) : List Value := [.int .i64 (x.1.val : Nat), .string x.2]
def Try.cfCh (x y : Fin 256 × ByteArray) : Int := ((x.1.val : Nat) : Int) - ((y.1.val : Nat) : Int)
theorem Try.wrapCh (x y : Fin 256 × ByteArray) : IntKind.i64.wrap (((x.1.val : Nat) : Int) - ((y.1.val : Nat) : Int)) = Try.cfCh x y := by
  have h1 := x.1.isLt
  have h2 := y.1.isLt
  unfold Try.cfCh IntKind.wrap
  simp only [IntKind.signed, IntKind.bits, Bool.true_and]
  split <;> simp_all <;> omega
set_option maxHeartbeats 1000000 in
theorem Try.closure56 (x y : Fin 256 × ByteArray) (W : World) : Calls Try.prog 56 #[.agg #[.int .i64 (x.1.val : Nat), .string x.2], .agg #[.int .i64 (y.1.val : Nat), .string y.2]] W fun e w' => e = .returned (.int .i64 (Try.cfCh x y)) ∧ ∃ q os', w' = grow (W.drewN q) os' := by
  have hw := Try.wrapCh x y
  generalize Try.cfCh x y = r at hw ⊢
  go_enter Try.func56, Try.ntmps56
  go_wp2
  go_ret
  exact ⟨rfl, 0, _, by rw [alloc_eq_grow, alloc_eq_grow, grow_grow]; rfl⟩
theorem Try.ltCh (x y : Fin 256 × ByteArray) : ltOf Try.cfCh x y = decide (x.1.val < y.1.val) := by
  unfold ltOf Try.cfCh
  by_cases h : x.1.val < y.1.val
  · rw [decide_eq_true h]; exact decide_eq_true (by omega)
  · rw [decide_eq_false h]; exact decide_eq_false (by omega)
theorem Try.swoCh : SWO (ltOf Try.cfCh) where
  irrefl x := by rw [Try.ltCh]; simp
  trans x y z h1 h2 := by rw [Try.ltCh] at *; simp at *; omega
  ntrans x y z h1 h2 := by rw [Try.ltCh] at *; simp at *; omega
theorem Try.sort88_at (blk off cap : Nat) (d : Array (Fin 256 × ByteArray)) (w : World) (hH : HoldsK Try.encCh 2 w blk off d) (hblk : blk < w.heap.size) (hsz : d.size < 4611686018427387904) :
    Calls Try.prog 88 #[.slice (some ⟨blk, off, none⟩) d.size cap, .func (.func 56) #[] #[]] w fun e w' => e = .returned (.tuple #[]) ∧ ∃ d' n os, PermIn 0 d.size d d' ∧ SortedIn (ltOf Try.cfCh) 0 d.size d' ∧ w' = sortWorldK Try.encCh 2 w blk off n d' os :=
  AnyQ.slices_SortFunc Try.sort88 2 Try.isAgg41 Try.sizeOf41 Try.encCh (fun _ => rfl) (fun x v hv => by simp [Try.encCh] at hv; rcases hv with rfl | rfl <;> rfl) Try.cfCh Try.swoCh 56 #[] blk off cap d w (enters_of Try.func56 (by kernel_rfl) rfl) (fun _ _ _ _ x y => Try.closure56 x y _) hH hblk hsz
theorem Try.sort88_none (p : Option Addr) (cap : Nat) (w : World) : Calls Try.prog 88 #[.slice p 0 cap, .func (.func 56) #[] #[]] w fun e w' => e = .returned (.tuple #[]) ∧ w' = w :=
  AnyF.slices_SortFunc_none { Try.sort88 with } p cap _ w
end Go.Proofs
