/- PagerNils and PagerHeads over any memory that reads as their arguments. Condition: none beyond the reading. -/
import Derived.Test.YtagglohkipioiaaP11
import Derived.Test.YtagglohkipioiaaGB2
import Derived.Test.YtagglohkipioiaaGxM
namespace Go.Proofs.Ytagglohkipioiaa
open Go.Gx
set_option maxRecDepth 100000
set_option linter.unusedVariables false

theorem byte_row {W : World} {a : Option Addr} {l : Nat} (hr : RowOk Try.prog W 5 a l) : ∃ os : List UInt8, os.length = l ∧ RowAt byteC 1 (heapOf W) a os ∧ ∀ o ∈ os, True := by
  have ek : kds Try.prog 5 = [.int .u8] := by kernel_rfl
  have es : Try.prog.cellsOf 5 = 1 := by kernel_rfl
  exact hr.row (f := byteC) (sz := 1) (p := fun _ => True) byteC_len (by decide) es fun cs hk => by
    rw [ek] at hk
    obtain ⟨_, _, rfl, ⟨n, rfl, hw⟩, k1⟩ := hk.cons_eq
    obtain rfl := k1.nil_eq
    have hn : 0 ≤ n ∧ n < 256 := by
      have h2 := (Bool.and_eq_true_iff.1 (show (decide (IntKind.u8.min ≤ n) && decide (n ≤ IntKind.u8.max)) = true from hw))
      have h3 := of_decide_eq_true h2.1
      have h4 := of_decide_eq_true h2.2
      have e3 : IntKind.u8.min = 0 := by decide
      have e4 : IntKind.u8.max = 255 := by decide
      omega
    refine ⟨UInt8.ofNat n.toNat, ?_, trivial⟩
    rw [byteV _ (by omega)]
    congr 2
    omega
theorem heads_all (W : World) (pages : Int) {p1 : Prop} (_ : p1) (a : Option Addr) (l c : Nat) (hr : RowOk Try.prog W 5 a l ∧ l ≤ c ∧ c ≤ maxLen ∧ (a = none → l = 0 ∧ c = 0)) : CallsH Try.prog 4 #[.int .i64 pages, .slice a l c] (heapOf W) fun v h' => v = .bool true ∧ Sub (heapOf W) h' := by
  obtain ⟨os, rfl, ho, _⟩ := byte_row hr.1
  exact heads_core pages os ho

/-! ### texts that are all the same -/
def longOf (x : Int) : Nat := if x = 0 then 1024 else if x < 0 ∨ x > 3000 then 1 else x.toNat
theorem longOf_le (x : Int) : longOf x ≤ 3000 := by
  unfold longOf
  split
  · decide
  · split
    · decide
    · omega
def fillB (x f : Int) : ByteArray := ⟨(List.replicate (longOf x) (UInt8.ofNat f.toNat)).toArray⟩
theorem fillB_size (x f : Int) : (fillB x f).size = longOf x := by rw [← size_len]; exact List.length_replicate
theorem fillB_bytes (x f : Int) (h0 : 0 ≤ f) (h1 : f < 256) : bytesV (fillB x f) = List.replicate (longOf x) (.int .u8 f) := by
  unfold bytesV fillB
  show (List.replicate (longOf x) (UInt8.ofNat f.toNat)).map _ = _
  rw [List.map_replicate]
  have : (UInt8.ofNat f.toNat).toNat = f.toNat := by simp; omega
  rw [this, show ((f.toNat : Nat) : Int) = f by omega]
theorem repV_one (n : Nat) (v : Value) : repV n [v] = List.replicate n v := by
  unfold repV
  induction n with
  | zero => rfl
  | succ n ih => rw [List.replicate_succ, List.flatten_cons, List.replicate_succ, ih]; rfl
theorem filled_spec {h : Hp} {K : Value → Hp → Prop} (a b c x f : Int) (h0 : 0 ≤ f) (h1 : f < 256) (hK : ∀ h', Sub h h' → K (.string (fillB x f)) h') : CallsH Try.prog law14_filled.id #[.agg #[.int .i64 a, .int .i64 b, .int .i64 c, .int .i64 x, .int .u8 f]] h K := by
  have hle := longOf_le x
  apply law14_filled.calls
  unfold law14_filled.W
  refine ⟨fun i y => y = h ∧ i = (if x = 0 then 1024 else x), ?_, split_eq (fun e => ⟨rfl, by rw [if_pos e]⟩) fun e => ⟨rfl, by rw [if_neg e]⟩⟩
  rintro i y ⟨rfl, rfl⟩
  refine ⟨fun i z => z = y ∧ i = ((longOf x : Nat) : Int), ?_, split_dec (fun e => ⟨rfl, ?_⟩) fun e => split_dec (fun e2 => ⟨rfl, ?_⟩) fun e2 => ⟨rfl, ?_⟩⟩
  rotate_left
  · unfold longOf
    by_cases e0 : x = 0
    · rw [if_pos e0] at e; omega
    · rw [if_neg e0] at e; rw [if_neg e0, if_pos (.inl e)]; rfl
  · unfold longOf
    by_cases e0 : x = 0
    · rw [if_pos e0] at e2; omega
    · rw [if_neg e0] at e2; rw [if_neg e0, if_pos (.inr e2)]; rfl
  · unfold longOf
    by_cases e0 : x = 0
    · rw [if_pos e0, if_pos e0]; rfl
    · rw [if_neg e0] at e e2
      rw [if_neg e0, if_neg e0, if_neg (by omega)]; omega
  rintro i z ⟨rfl, rfl⟩
  have hfb := fillB_bytes x f h0 h1
  have hfs := fillB_size x f
  generalize longOf x = n at hle hfb hfs ⊢
  refine ⟨by omega, by omega, by omega, by omega, fun k7 hk7 => ?_⟩
  rw [Int.toNat_natCast]
  have er := repV_one n (.int .u8 0)
  have B0 : Blk (z.upd k7 (.cells (repV n [.int .u8 0]).toArray 5 (0, 0))) k7 5 (List.replicate n (.int .u8 0)) := by rw [← er]; exact Blk.new _ _ _ _
  have s0 : Sub z (z.upd k7 (.cells (repV n [.int .u8 0]).toArray 5 (0, 0))) := Sub.upd hk7 _
  refine ⟨fun i x m => ∃ j : Nat, i = (j : Int) ∧ j ≤ n ∧ m = n - j ∧ Sub z x ∧ Blk x k7 5 (List.replicate j (.int .u8 f) ++ List.replicate (n - j) (.int .u8 0)), ⟨_, 0, rfl, Nat.zero_le _, rfl, s0, B0⟩, ?_⟩
  rintro i w m ⟨j, rfl, hj, rfl, sw, B⟩
  refine split_dec (fun g => ?_) fun g => ?_
  · have g : j < n := by omega
    have idx : 0 + (j : Int).toNat * 1 = j := by rw [Int.toNat_natCast]; omega
    refine ⟨by omega, by show (j : Int) < (n : Int); omega, k7, 0, rfl, ?_, n - (j + 1), by omega, j + 1, by rw [wid (by omega) (by omega)]; omega, by omega, rfl, (Keep.put (fun c => c = k7) w _ _ rfl).sub sw fun c e => by rw [e]; exact hk7, ?_⟩
    · rw [idx]; exact B.store (by rw [List.length_append, List.length_replicate, List.length_replicate]; omega)
    · rw [idx]
      have := B.put j [.int .u8 f]
      rw [@setL_append (List.replicate j (.int .u8 f)) (List.replicate (n - j) (.int .u8 0)) [.int .u8 f] j List.length_replicate (by rw [List.length_replicate]; show 1 ≤ n - j; omega), List.drop_replicate] at this
      rw [List.replicate_succ', show n - (j + 1) = n - j - [Value.int .u8 f].length from rfl]
      exact this
  · have : j = n := by omega
    subst this
    refine ⟨fillB x f, ?_, hK w sw⟩
    rw [hfb]
    rw [Nat.sub_self, List.replicate_zero, List.append_nil] at B
    exact B.slice List.length_replicate
set_option maxHeartbeats 1000000 in
theorem nils_core {h : Hp} (o0 o1 o2 o3 o4 : Int) (f0 : 0 ≤ o4) (f1 : o4 < 256) : CallsH Try.prog 5 #[.agg #[.int .i64 o0, .int .i64 o1, .int .i64 o2, .int .i64 o3, .int .u8 o4]] h fun v h' => v = .bool true ∧ Sub h h' := by
  apply law14_PagerNils.calls
  unfold law14_PagerNils.W
  have live : ∀ x, Sub h x → CallsH Try.prog 13 #[] x fun v h' => ∃ b : Bool, v = .bool b ∧ (Value.bool b = .bool true ∧ Sub h h') := fun x s => lives_spec fun h' s' => ⟨_, rfl, rfl, s.trans s'⟩
  have use : ∀ {x : Hp} {K : Value → Hp → Prop} (i : Int), K (.int .i64 1) x → CallsH Try.prog 66 #[.pointer none, .int .i64 i] x K := fun i hK => pager_Pager_use_n.calls i hK
  have pages : ∀ {x : Hp} {K : Value → Hp → Prop}, K (.int .i64 0) x → CallsH Try.prog 23 #[.pointer none] x K := fun hK => pager_Pager_Pages_n.calls hK
  refine pager_Pager_Read_n.calls _ (use _ ⟨_, rfl, split_ne (fun _ => ⟨_, _, rfl, ?_⟩) fun e => absurd e (by decide)⟩)
  refine pager_Pager_Alloc_n.calls ⟨_, _, rfl, pager_Pager_Save_n.calls ⟨_, _, rfl, pager_Pager_Abort_n.calls ⟨rfl, ?_⟩⟩⟩
  refine ⟨fun x => x = h, ?_, split_not (fun e => by rw [beqS_val, decide_eq_true rfl] at e; cases e) fun _ => ?_⟩
  rotate_left
  · refine pages ⟨_, rfl, Sub.refl _, pager_Pager_Free_n.calls (pages ⟨_, rfl, fun i j x m => i = 0 ∧ j = 0 ∧ x = h, ⟨0, rfl, rfl, rfl⟩, ?_⟩)⟩
    rintro i j x m ⟨rfl, rfl, rfl⟩
    refine split_dec (fun e => absurd e (by decide)) fun _ => ⟨_, rfl, Sub.refl _, pager_Pager_Root_n.calls _ ⟨fun _ => False, fun _ hf => hf.elim, _, rfl, pager_Pager_Changed_n.calls ⟨_, _, _, rfl, split_ne (fun e => absurd (by decide) e) fun _ => pager_Pager_Serial_n.calls ⟨_, rfl, split_ne (fun e => absurd rfl e) fun _ => ?_⟩⟩⟩⟩
    have fin : cond false (Value.bool false = .bool true ∧ Sub x x) (cond (Go.Gx.hb ((1 : Int) != 1)) (Value.bool false = .bool true ∧ Sub x x) (cond (Go.Gx.hb ((1 : Int) != 1)) (Value.bool false = .bool true ∧ Sub x x) (cond (Go.Gx.hb ((1 : Int) != 1)) (Value.bool false = .bool true ∧ Sub x x) (x = x)))) :=
      split_ne (fun e => absurd rfl e) fun _ => split_ne (fun e => absurd rfl e) fun _ => split_ne (fun e => absurd rfl e) fun _ => rfl
    refine pager_Pager_Used_n.calls _ (split_dec (fun _ => pages ⟨_, rfl, split_dec (fun e => by omega) fun _ => ⟨_, rfl, fin⟩⟩) fun _ => ⟨_, rfl, fin⟩)
  · rintro x rfl
    refine ⟨fun y => Sub x y, ?_, filled_spec o0 o1 o2 o3 o4 f0 f1 fun h39 s39 => ⟨_, rfl, s39, pager_Pager_Write_n.calls _ _ (use _ ⟨_, rfl, split_ne (fun _ => ⟨_, rfl, s39, split_ne (fun e => absurd rfl e) fun _ => ?_⟩) fun e => absurd e (by decide)⟩)⟩⟩
    · intro y sy
      refine pager_Open_n.calls (journal_Journal_Pages_n.calls ⟨_, rfl, split_dec (fun _ => ⟨_, _, rfl, ?_⟩) fun e => absurd (by decide) e⟩)
      refine dnew_spec 9 (by decide) (by decide) fun h24 db S3 D3 s3 f3 => ⟨_, _, rfl, ?_⟩
      refine jopen_spec D3 rfl 1 (by decide) (by decide) (by show 8 * 1 + 1 ≤ (List.replicate _ _).length; rw [List.length_replicate]; decide) (new_read _ (by decide)) fun h28 jb S4 J4 s4 f4 => ⟨_, _, rfl, ?_⟩
      apply pager_Open.calls
      unfold pager_Open.W
      refine jpages_spec J4 ⟨_, rfl, split_dec (fun _ => ⟨_, _, rfl, ?_⟩) fun e => absurd (by decide) e⟩
      exact split_cond (fun _ => split_cond (fun _ => split_eq (fun _ => split_eq (fun _ => split_cond (fun _ => live h28 (sy.trans (s3.trans s4))) fun e => by cases e) fun e => absurd rfl e) fun e => absurd rfl e) fun e => by cases e) fun e => by cases e
    · refine pager_Pager_Give_n.calls _ (use _ ⟨_, rfl, split_ne (fun _ => ⟨_, rfl, s39, split_ne (fun e => absurd rfl e) fun _ => ?_⟩) fun e => absurd e (by decide)⟩)
      exact pager_Pager_Point_n.calls _ _ ⟨_, rfl, split_ne (fun e => absurd rfl e) fun _ => pager_Pager_Back_n.calls _ ⟨_, rfl, split_ne (fun e => absurd rfl e) fun _ => pager_Pager_Commit_n.calls ⟨_, rfl, split_ne (fun e => absurd rfl e) fun _ => s39⟩⟩⟩
theorem nils_all (W : World) (o0 o1 o2 o3 o4 : Int) {p0 p1 p2 p3 : Prop} (_ : p0) (_ : p1) (_ : p2) (_ : p3) (hw : (Lit.int IntKind.u8 o4).wf = true) :
    CallsH Try.prog 5 #[.agg #[.int .i64 o0, .int .i64 o1, .int .i64 o2, .int .i64 o3, .int .u8 o4]] (heapOf W) fun v h' => v = .bool true ∧ Sub (heapOf W) h' := by
  have hn : 0 ≤ o4 ∧ o4 < 256 := by
    have h2 := (Bool.and_eq_true_iff.1 (show (decide (IntKind.u8.min ≤ o4) && decide (o4 ≤ IntKind.u8.max)) = true from hw))
    have h3 := of_decide_eq_true h2.1
    have h4 := of_decide_eq_true h2.2
    have e3 : IntKind.u8.min = 0 := by decide
    have e4 : IntKind.u8.max = 255 := by decide
    omega
  exact nils_core o0 o1 o2 o3 o4 hn.1 hn.2
end Go.Proofs.Ytagglohkipioiaa
