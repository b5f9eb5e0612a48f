/- What the functions of package cas make of contents in the plain table. Conditions: the store stands as it is named, few contents. -/
import Derived.Test.YtpokejaglmkphaaFD
import Derived.Test.YtpokejaglmkphaaT1
import Derived.Test.YtpokejaglmkphaaC1
namespace Go.Proofs.Ytpokejaglmkphaa
open Go.Gx
set_option maxRecDepth 100000
set_option linter.unusedVariables false

abbrev tStore : TypeId := 71
abbrev tID : TypeId := 34
theorem appTI : AppT Try.prog tID 2 24 := AppT.of (by kernel_rfl)

/-! ### keys and values -/
theorem u8w (n : Nat) : IntKind.u8.wrap (n : Int) = ((UInt8.ofNat n).toNat : Nat) := by
  rw [wrap8, u8_ofNat]; omega
theorem shrI (r k : Nat) (hk : k ≤ 64) : ishr IntKind.i64 (r : Int) (k : Nat) = ((r / 2 ^ k : Nat) : Int) := by
  show ((r : Int)).fdiv (2 ^ min ((k : Int)).toNat 64) = _
  rw [Int.toNat_natCast, Nat.min_eq_left hk, Int.fdiv_eq_ediv_of_nonneg _ (by exact Int.pow_nonneg (by omega))]
  push_cast; rfl
theorem key_spec (sum : ByteArray) (n : Nat) (hs : sum.size < 4294967296) {h : Hp} {K : Value → Hp → Prop} (hK : ∀ h', Sub h h' → K (.string (keyB sum n)) h') :
    CallsH Try.prog cas_key.id #[.agg #[.string sum, .int .i64 n]] h K := by
  apply cas_key.calls
  unfold cas_key.W
  have e1 : (bytesL [99]).size = 1 := rfl
  refine ⟨by omega, fun k hk => ⟨byteB n, ⟨rfl, .inr ⟨k, 0, rfl, ?_⟩⟩, ?_, hK _ (Sub.upd hk _)⟩⟩
  · intro i hi
    have hi : i < 1 := hi
    obtain rfl : i = 0 := by omega
    unfold Hp.cell
    rw [Hp.upd_same]
    show some (Value.int .u8 (IntKind.u8.wrap (n : Int))) = some (Value.int .u8 ((UInt8.ofNat n).toNat : Nat))
    rw [u8w]
  · rw [app_size]
    have : (byteB n).size = 1 := rfl
    omega
theorem value_spec (r : Nat) (hr : r < 4294967296) (data : ByteArray) (hs : data.size < 4294967296) {h : Hp} {K : Value → Hp → Prop} (hK : ∀ h', Sub h h' → K (.string (valB r data)) h') :
    CallsH Try.prog cas_value.id #[.int .i64 r, .string data] h K := by
  apply cas_value.calls
  unfold cas_value.W
  refine ⟨by decide, by decide, by decide, fun k hk => ⟨be4B r, ⟨rfl, .inr ⟨k, 0, rfl, ?_⟩⟩, ?_, hK _ (Sub.upd hk _)⟩⟩
  · have e : ∀ j : Nat, j ≤ 64 → IntKind.u8.wrap (ishr IntKind.i64 (r : Int) (j : Nat)) = ((UInt8.ofNat (r / 2 ^ j)).toNat : Nat) := fun j hj => by rw [shrI r j hj, u8w]
    have e0 := e 24 (by decide)
    have e1 := e 16 (by decide)
    have e2 := e 8 (by decide)
    intro i hi
    have hi : i < 4 := hi
    unfold Hp.cell
    rw [Hp.upd_same]
    have hc : i = 0 ∨ i = 1 ∨ i = 2 ∨ i = 3 := by omega
    rcases hc with rfl | rfl | rfl | rfl
    · exact congrArg (fun x => some (Value.int .u8 x)) e0
    · exact congrArg (fun x => some (Value.int .u8 x)) e1
    · exact congrArg (fun x => some (Value.int .u8 x)) e2
    · exact congrArg (fun x => some (Value.int .u8 x)) (u8w r)
  · have : (be4B r).size = 4 := rfl
    omega
theorem orI (n b : Nat) (hn : n < 72057594037927936) (hb : b < 256) : IntKind.i64.wrap (ior IntKind.i64 (IntKind.i64.wrap (ishl IntKind.i64 (n : Int) 8)) (IntKind.i64.wrap (b : Int))) = ((n * 256 + b : Nat) : Int) ∨ 36028797018963968 ≤ n := by
  by_cases h : 36028797018963968 ≤ n
  · exact .inr h
  · left
    have e1 : ishl IntKind.i64 (n : Int) 8 = ((n * 256 : Nat) : Int) := by
      show (n : Int) * 2 ^ 8 = _
      push_cast; rfl
    rw [e1, wid (x := ((n * 256 : Nat) : Int)) (by omega) (by omega), wid (x := ((b : Nat) : Int)) (by omega) (by omega)]
    have e2 : ior IntKind.i64 ((n * 256 : Nat) : Int) ((b : Nat) : Int) = ((n * 256 + b : Nat) : Int) := by
      show (((BitVec.ofInt 64 ((n * 256 : Nat) : Int) ||| BitVec.ofInt 64 ((b : Nat) : Int)).toNat : Nat) : Int) = _
      rw [BitVec.ofInt_natCast, BitVec.ofInt_natCast, BitVec.toNat_or, BitVec.toNat_ofNat, BitVec.toNat_ofNat, Nat.mod_eq_of_lt (by omega), Nat.mod_eq_of_lt (by omega)]
      have := Nat.two_pow_add_eq_or_of_lt (i := 8) (b := b) (by omega) n
      rw [Nat.mul_comm n 256]
      rw [show (256 : Nat) = 2 ^ 8 from rfl, this]
    rw [e2, wid (by omega) (by omega)]
theorem valB_byte (r : Nat) (hr : r < 4294967296) (data : ByteArray) : byteAt (valB r data) 0 = ((r / 16777216 : Nat) : Int) ∧ byteAt (valB r data) 1 = ((r / 65536 % 256 : Nat) : Int) ∧ byteAt (valB r data) 2 = ((r / 256 % 256 : Nat) : Int) ∧ byteAt (valB r data) 3 = ((r % 256 : Nat) : Int) := by
  have e : (valB r data).data.toList = [UInt8.ofNat (r / 16777216), UInt8.ofNat (r / 65536), UInt8.ofNat (r / 256), UInt8.ofNat r] ++ data.data.toList := by unfold valB; rw [app_list]; rfl
  unfold byteAt
  rw [e]
  refine ⟨?_, ?_, ?_, ?_⟩
  all_goals simp
  all_goals omega
theorem refs_spec (r : Nat) (hr : r < 4294967296) (data : ByteArray) {h : Hp} {K : Value → Hp → Prop} (hK : K (.int .i64 r) h) :
    CallsH Try.prog cas_refs.id #[.string (valB r data)] h K := by
  apply cas_refs.calls
  unfold cas_refs.W
  obtain ⟨b0, b1, b2, b3⟩ := valB_byte r hr data
  have hsz : (valB r data).size = 4 + data.size := valB_size _ _
  refine ⟨fun n i x m => x = h ∧ ∃ j : Nat, i = (j : Int) ∧ j ≤ 4 ∧ n = ((r / 256 ^ (4 - j) : Nat) : Int) ∧ m = 4 - j, ⟨4, rfl, 0, rfl, by omega, ?_, rfl⟩, ?_⟩
  · rw [show 4 - 0 = 4 from rfl, show 256 ^ 4 = 4294967296 from rfl, Nat.div_eq_of_lt hr]; rfl
  rintro n i x m ⟨rfl, j, rfl, hj, rfl, rfl⟩
  refine split_dec (fun g => ?_) (fun g => ?_)
  · have g : j < 4 := by have : (j : Int) < 4 := g; omega
    refine ⟨by decide, by omega, by rw [hsz]; show (j : Int) < ((4 + data.size : Nat) : Int); omega, 4 - (j + 1), by omega, rfl, j + 1, by rw [wid (by omega) (by omega)]; omega, by omega, ?_, rfl⟩
    rw [Int.toNat_natCast]
    have d0 : r / 256 ^ (4 - 0) = r / 4294967296 := rfl
    have d1 : r / 256 ^ (4 - 1) = r / 16777216 := rfl
    have d2 : r / 256 ^ (4 - 2) = r / 65536 := rfl
    have d3 : r / 256 ^ (4 - 3) = r / 256 := rfl
    have d4 : r / 256 ^ (4 - 4) = r / 1 := rfl
    have hc : j = 0 ∨ j = 1 ∨ j = 2 ∨ j = 3 := by omega
    rcases hc with rfl | rfl | rfl | rfl
    · rw [b0, d0, show 0 + 1 = 1 from rfl, d1]
      rcases orI (r / 4294967296) (r / 16777216) (by omega) (by omega) with e | e
      · rw [e]; omega
      · omega
    · rw [b1, d1, show 1 + 1 = 2 from rfl, d2]
      rcases orI (r / 16777216) (r / 65536 % 256) (by omega) (by omega) with e | e
      · rw [e]; omega
      · omega
    · rw [b2, d2, show 2 + 1 = 3 from rfl, d3]
      rcases orI (r / 65536) (r / 256 % 256) (by omega) (by omega) with e | e
      · rw [e]; omega
      · omega
    · rw [b3, d3, show 3 + 1 = 4 from rfl, d4]
      rcases orI (r / 256) (r % 256) (by omega) (by omega) with e | e
      · rw [e]; omega
      · omega
  · have g : ¬ j < 4 := by intro hc; apply g; show (j : Int) < 4; omega
    obtain rfl : j = 4 := by omega
    rw [Nat.sub_self, Nat.pow_zero, Nat.div_one]
    exact hK

/-! ### the store -/
structure StoreAt (h : Hp) (sb tb width : Nat) (full : Int) (L : List KV) : Prop where
  blk : Blk h sb tStore [.iface 27 (.pointer (some ⟨tb, 0, none⟩)), .int .i64 width]
  table : TableAt h tb full L
theorem StoreAt.sub {h h' : Hp} {sb tb width : Nat} {full : Int} {L : List KV} (H : StoreAt h sb tb width full L) (s : Sub h h') : StoreAt h' sb tb width full L := ⟨H.blk.sub s, H.table.sub s⟩
theorem StoreAt.ne {h : Hp} {sb tb width : Nat} {full : Int} {L : List KV} (H : StoreAt h sb tb width full L) : sb ≠ tb := by
  obtain ⟨a, c, h1, _⟩ := H.table
  exact blk_ne H.blk h1 (by decide)
theorem StoreAt.keep {h h' : Hp} {sb tb width : Nat} {full : Int} {L L' : List KV} (H : StoreAt h sb tb width full L) (s : Keep (fun b => b = tb) h h') (T : TableAt h' tb full L') : StoreAt h' sb tb width full L' :=
  ⟨H.blk.keep s H.ne, T⟩
/-- A store with contents, beside other entries. -/
structure CasAt (h : Hp) (sb tb width : Nat) (full : Int) (X : List KV) (l : List Ct) : Prop where
  ex : ∃ L, StoreAt h sb tb width full L ∧ Rel width X l L
  w1 : 1 ≤ width
  w2 : width ≤ 32
theorem CasAt.sub {h h' : Hp} {sb tb width : Nat} {full : Int} {X : List KV} {l : List Ct} (H : CasAt h sb tb width full X l) (s : Sub h h') : CasAt h' sb tb width full X l :=
  ⟨by obtain ⟨L, h1, h2⟩ := H.ex; exact ⟨L, h1.sub s, h2⟩, H.w1, H.w2⟩
theorem CasAt.keep {S : Nat → Prop} {h h' : Hp} {sb tb width : Nat} {full : Int} {X : List KV} {l : List Ct} (H : CasAt h sb tb width full X l) (s : Keep S h h') (hS : ∀ c t vs, S c → Blk h c t vs → t ≠ tTable ∧ t ≠ tPair ∧ t ≠ tStore) : CasAt h' sb tb width full X l :=
  ⟨by obtain ⟨L, h1, h2⟩ := H.ex; exact ⟨L, ⟨h1.blk.keep s fun hc => (hS _ _ _ hc h1.blk).2.2 rfl, h1.table.keep s fun c t vs hc hb => ⟨(hS c t vs hc hb).1, (hS c t vs hc hb).2.1⟩⟩, h2⟩, H.w1, H.w2⟩
theorem CasAt.ok {h : Hp} {sb tb width : Nat} {full : Int} {X : List KV} {l : List Ct} (H : CasAt h sb tb width full X l) : CtsOk width l := by
  obtain ⟨L, h1, h2⟩ := H.ex; exact h2.ok
variable {h : Hp} {sb tb width : Nat} {full : Int} {X : List KV} {l : List Ct} {K : Value → Hp → Prop}

theorem known_spec {L : List KV} (H : StoreAt h sb tb width full L) (sum : ByteArray) (n : Int) (hK : K (.bool (decide (sum.size = width ∧ 0 ≤ n ∧ n < 256))) h) :
    CallsH Try.prog cas_Store_known.id #[.pointer (some ⟨sb, 0, none⟩), .agg #[.string sum, .int .i64 n]] h K := by
  apply cas_Store_known.calls
  unfold cas_Store_known.W
  refine ⟨_, H.blk.cell' 1 rfl, split_eq (fun e1 => split_dec (fun e2 => ?_) (fun e2 => ?_)) (fun e1 => ?_)⟩
  · have e1 : sum.size = width := by have : ((sum.size : Nat) : Int) = (width : Int) := e1; omega
    rw [hb_eq]
    by_cases e3 : n < 256
    · rw [decide_eq_true ⟨e1, e2, e3⟩] at hK; rw [decide_eq_true e3]; exact hK
    · rw [decide_eq_false (fun e => e3 e.2.2)] at hK; rw [decide_eq_false e3]; exact hK
  · rw [decide_eq_false (fun e => e2 e.2.1)] at hK; exact hK
  · rw [decide_eq_false (fun e => e1 (by show ((sum.size : Nat) : Int) = (width : Int); omega))] at hK; exact hK
theorem findC_width (C : CasAt h sb tb width full X l) {sum : ByteArray} {n : Int} {c : Ct} (hf : findC l sum n = some c) : sum.size = width ∧ 0 ≤ n ∧ n < 256 := by
  obtain ⟨h1, h2, h3⟩ := findC_mem hf
  have := C.ok.n c h1
  refine ⟨?_, by omega, by omega⟩
  rw [← h2, C.ok.sum c h1, digest_size _ C.w2]
def lookV (o : Option Ct) : Value := .tuple #[.int .i64 (((o.map Ct.refs).getD 0 : Nat) : Int), .string ((o.map Ct.data).getD noB)]
theorem look_spec (C : CasAt h sb tb width full X l) (hl : l.length + X.length < 4294967295) (sum : ByteArray) (n : Int) (hK : ∀ h', Sub h h' → K (lookV (findC l sum n)) h') :
    CallsH Try.prog cas_Store_look.id #[.pointer (some ⟨sb, 0, none⟩), .agg #[.string sum, .int .i64 n]] h K := by
  apply cas_Store_look.calls
  unfold cas_Store_look.W
  have C' := C
  obtain ⟨⟨L, S, R⟩, w1, w2⟩ := C'
  have hL : L.length < 4294967296 := by have := R.length; omega
  refine known_spec S sum n ⟨_, rfl, split_not (fun e => ?_) (fun e => ?_)⟩
  · have e := of_decide_eq_false e
    cases hf : findC l sum n with
    | some c => exact absurd (findC_width C hf) e
    | none => rw [hf] at hK; exact hK h (Sub.refl h)
  · obtain ⟨e1, e2, e3⟩ := of_decide_eq_true e
    obtain ⟨m, rfl⟩ : ∃ m : Nat, n = (m : Int) := ⟨n.toNat, by omega⟩
    refine ⟨_, S.blk.cell' 0 rfl, key_spec sum m (by omega) fun h1 s1 => ⟨_, rfl, s1, _, rfl, tableGet_spec (S.table.sub s1) hL _ ⟨_, _, rfl, ?_⟩⟩⟩
    rw [R.is (by omega), R.get (by omega)]
    cases hf : findC l sum (m : Int) with
    | none =>
      rw [hf] at hK
      exact hK _ s1
    | some c =>
      rw [hf] at hK
      obtain ⟨c1, c2, c3⟩ := findC_mem hf
      have hr := R.ok.refs c c1
      have hz : (valB c.refs c.data).size = 4 + c.data.size := valB_size _ _
      show cond (!true) _ _
      simp only [Bool.not_true, cond_false, Option.map_some, Option.getD_some]
      refine split_dec (fun g => ?_) (fun g => ⟨by decide, ?_, refs_spec c.refs hr.2 c.data ⟨_, rfl, ?_⟩⟩)
      · have g : ((valB c.refs c.data).size : Int) < 4 := g
        omega
      · show (4 : Int) ≤ ((valB c.refs c.data).size : Int)
        omega
      · have := valB_data c.refs c.data
        show K (.tuple #[.int .i64 c.refs, .string ((valB c.refs c.data).extract 4 (valB c.refs c.data).size)]) h1
        rw [this]
        exact hK _ s1
theorem get_spec (C : CasAt h sb tb width full X l) (hl : l.length + X.length < 4294967295) (sum : ByteArray) (n : Int) (hK : ∀ h', Sub h h' → K (.tuple #[.string (((findC l sum n).map Ct.data).getD noB), .bool (findC l sum n).isSome]) h') :
    CallsH Try.prog cas_Store_Get.id #[.pointer (some ⟨sb, 0, none⟩), .agg #[.string sum, .int .i64 n]] h K := by
  apply cas_Store_Get.calls
  unfold cas_Store_Get.W
  refine look_spec C hl sum n fun h' s => ⟨_, _, rfl, ?_⟩
  have := hK h' s
  rw [hb_eq]
  cases hf : findC l sum n with
  | none => rw [hf] at this; exact this
  | some c =>
    rw [hf] at this
    have hr := C.ok.refs c (findC_mem hf).1
    rw [decide_eq_true (by show (c.refs : Int) > 0; omega)]
    exact this
theorem refsS_spec (C : CasAt h sb tb width full X l) (hl : l.length + X.length < 4294967295) (sum : ByteArray) (n : Int) (hK : ∀ h', Sub h h' → K (.int .i64 ((((findC l sum n).map Ct.refs).getD 0 : Nat) : Int)) h') :
    CallsH Try.prog cas_Store_Refs.id #[.pointer (some ⟨sb, 0, none⟩), .agg #[.string sum, .int .i64 n]] h K := by
  apply cas_Store_Refs.calls
  unfold cas_Store_Refs.W
  exact look_spec C hl sum n fun h' s => ⟨_, _, rfl, hK h' s⟩
theorem digest_spec (C : CasAt h sb tb width full X l) (data : ByteArray) (hd : data.size < 1152921504606846976) (hK : ∀ h', Sub h h' → K (.string (digest data width)) h') :
    CallsH Try.prog cas_Store_Digest.id #[.pointer (some ⟨sb, 0, none⟩), .string data] h K := by
  apply cas_Store_Digest.calls
  unfold cas_Store_Digest.W
  obtain ⟨⟨L, S, R⟩, w1, w2⟩ := C
  refine ⟨_, S.blk.cell' 1 rfl, fun c hc k hk => ⟨Sub.upd hk _, shaSum_spec (b := data) ?_ hc ?_ hd fun h' s => ⟨_, rfl, (Sub.upd hk _).trans s, by omega, ?_, ?_⟩⟩⟩
  · refine ⟨by unfold bytesV; rw [List.length_map, Array.length_toList]; rfl, .inr ⟨k, 0, rfl, fun i hi => ?_⟩⟩
    unfold Hp.cell
    rw [Hp.upd_same]
    unfold grown
    simp only [Nat.zero_add]
    rw [List.getElem?_toArray, List.append_assoc, List.getElem?_append_left hi]
    exact List.getElem?_eq_getElem hi
  · rintro c' ⟨o, s, e⟩
    cases e
    rw [Hp.upd_same]; simp
  · rw [shaF_size]; show (width : Int) ≤ ((32 : Nat) : Int); omega
  · exact hK h' ((Sub.upd hk _).trans s)
end Go.Proofs.Ytpokejaglmkphaa
