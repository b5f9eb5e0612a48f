/- The bytes of a pager's head. Conditions: the head lies in cells; roots below 65536. -/
import Derived.Test.YtagglohkipioiaaP1
namespace Go.Proofs.Ytagglohkipioiaa
open Go.Gx
set_option maxRecDepth 100000
set_option linter.unusedVariables false

def rootV (r : Nat → Nat) : List Value := (List.range 4).map fun k => .int .i64 (r k : Nat)
def usedV (u : Nat → Bool) : List Value := (List.range 128).map fun i => .bool (u i)
def headC (s : Nat) (r : Nat → Nat) (u : Nat → Bool) : List Value := .int .u64 (s : Nat) :: (rootV r ++ usedV u)
theorem rootV_len (r : Nat → Nat) : (rootV r).length = 4 := by unfold rootV; simp
theorem usedV_len (u : Nat → Bool) : (usedV u).length = 128 := by unfold usedV; simp
theorem headC_len (s : Nat) (r : Nat → Nat) (u : Nat → Bool) : (headC s r u).length = 133 := by
  unfold headC
  rw [List.length_cons, List.length_append, rootV_len, usedV_len]
theorem rootV_get {r : Nat → Nat} {k : Nat} (hk : k < 4) : (rootV r)[k]? = some (.int .i64 (r k : Nat)) := by
  unfold rootV
  rw [List.getElem?_map, List.getElem?_range hk]; rfl
theorem usedV_get {u : Nat → Bool} {i : Nat} (hi : i < 128) : (usedV u)[i]? = some (.bool (u i)) := by
  unfold usedV
  rw [List.getElem?_map, List.getElem?_range hi]; rfl
theorem headC_0 (s : Nat) (r : Nat → Nat) (u : Nat → Bool) : (headC s r u)[0]? = some (.int .u64 (s : Nat)) := rfl
theorem headC_root (s : Nat) (r : Nat → Nat) (u : Nat → Bool) {k : Nat} (hk : k < 4) : (headC s r u)[1 + k]? = some (.int .i64 (r k : Nat)) := by
  unfold headC
  rw [Nat.add_comm, List.getElem?_cons_succ, List.getElem?_append_left (by rw [rootV_len]; exact hk), rootV_get hk]
theorem headC_used (s : Nat) (r : Nat → Nat) (u : Nat → Bool) {i : Nat} (hi : i < 128) : (headC s r u)[5 + i]? = some (.bool (u i)) := by
  unfold headC
  rw [show 5 + i = (4 + i) + 1 by omega, List.getElem?_cons_succ, List.getElem?_append_right (by rw [rootV_len]; omega), rootV_len, show 4 + i - 4 = i by omega, usedV_get hi]
theorem headC_plain (s : Nat) (r : Nat → Nat) (u : Nat → Bool) : plainP (headC s r u) := by
  intro v hv
  unfold headC rootV usedV at hv
  rcases List.mem_cons.1 hv with rfl | hv
  · exact ⟨(fun c h => by cases h), fun c h => by cases h⟩
  · rcases List.mem_append.1 hv with hv | hv
    · obtain ⟨k, _, rfl⟩ := List.mem_map.1 hv
      exact ⟨(fun c h => by cases h), fun c h => by cases h⟩
    · obtain ⟨k, _, rfl⟩ := List.mem_map.1 hv
      exact ⟨(fun c h => by cases h), fun c h => by cases h⟩
theorem _root_.Go.Gx.CellsAt.get {h : Hp} {b o : Nat} {xs : List Value} (H : CellsAt h b o xs) {i : Nat} {v : Value} (e : xs[i]? = some v) : h.cell b (o + i) = some v := by
  obtain ⟨hi, e⟩ := List.getElem?_eq_some_iff.1 e
  rw [H i hi, e]
theorem cpy10 : cpyN (bytesL [115, 116, 114, 111, 110, 103, 114, 111, 111, 109]) 1024 = 10 := by kernel_rfl
theorem cpyV10 : setL (repV 1024 [.int .u8 0]) 0 (cpyV (bytesL [115, 116, 114, 111, 110, 103, 114, 111, 111, 109]) 1024) = tabV fun j => if j < 10 then magicN j else 0 := by kernel_rfl
theorem cpyV10_plain : plainP (cpyV (bytesL [115, 116, 114, 111, 110, 103, 114, 111, 111, 109]) 1024) := plainP_of (by kernel_rfl)
theorem cpyV10_len : (cpyV (bytesL [115, 116, 114, 111, 110, 103, 114, 111, 111, 109]) 1024).length = 10 := by kernel_rfl
theorem rep1024_len : (repV 1024 [Value.int .u8 0]).length = 1024 := by kernel_rfl
theorem lget4 {r : Nat → Nat} {n : Nat} (hn : n < 4) : lget [.int .i64 (r 0 : Nat), .int .i64 (r 1 : Nat), .int .i64 (r 2 : Nat), .int .i64 (r 3 : Nat)] ((n : Int).toNat * 1) = some (.int .i64 (r n : Nat)) := by
  rw [Int.toNat_natCast, Nat.mul_one]
  rcases (by omega : n = 0 ∨ n = 1 ∨ n = 2 ∨ n = 3) with rfl | rfl | rfl | rfl <;> rfl
theorem shl1 : ∀ k : Fin 8, IntKind.u8.wrap (ishl IntKind.u8 1 ((k.val : Nat) : Int)) = ((2 ^ k.val : Nat) : Int) := by decide
theorem pow_lt8 {k : Nat} (hk : k < 8) : 2 ^ k ≤ 128 := by
  rcases eight hk with rfl | rfl | rfl | rfl | rfl | rfl | rfl | rfl <;> decide
theorem orBitN {x k : Nat} (hk : k < 8) (hx : x < 2 ^ k) : IntKind.u8.wrap (ior IntKind.u8 (x : Int) (IntKind.u8.wrap (ishl IntKind.u8 1 ((k : Nat) : Int)))) = ((x + 2 ^ k : Nat) : Int) := by
  have h1 := pow_lt8 hk
  have h2 := orN IntKind.u8 x 1 k hx (by show _ < 256; omega)
  rw [Nat.one_mul] at h2
  rw [shl1 ⟨k, hk⟩]
  show IntKind.u8.wrap (ior IntKind.u8 (x : Int) ((2 ^ k : Nat) : Int)) = _
  rw [h2, u8c, Nat.mod_eq_of_lt (by omega)]
theorem tdiv8 (n : Nat) : ((n : Nat) : Int).tdiv 8 = ((n / 8 : Nat) : Int) := by rw [Int.tdiv_eq_ediv_of_nonneg (by omega)]; omega
theorem tmod8 (n : Nat) : ((n : Nat) : Int).tmod 8 = ((n % 8 : Nat) : Int) := by rw [Int.tmod_eq_emod_of_nonneg (by omega)]; omega

set_option maxHeartbeats 1000000 in
theorem bytes_spec {h : Hp} {b o s : Nat} {r : Nat → Nat} {u : Nat → Bool} {K : Value → Hp → Prop} (H : CellsAt h b o (headC s r u)) (hK : ∀ h', Sub h h' → K (.string (tabB (encN s r u 128))) h') :
    CallsH Try.prog pager_head_bytes.id #[.pointer (some ⟨b, o, none⟩)] h K := by
  apply pager_head_bytes.calls
  unfold pager_head_bytes.W
  refine ⟨by decide, by decide, by decide, by decide, fun k1 hk1 => ?_⟩
  simp only [cpy10, show IntKind.i64.wrap (10 + 8) = 18 from by decide, show IntKind.i64.wrap (18 + 8) = 26 from by decide]
  have B0 : Blk (h.upd k1 (.cells (repV 1024 [.int .u8 0]).toArray 5 (0, 0))) k1 5 (repV 1024 [.int .u8 0]) := Blk.new h k1 5 _
  have s0 : Sub h (h.upd k1 (.cells (repV 1024 [.int .u8 0]).toArray 5 (0, 0))) := Sub.upd hk1 _
  have new : ∀ {x : Hp} (sx : Sub h x) (o' : Nat) (us : List Value), Sub h (x.put k1 o' us) := fun {x} sx o' us => (Keep.put (fun c => c = k1) x o' us rfl).sub sx fun c e => by rw [e]; exact hk1
  refine ⟨fun x => Sub h x ∧ Blk x k1 5 (tabV (stg1 s 0)), ?_, .inr ⟨k1, 0, rfl, cpyV10_plain, B0.store (by rw [cpyV10_len, rep1024_len]; decide), new s0 _ _, ?_⟩⟩
  rotate_left
  · have := B0.put 0 (cpyV (bytesL [115, 116, 114, 111, 110, 103, 114, 111, 111, 109]) 1024)
    rw [cpyV10, ← tabV_congr fun j _ => stg1_zero s j] at this
    exact this
  rintro x3 ⟨s3, B3⟩
  refine ⟨fun i x m => ∃ n : Nat, i = (n : Int) ∧ n ≤ 8 ∧ m = 8 - n ∧ Sub h x ∧ Blk x k1 5 (tabV (stg1 s n)), ⟨_, 0, rfl, by decide, rfl, s3, B3⟩, ?_⟩
  rintro i x m ⟨n, rfl, hn, rfl, sx, Bx⟩
  refine split_dec (fun g => ?_) fun g => ?_
  · have g : n < 8 := by have : (n : Int) < 8 := g; omega
    have e1 : IntKind.i64.wrap (8 * (n : Int)) = ((8 * n : Nat) : Int) := by rw [wid (by omega) (by omega)]; omega
    have e2 : IntKind.i64.wrap (56 - ((8 * n : Nat) : Int)) = ((56 - 8 * n : Nat) : Int) := by rw [wid (by omega) (by omega)]; omega
    have e3 : IntKind.i64.wrap (10 + (n : Int)) = ((10 + n : Nat) : Int) := by rw [wid (by omega) (by omega)]; omega
    have idx : 0 + ((10 + n : Nat) : Int).toNat * 1 = 10 + n := by rw [Int.toNat_natCast]; omega
    rw [e1, e2, e3]
    refine ⟨_, cell_sub sx (H.get (headC_0 s r u)), by omega, by omega, by omega, k1, 0, rfl, ?_, 8 - (n + 1), by omega, n + 1, by rw [wid (by omega) (by omega)]; omega, by omega, rfl, new sx _ _, ?_⟩
    · rw [idx]; exact Bx.store (by rw [tabV_len]; omega)
    · rw [idx, shrN _ _ _ (by show 56 - 8 * n ≤ 64; omega), u8c]
      have := Bx.put (10 + n) [.int .u8 ((s / 2 ^ (56 - 8 * n) % 256 : Nat) : Int)]
      rw [tabV_set, ← tabV_congr fun j _ => stg1_step s n j g] at this
      exact this
  have : n = 8 := by
    have : ¬ (n : Int) < 8 := g
    omega
  subst this
  clear s3 B3 g
  have hh := H.sub sx
  refine ⟨_, hh.get (headC_root s r u (k := 0) (by decide)), _, hh.get (headC_root s r u (k := 1) (by decide)), _, hh.get (headC_root s r u (k := 2) (by decide)), _, hh.get (headC_root s r u (k := 3) (by decide)), ?_⟩
  refine ⟨fun i x m => ∃ n : Nat, i = (n : Int) ∧ n ≤ 4 ∧ m = 4 - n ∧ Sub h x ∧ Blk x k1 5 (tabV (stg2 s r n)), ⟨_, 0, rfl, by decide, rfl, sx, ?_⟩, ?_⟩
  · rw [tabV_congr fun j _ => stg2_zero s r j]; exact Bx
  clear hh Bx sx
  rintro i x m ⟨n, rfl, hn, rfl, sx, Bx⟩
  refine split_dec (fun g => ?_) fun g => ?_
  · have g : n < 4 := by have : (n : Int) < 4 := g; omega
    have e1 : IntKind.i64.wrap (2 * (n : Int)) = ((2 * n : Nat) : Int) := by rw [wid (by omega) (by omega)]; omega
    have e2 : IntKind.i64.wrap (18 + ((2 * n : Nat) : Int)) = ((18 + 2 * n : Nat) : Int) := by rw [wid (by omega) (by omega)]; omega
    have e3 : IntKind.i64.wrap (((18 + 2 * n : Nat) : Int) + 1) = ((19 + 2 * n : Nat) : Int) := by rw [wid (by omega) (by omega)]; omega
    have idx : 0 + ((18 + 2 * n : Nat) : Int).toNat * 1 = 18 + 2 * n := by rw [Int.toNat_natCast]; omega
    have idx2 : 0 + ((19 + 2 * n : Nat) : Int).toNat * 1 = 19 + 2 * n := by rw [Int.toNat_natCast]; omega
    rw [e1, e2, e3]
    have B2 := Bx.put (18 + 2 * n) [.int .u8 ((r n / 256 % 256 : Nat) : Int)]
    rw [tabV_set] at B2
    refine ⟨by omega, by omega, _, lget4 g, by decide, by omega, by omega, k1, 0, rfl, ?_, by omega, by omega, k1, 0, rfl, ?_, 4 - (n + 1), by omega, n + 1, by rw [wid (by omega) (by omega)]; omega, by omega, rfl, new (new sx _ _) _ _, ?_⟩
    · rw [idx]; exact Bx.store (by rw [tabV_len]; omega)
    · rw [idx, idx2, show (8 : Int) = ((8 : Nat) : Int) from rfl, shrN _ _ _ (by decide), u8c]
      exact B2.store (by rw [tabV_len]; omega)
    · rw [idx, idx2, show (8 : Int) = ((8 : Nat) : Int) from rfl, shrN _ _ _ (by decide), u8c, u8c]
      have := B2.put (19 + 2 * n) [.int .u8 ((r n % 256 : Nat) : Int)]
      rw [tabV_set, ← tabV_congr fun j _ => stg2_step s r n j] at this
      exact this
  have : n = 4 := by
    have : ¬ (n : Int) < 4 := g
    omega
  subst this
  clear g
  refine ⟨usedV u, usedV_len u, ?_, ?_⟩
  · intro i hi
    rw [usedV_len] at hi
    rw [Nat.add_assoc, (H.sub sx).get (headC_used s r u hi)]
    rw [← usedV_get hi, List.getElem?_eq_getElem]
  refine ⟨fun i x m => ∃ n : Nat, i = (n : Int) ∧ n ≤ 128 ∧ m = 128 - n ∧ Sub h x ∧ Blk x k1 5 (tabV (encN s r u n)), ⟨_, 0, rfl, by decide, rfl, sx, ?_⟩, ?_⟩
  · rw [tabV_congr fun j _ => encN_zero s r u j]; exact Bx
  clear Bx sx
  rintro i x m ⟨n, rfl, hn, rfl, sx, Bx⟩
  refine split_dec (fun g => ?_) fun g => ?_
  · have g : n < 128 := by have : (n : Int) < 128 := g; omega
    have gl : lget (usedV u) ((n : Int).toNat * 1) = some (.bool (u n)) := by
      rw [Int.toNat_natCast, Nat.mul_one]; exact usedV_get g
    have e4 : IntKind.i64.wrap ((n : Int) + 1) = ((n + 1 : Nat) : Int) := by rw [wid (by omega) (by omega)]; omega
    refine ⟨by omega, by omega, _, gl, split_cond (fun eu => ?_) fun eu => ⟨128 - (n + 1), by omega, n + 1, e4, by omega, rfl, sx, ?_⟩⟩
    · have e1 : IntKind.i64.wrap (26 + IntKind.i64.wrap ((n : Int).tdiv 8)) = ((26 + n / 8 : Nat) : Int) := by
        rw [tdiv8, widN _ (by omega), wid (by omega) (by omega)]; omega
      have idx : 0 + ((26 + n / 8 : Nat) : Int).toNat * 1 = 26 + n / 8 := by rw [Int.toNat_natCast]; omega
      rw [e1, tmod8]
      refine ⟨by decide, by omega, by omega, k1, 0, rfl, ((encN s r u n (26 + n / 8) : Nat) : Int), ?_, by decide, by omega, by omega, by omega, k1, 0, rfl, ?_, 128 - (n + 1), by omega, n + 1, e4, by omega, rfl, new sx _ _, ?_⟩
      · rw [idx]; exact Bx.cell' _ (tabV_get (by omega))
      · rw [idx]; exact Bx.store (by rw [tabV_len]; omega)
      · rw [idx, orBitN (Nat.mod_lt _ (by decide)) (encN_low s r u g)]
        have := Bx.put (26 + n / 8) [.int .u8 ((encN s r u n (26 + n / 8) + 2 ^ (n % 8) : Nat) : Int)]
        rw [tabV_set, ← tabV_congr fun j _ => encN_yes s r u g eu j] at this
        exact this
    · rw [tabV_congr fun j _ => encN_no s r u eu j]; exact Bx
  have : n = 128 := by
    have : ¬ (n : Int) < 128 := g
    omega
  subst this
  exact ⟨_, by rw [tabB_bytes fun j _ => encN_lt s r u 128 j]; exact Bx.slice (tabV_len _), hK x sx⟩
end Go.Proofs.Ytagglohkipioiaa
