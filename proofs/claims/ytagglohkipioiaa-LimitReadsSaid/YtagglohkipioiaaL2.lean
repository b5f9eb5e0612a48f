/- What limit.Decode makes of any bytes: nothing, or the limiter whose bytes they are. Conditions: not too many bytes. -/
import Derived.Test.YtagglohkipioiaaL1
import Derived.Test.YtagglohkipioiaaGxK
import Derived.Sort.Walk0
namespace Go.Proofs.Ytagglohkipioiaa
open Go.Gx
set_option maxRecDepth 100000
set_option linter.unusedVariables false

/-! ### a limiter, and its bytes -/
structure En where
  name : ByteArray
  c : Nat
  t : Nat
def encOne (e : En) : List UInt8 := numE e.name.size ++ e.name.data.toList ++ numE e.c ++ numE e.t
def encE (E : List En) : List UInt8 := E.flatMap encOne
theorem encE_snoc (E : List En) (e : En) : encE (E ++ [e]) = encE E ++ encOne e := by unfold encE; rw [List.flatMap_append, List.flatMap_cons, List.flatMap_nil, List.append_nil]
def mapL (r p u : Nat) (E : List En) : List (Value × Value) := E.map fun e => (.string e.name, mkB r p u e.c e.t)
def nameL (e : En) : List UInt8 := e.name.data.toList
structure EnOk (r p u : Nat) (E : List En) : Prop where
  ord : (E.map nameL).Pairwise (· < ·)
  ok : ∀ e ∈ E, ltB r p u e.c e.t ∧ e.name.size ≤ 32
theorem EnOk.nil (r p u : Nat) : EnOk r p u [] := ⟨List.Pairwise.nil, fun _ h => by cases h⟩
def lastN (E : List En) : ByteArray := (E.getLast?.map (·.name)).getD (bytesL [])
theorem lastN_snoc (E : List En) (e : En) : lastN (E ++ [e]) = e.name := by unfold lastN; simp
theorem EnOk.snoc {r p u : Nat} {E : List En} (H : EnOk r p u E) {e : En} (he : ltB r p u e.c e.t) (hn : e.name.size ≤ 32) (hlt : E ≠ [] → nameL ⟨lastN E, 0, 0⟩ < nameL e) : EnOk r p u (E ++ [e]) ∧ mget (mapL r p u E) (.string e.name) = none := by
  have hall : ∀ x ∈ E.map nameL, x < nameL e := by
    intro x hx
    rcases List.eq_nil_or_concat E with rfl | ⟨F, f, rfl⟩
    · cases hx
    · have h1 := hlt (by simp)
      rw [List.concat_eq_append, lastN_snoc] at h1
      have h2 := H.ord
      rw [List.concat_eq_append, List.map_append, List.map_cons, List.map_nil] at h2 hx
      rcases List.mem_append.1 hx with h3 | h3
      · exact List.lt_trans ((List.pairwise_append.1 h2).2.2 x h3 (nameL f) (by simp)) h1
      · rw [List.mem_singleton] at h3; rw [h3]; exact h1
  refine ⟨⟨?_, fun x hx => ?_⟩, ?_⟩
  · rw [List.map_append, List.map_cons, List.map_nil]
    refine List.pairwise_append.2 ⟨H.ord, List.pairwise_singleton _ _, fun a ha b hb => ?_⟩
    rw [List.mem_singleton] at hb; rw [hb]; exact hall a ha
  · rcases List.mem_append.1 hx with h | h
    · exact H.ok x h
    · rw [List.mem_singleton] at h; rw [h]; exact ⟨he, hn⟩
  · unfold mget mapL
    rw [Option.map_eq_none_iff, List.find?_eq_none]
    intro x hx
    obtain ⟨y, hy, rfl⟩ := List.mem_map.1 hx
    simp only [decide_eq_true_eq]
    intro e2
    have e3 : y.name = e.name := by injection e2
    have := hall _ (List.mem_map.2 ⟨y, hy, rfl⟩)
    unfold nameL at this
    rw [e3] at this
    exact List.lt_irrefl _ this
def textL (ns : List Nat) : List UInt8 := ns.flatMap numE
theorem textL_append (a b : List Nat) : textL (a ++ b) = textL a ++ textL b := List.flatMap_append
theorem textL_one (a : Nat) : textL [a] = numE a := by unfold textL; simp
def encL (r p u n : Nat) (E : List En) : List UInt8 := textL [n, r, p, u, E.length] ++ encE E
structure LimAt (x : Hp) (lb mb : Nat) (r p u n : Nat) (E : List En) : Prop where
  blk : Blk x lb 91 [.int .i64 (r : Nat), .int .i64 (p : Nat), .int .i64 (u : Nat), .int .i64 (n : Nat), .map (some mb)]
  map : ∃ o, x mb = some o ∧ MapObj Try.prog 9 o (mapL r p u E)
  ok : EnOk r p u E
theorem LimAt.sub {x y : Hp} {lb mb r p u n : Nat} {E : List En} (H : LimAt x lb mb r p u n E) (s : Sub x y) : LimAt y lb mb r p u n E :=
  ⟨H.blk.sub s, let ⟨o, h1, h2⟩ := H.map; ⟨o, s _ _ h1, h2⟩, H.ok⟩
theorem LimAt.keep {S : Nat → Prop} {x y : Hp} {lb mb r p u n : Nat} {E : List En} (H : LimAt x lb mb r p u n E) (s : Keep S x y) (h1 : ¬ S lb) (h2 : ¬ S mb) : LimAt y lb mb r p u n E :=
  ⟨H.blk.keep s h1, let ⟨o, h3, h4⟩ := H.map; ⟨o, s _ _ h3 h2, h4⟩, H.ok⟩

/-! ### the closure's boxes -/
structure Box (h x : Hp) (k1 k5 k6 : Nat) (ba : Option Addr) (bl bc : Nat) (p : Nat) (bad : Bool) : Prop where
  sub : Sub h x
  n1 : h k1 = none
  n5 : h k5 = none
  n6 : h k6 = none
  d15 : k1 ≠ k5
  d16 : k1 ≠ k6
  d56 : k5 ≠ k6
  b1 : Blk x k1 22 [.slice ba bl bc]
  b5 : Blk x k5 3 [.int .i64 (p : Nat)]
  b6 : Blk x k6 4 [.bool bad]
abbrev boxS (k5 k6 : Nat) : Nat → Prop := fun c => c = k5 ∨ c = k6
section
variable {h x : Hp} {k1 k5 k6 : Nat} {ba : Option Addr} {bl bc p : Nat} {bad : Bool}
theorem Box.put5 (B : Box h x k1 k5 k6 ba bl bc p bad) (q : Nat) : Box h (x.put k5 0 [.int .i64 (q : Nat)]) k1 k5 k6 ba bl bc q bad :=
  ⟨(Keep.put (boxS k5 k6) x 0 _ (.inl rfl)).sub B.sub (fun c hc => hc.elim (fun e => e ▸ B.n5) (fun e => e ▸ B.n6)), B.n1, B.n5, B.n6, B.d15, B.d16, B.d56, B.b1.put_ne 0 _ B.d15, B.b5.put 0 _, B.b6.put_ne 0 _ B.d56.symm⟩
theorem Box.put6 (B : Box h x k1 k5 k6 ba bl bc p bad) (b : Bool) : Box h (x.put k6 0 [.bool b]) k1 k5 k6 ba bl bc p b :=
  ⟨(Keep.put (boxS k5 k6) x 0 _ (.inr rfl)).sub B.sub (fun c hc => hc.elim (fun e => e ▸ B.n5) (fun e => e ▸ B.n6)), B.n1, B.n5, B.n6, B.d15, B.d16, B.d56, B.b1.put_ne 0 _ B.d16, B.b5.put_ne 0 _ B.d56, B.b6.put 0 _⟩
theorem Box.more {y : Hp} (B : Box h x k1 k5 k6 ba bl bc p bad) (s : Sub x y) : Box h y k1 k5 k6 ba bl bc p bad :=
  ⟨B.sub.trans s, B.n1, B.n5, B.n6, B.d15, B.d16, B.d56, B.b1.sub s, B.b5.sub s, B.b6.sub s⟩
theorem Box.keep {S : Nat → Prop} {y : Hp} (B : Box h x k1 k5 k6 ba bl bc p bad) (s : Keep S x y) (hS : ∀ c, S c → h c = none ∧ c ≠ k1 ∧ c ≠ k5 ∧ c ≠ k6) : Box h y k1 k5 k6 ba bl bc p bad :=
  ⟨s.sub B.sub fun c hc => (hS c hc).1, B.n1, B.n5, B.n6, B.d15, B.d16, B.d56, B.b1.keep s fun hc => (hS _ hc).2.1 rfl, B.b5.keep s fun hc => (hS _ hc).2.2.1 rfl, B.b6.keep s fun hc => (hS _ hc).2.2.2 rfl⟩
def clip (n : Nat) : Nat := min n 4611686018427387904
theorem number_spec {l : List UInt8} (B : Box h x k1 k5 k6 ba l.length bc p bad) (H : RowAt byteC 1 h ba l) (hp : p ≤ l.length) (hl : l.length < 1099511627776) {K : Value → Hp → Prop}
    (hOk : bad = false → ∀ n post y, l.drop p = numE n ++ post → n < 18446744073709551616 → Box h y k1 k5 k6 ba l.length bc (p + (numE n).length) false → Keep (boxS k5 k6) x y → K (.int .i64 (clip n : Nat)) y)
    (hBad : ∀ y, Box h y k1 k5 k6 ba l.length bc p true → Keep (boxS k5 k6) x y → K (.int .i64 0) y) :
    CallsH Try.prog limit_Decode_1.id #[.pointer (some ⟨k1, 0, none⟩), .pointer (some ⟨k5, 0, none⟩), .pointer (some ⟨k6, 0, none⟩)] x K := by
  apply limit_Decode_1.calls
  unfold limit_Decode_1.W
  have bad_ : (StoreOk x k6 0 1) ∧ K (.int .i64 0) (x.put k6 0 [.bool true]) := ⟨B.b6.store (Nat.le_refl _), hBad _ (B.put6 true) (Keep.put _ _ _ _ (.inr rfl))⟩
  refine ⟨_, _, _, B.b1.cell' 0 rfl, _, B.b5.cell' 0 rfl, get_spec (H.sub B.sub) hp hl (fun n post hd hn => ⟨_, _, _, rfl, _, B.b6.cell' 0 rfl, ?_⟩) (fun e he => ⟨_, _, _, rfl, _, B.b6.cell' 0 rfl, ?_⟩)⟩
  · refine split_cond (fun _ => bad_) fun e1 => split_ne (fun e => absurd rfl e) fun _ => ⟨B.b5.store (Nat.le_refl _), ?_⟩
    subst e1
    have e : IntKind.i64.wrap (if 4611686018427387904 < (n : Int) then 4611686018427387904 else (n : Int)) = ((clip n : Nat) : Int) := by
      unfold clip
      by_cases g : 4611686018427387904 < (n : Int)
      · rw [if_pos g, wid (by omega) (by omega)]; omega
      · rw [if_neg g, wid (by omega) (by omega)]; omega
    rw [e]
    exact hOk rfl n post _ hd hn (B.put5 _) (Keep.put _ _ _ _ (.inl rfl))
  · exact split_cond (fun _ => bad_) fun _ => split_ne (fun _ => bad_) fun e2 => absurd e2 he
end
theorem keep_spec (r p u n : Int) {h : Hp} {K : Value → Hp → Prop} (hBad : K (.tuple #[.pointer none, .int .i64 1]) h)
    (hOk : ltM r p u → 1 ≤ n → n ≤ 32 → ∀ mb lb o, h mb = none → h lb = none → lb ≠ mb → MapObj Try.prog 9 o [] → K (.tuple #[.pointer (some ⟨lb, 0, none⟩), .int .i64 0]) ((h.upd mb o).upd lb (.cells #[.int .i64 r, .int .i64 p, .int .i64 u, .int .i64 n, .map (some mb)] 91 (0, 0)))) :
    CallsH Try.prog limit_Keep.id #[.agg #[.int .i64 r, .int .i64 p, .int .i64 u], .int .i64 n] h K := by
  apply limit_Keep.calls
  unfold limit_Keep.W
  refine mmay_spec _ _ _ ⟨_, rfl, split_not (fun _ => hBad) fun e1 => within_spec _ _ _ ⟨_, rfl, split_not (fun _ => hBad) fun e2 mb hmb o ho lb hlb => ?_⟩⟩
  have e1 : ltM r p u := by simpa using e1
  have e2 := of_decide_eq_true e2
  have hne : lb ≠ mb := fun e => by rw [e, Hp.upd_same] at hlb; cases hlb
  rw [Hp.upd_ne _ _ hne] at hlb
  exact hOk e1 e2.1 e2.2 mb lb o hmb hlb hne ho
end Go.Proofs.Ytagglohkipioiaa
