/- Heads are read as they were written; what holds along steps; what is told behind a failure. Conditions: right heads, 2 to 10 pages. -/
import Derived.Test.YtagglohkipioiaaGreatW1
import Derived.Test.YtagglohkipioiaaGreatP21
namespace Go.Proofs.YtagglohkipioiaaGreat
open Go.Gx
set_option maxRecDepth 100000
set_option linter.unusedVariables false

/-! ### heads -/
theorem dser_enc {s : Nat} {r : Nat → Nat} {u : Nat → Bool} {n : Nat} (hs : s < 256 ^ 8) : ∀ k, k ≤ 8 → dser (tabB (encN s r u n)) k = s / 256 ^ (8 - k)
  | 0, _ => by
    show 0 = s / 256 ^ 8
    rw [Nat.div_eq_of_lt hs]
  | k + 1, hk => by
    show dser _ k * 256 + byteN _ (10 + k) = _
    rw [dser_enc hs k (by omega), byteN_tab (encN_lt _ _ _ _ _) (by omega)]
    have e : encN s r u n (10 + k) = s / 256 ^ (7 - k) % 256 := by
      unfold encN stg2 stg1
      rw [if_pos (by omega), if_pos (by omega), if_neg (by omega), if_pos (by omega), show 17 - (10 + k) = 7 - k by omega]
    rw [e, show 8 - (k + 1) = 7 - k by omega, show 8 - k = (7 - k) + 1 by omega, Nat.pow_succ, ← Nat.div_div_eq_div_mul]
    generalize s / 256 ^ (7 - k) = m
    omega
theorem droot_enc {s : Nat} {r : Nat → Nat} {u : Nat → Bool} {n k : Nat} (hk : k < 4) (hr : r k < 65536) : droot (tabB (encN s r u n)) k = r k := by
  unfold droot
  rw [byteN_tab (encN_lt _ _ _ _ _) (by omega), byteN_tab (encN_lt _ _ _ _ _) (by omega)]
  have e1 : encN s r u n (18 + 2 * k) = r k / 256 % 256 := by
    unfold encN stg2 rootB
    rw [if_pos (by omega), if_neg (by omega), if_pos (by omega), if_pos (by omega), show (18 + 2 * k - 18) / 2 = k by omega]
  have e2 : encN s r u n (19 + 2 * k) = r k % 256 := by
    unfold encN stg2 rootB
    rw [if_pos (by omega), if_neg (by omega), if_pos (by omega), if_neg (by omega), show (19 + 2 * k - 18) / 2 = k by omega]
  rw [e1, e2]
  omega
theorem enc_same {s : Nat} {r r' : Nat → Nat} {u u' : Nat → Bool} (hr : ∀ k, k < 4 → r k = r' k) (hu : ∀ i, i < 128 → u i = u' i) : tabB (encN s r u 128) = tabB (encN s r' u' 128) := tabB_congr fun j _ => by
  unfold encN
  by_cases h1 : j < 26
  · rw [if_pos h1, if_pos h1]
    unfold stg2
    by_cases h2 : j < 18
    · rw [if_pos h2, if_pos h2]
    · rw [if_neg h2, if_neg h2, if_pos (by omega), if_pos (by omega)]
      unfold rootB
      rw [hr _ (by omega)]
  · rw [if_neg h1, if_neg h1]
    by_cases h2 : j < 42
    · rw [if_pos h2, if_pos h2]
      refine bitsU_congr fun t => ?_
      unfold bitAt
      by_cases h3 : 8 * (j - 26) + t < 128
      · rw [if_pos h3, if_pos h3, hu _ h3]
      · rw [if_neg h3, if_neg h3]
    · rw [if_neg h2, if_neg h2]
variable {n : Nat} {D : Dk} {P : Pg}
theorem same_refl (A : Hd) : A.same A = true := Hd.same_eq.2 ⟨rfl, fun _ _ => rfl, fun _ _ => rfl⟩
theorem same_trans {A B C : Hd} (h1 : A.same B = true) (h2 : B.same C = true) : A.same C = true := by
  obtain ⟨a1, a2, a3⟩ := Hd.same_eq.1 h1
  obtain ⟨b1, b2, b3⟩ := Hd.same_eq.1 h2
  exact Hd.same_eq.2 ⟨a1.trans b1, fun k hk => (a2 k hk).trans (b2 k hk), fun i hi => (a3 i hi).trans (b3 i hi)⟩
theorem same_symm {A B : Hd} (h1 : A.same B = true) : B.same A = true := by
  obtain ⟨a1, a2, a3⟩ := Hd.same_eq.1 h1
  exact Hd.same_eq.2 ⟨a1.symm, fun k hk => (a2 k hk).symm, fun i hi => (a3 i hi).symm⟩
theorem head_dec {H : Hd} (O : HdOk n H) : OkHead H.bytes n ∧ (headOf H.bytes).same H = true := by
  have e1 : dser H.bytes 8 = H.s := by
    have := dser_enc (s := H.s) (r := H.r) (u := H.u) (n := 128) (by have := O.ser; omega) 8 (Nat.le_refl _)
    rw [Nat.sub_self, Nat.pow_zero, Nat.div_one] at this; exact this
  have e2 : ∀ k, k < 4 → droot H.bytes k = H.r k := fun k hk => droot_enc hk (by have := (O.roots k hk).1; omega)
  have e3 : ∀ i, i < 128 → dbit H.bytes i = H.u i := fun i hi => by
    have := dbit_enc (s := H.s) (r := H.r) (u := H.u) (n := 128) hi
    rw [decide_eq_true hi, Bool.true_and] at this; exact this
  refine ⟨⟨fun i hi hb => O.below i hi (by rw [← e3 i hi]; exact hb), fun k hk => ?_, by rw [e3 0 (by decide)]; exact O.zero, by rw [e1]; exact O.ser, ?_⟩, Hd.same_eq.2 ⟨e1, e2, e3⟩⟩
  · rw [e2 k hk, e3 _ (O.roots k hk).1]
    exact O.roots k hk
  · rw [e1]
    exact enc_same e2 e3
theorem bytes_ne (H : Hd) : H.bytes ≠ zeroB 1024 := fun e => by
  have h1 : byteN H.bytes 0 = 115 := by
    unfold Hd.bytes
    rw [byteN_tab (encN_lt _ _ _ _ _) (by decide)]; rfl
  rw [e] at h1
  have h2 : byteN (zeroB 1024) 0 = 0 := by decide +kernel
  omega
/-- Page 0 tells the good head. -/
def Syn (G : Hd) (D : Dk) (n : Nat) : Prop := (D.own n 0 = zeroB 1024 ∧ G.same zeroHd = true) ∨ ∃ H, HdOk n H ∧ G.same H = true ∧ D.own n 0 = H.bytes
def Told (D : Dk) (n : Nat) (H : Hd) : Prop := (D.own n 0 = zeroB 1024 ∧ H = zeroHd) ∨ (D.own n 0 ≠ zeroB 1024 ∧ OkHead (D.own n 0) n ∧ H = headOf (D.own n 0))
theorem Syn.ok {G : Hd} (S : Syn G D n) (h1 : D.own n 0 ≠ zeroB 1024) (h2 : ¬ OkHead (D.own n 0) n) : False := by
  rcases S with ⟨e, _⟩ | ⟨H, O, _, e⟩
  · exact h1 e
  · rw [e] at h2; exact h2 (head_dec O).1
theorem Syn.told {G H : Hd} (S : Syn G D n) (T : Told D n H) : G.same H = true := by
  rcases S with ⟨e, hs⟩ | ⟨H2, O, hs, e⟩
  · rcases T with ⟨_, rfl⟩ | ⟨h, _⟩
    · exact hs
    · exact absurd e h
  · rcases T with ⟨h, _⟩ | ⟨_, _, rfl⟩
    · rw [e] at h; exact absurd h (bytes_ne _)
    · rw [e]; exact same_trans hs (same_symm (head_dec O).2)
theorem Syn.same {G G' : Hd} (S : Syn G D n) (h : G'.same G = true) : Syn G' D n := by
  rcases S with ⟨e, hs⟩ | ⟨H, O, hs, e⟩
  · exact .inl ⟨e, same_trans h hs⟩
  · exact .inr ⟨H, O, same_trans h hs, e⟩
/-! ### along steps -/
structure Wl (n : Nat) (P : Pg) (D : Dk) (m : Nat) : Prop where
  syn : Syn P.good D n
  bg : P.good.s ≤ m
  bn : P.now.s ≤ m
  bp : ∀ q ∈ P.pts, q.1.s ≤ m
  mark : D.read 0 = zeroB 256
theorem chg_same (h : P.chg D n = []) : P.now.same P.good = true := by
  unfold Pg.chg at h
  have := (List.append_eq_nil_iff.1 h).1
  cases e : P.now.same P.good with
  | true => rfl
  | false => rw [e] at this; cases this
theorem chg_diff (h : P.chg D n = []) {i : Nat} (hi : i < n) : P.diff D n i = false := by
  unfold Pg.chg at h
  have := (List.append_eq_nil_iff.1 h).2
  cases e : P.diff D n i with
  | false => rfl
  | true =>
    have hm : i ∈ (List.range n).filter (P.diff D n) := List.mem_filter.2 ⟨List.mem_range.2 hi, e⟩
    rw [this] at hm; cases hm
theorem commit_upd {D : Dk} (hD : DOn D) (ok : DOk n P.d) (h1 : 1 ≤ n) (hl : 8 * n + 1 ≤ D.l.length) : (commitD n D (P.cs D n)).1.own n 0 = P.now.up.bytes ∧ (commitD n D (P.cs D n)).1.read 0 = zeroB 256 := by
  obtain ⟨c1, c2, _⟩ := cs_ok (P := P) (D := D) ok h1
  obtain ⟨_, _, _, _, _, r6, r7⟩ := commit_own (n := n) (ds := P.cs D n) hD.1 hD.2.1 hD.2.2 (fun c hc => ⟨(c1 c hc).2, (c1 c hc).1⟩) hl
  exact ⟨by rw [r7]; exact updP_mem (List.mem_cons_self) c2, r6 (by omega)⟩
theorem Wl.step {P' : Pg} {D' : Dk} {o : Int} {m : Nat} (W : Wl n P D m) (t : Tr n P D o P' D') (ho : o ≠ 8) (ok : POk n P) (hD : DOn D) (h1 : 1 ≤ n) (hl : 8 * n + 1 ≤ D.l.length) : Wl n P' D' (m + 1) := by
  have le : ∀ {a : Nat}, a ≤ m → a ≤ m + 1 := fun h => by omega
  have lp : ∀ q ∈ P.pts, q.1.s ≤ m + 1 := fun q hq => le (W.bp q hq)
  cases t with
  | same => exact ⟨W.syn, le W.bg, le W.bn, lp, W.mark⟩
  | alloc => exact ⟨W.syn, le W.bg, le W.bn, lp, W.mark⟩
  | give => exact ⟨W.syn, le W.bg, le W.bn, lp, W.mark⟩
  | write => exact ⟨W.syn, le W.bg, le W.bn, lp, W.mark⟩
  | point => exact ⟨W.syn, le W.bg, le W.bn, lp, W.mark⟩
  | save =>
    refine ⟨W.syn, le W.bg, le W.bn, fun q hq => ?_, W.mark⟩
    rcases List.mem_append.1 hq with h | h
    · exact lp q h
    · rw [List.mem_singleton.1 h]; exact le W.bn
  | back k q hq => exact ⟨W.syn, le W.bg, le (W.bp q (List.mem_of_getElem? hq)), fun q hq => lp q (List.mem_of_mem_take hq), W.mark⟩
  | commit0 hc => exact ⟨W.syn.same (chg_same hc), le W.bn, le W.bn, (fun q hq => by cases hq), W.mark⟩
  | commit1 hc hs =>
    obtain ⟨u1, u2⟩ := commit_upd (P := P) hD ok.d h1 hl
    exact ⟨.inr ⟨P.now.up, ok.now.up hs, same_refl _, u1⟩, by show P.now.s + 1 ≤ m + 1; have := W.bn; omega, by show P.now.s + 1 ≤ m + 1; have := W.bn; omega, (fun q hq => by cases hq), u2⟩
  | abort => exact ⟨W.syn, le W.bg, le W.bg, (fun q hq => by cases hq), W.mark⟩
  | fresh => exact absurd rfl ho
theorem Tr.six {P' : Pg} {D' : Dk} {o : Int} (t : Tr n P D o P' D') (ho : o < 6) : D' = D ∧ P'.good = P.good := by
  cases t with
  | same => exact ⟨rfl, rfl⟩
  | alloc => exact ⟨rfl, rfl⟩
  | give => exact ⟨rfl, rfl⟩
  | write => exact ⟨rfl, rfl⟩
  | point => exact ⟨rfl, rfl⟩
  | save => exact ⟨rfl, rfl⟩
  | back => exact ⟨rfl, rfl⟩
  | commit0 => exact absurd ho (by decide)
  | commit1 => exact absurd ho (by decide)
  | abort _ h => rcases h with rfl | rfl <;> exact absurd ho (by decide)
  | fresh => exact absurd ho (by decide)
/-! ### what is told behind a failure -/
def newOf (H : Hd) : Pg := ⟨H, H, [], []⟩
theorem page_eq (ok : DOk n P.d) {i : Nat} (h : P.diff D n i = false) : P.page D n i = D.own n i := by
  unfold Pg.page
  unfold Pg.diff at h
  cases e : dget P.d i with
  | none => rfl
  | some s =>
    rw [e] at h
    have : D.own n i = s := by simpa using h
    rw [this]; rfl
theorem stD_used {i : Nat} (h1 : 0 < i) (h2 : i < n) (hu : P.now.u i = true) : P.stD D n i = P.page D n i := by
  unfold Pg.stD
  rw [if_pos (why_i h1 h2 hu)]
theorem eqv_of {P Q : Pg} {D D' : Dk} {ua da ua' da' : Option Addr} {uc dc uc' dc' s : Nat} (hn : n ≤ 128) (hu : ∀ i, i < 128 → Q.now.u i = P.now.u i) (hr : ∀ k, k < 4 → Q.now.r k = P.now.r k) (hs : Q.now.s = s) (hp : ∀ i, 0 < i → i < n → P.now.u i = true → Q.page D' n i = P.page D n i) :
    Eqv (Q.rs D' n ua' uc' da' dc') { P.rs D n ua uc da dc with s := s } := by
  refine ⟨List.map_congr_left fun i hi => hu i (by have := List.mem_range.1 hi; omega), fun i h0 hi => ?_, hr, hs⟩
  have hi : ((List.range n).map Q.now.u)[i]? = some true := hi
  show ((List.range n).map (Q.stD D' n))[i]? = ((List.range n).map (P.stD D n))[i]?
  rw [List.getElem?_map] at hi
  obtain ⟨j, hj, hj2⟩ := Option.map_eq_some_iff.1 hi
  have hin : i < n := by
    have := (List.getElem?_eq_some_iff.1 hj).1
    rw [List.length_range] at this; exact this
  rw [List.getElem?_range hin] at hj
  cases hj
  rw [List.getElem?_map, List.getElem?_map, List.getElem?_range hin]
  show some (Q.stD D' n i) = some (P.stD D n i)
  have hup := hj2
  rw [hu i (by omega)] at hup
  rw [stD_used h0 hin hj2, stD_used h0 hin hup, hp i h0 hin hup]
/-- All is new. -/
theorem whole_new {D' : Dk} {H : Hd} {ua da ua' da' : Option Addr} {uc dc uc' dc' : Nat} (ok : POk n P) (hn : n ≤ 128) (h1 : 1 ≤ n) (hs : P.now.s < 9223372036854775807) (ho : ∀ p, D'.own n p = updP (P.cs D n) p (D.own n p)) (T : Told D' n H) :
    Eqv ((newOf H).rs D' n ua' uc' da' dc') { P.rs D n ua uc da dc with s := P.now.s + 1 } := by
  obtain ⟨c1, c2, _⟩ := cs_ok (P := P) (D := D) ok.d h1
  have h0 : D'.own n 0 = P.now.up.bytes := by rw [ho]; exact updP_mem List.mem_cons_self c2
  have sy : Syn P.now.up D' n := .inr ⟨P.now.up, ok.now.up hs, same_refl _, h0⟩
  obtain ⟨s1, s2, s3⟩ := Hd.same_eq.1 (sy.told T)
  refine eqv_of hn (fun i hi => (s3 i hi).symm) (fun k hk => (s2 k hk).symm) s1.symm fun i hi hin hu => ?_
  show D'.own n i = _
  rw [ho]
  cases hd : P.diff D n i with
  | true =>
    obtain ⟨_, _, s, hsd, _⟩ := diff_pos ok.d hd
    have hm : (i, s) ∈ P.cs D n := by
      refine List.mem_cons_of_mem _ ?_
      rw [chg_filter ok.d]
      exact List.mem_map.2 ⟨i, List.mem_filter.2 ⟨List.mem_range.2 hin, hd⟩, by unfold Pg.pair; rw [hsd]; rfl⟩
    rw [updP_mem hm c2]
    unfold Pg.page
    rw [hsd]; rfl
  | false =>
    rw [page_eq ok.d hd]
    refine updP_none fun c hc e => ?_
    rcases List.mem_cons.1 hc with rfl | hc
    · have : 0 = i := e
      omega
    · rw [chg_filter ok.d] at hc
      obtain ⟨j, hj, rfl⟩ := List.mem_map.1 hc
      have e : j = i := e
      rw [e] at hj
      have := (List.mem_filter.1 hj).2
      rw [hd] at this; cases this
/-- All is as it was. -/
theorem whole_old {D' : Dk} {G H : Hd} {ua da ua' da' : Option Addr} {uc dc uc' dc' : Nat} (hn : n ≤ 128) (h1 : 1 ≤ n) (sy : Syn G D n) (ho : ∀ p, D'.own n p = D.own n p) (T : Told D' n H) :
    Eqv ((newOf H).rs D' n ua' uc' da' dc') ((Pg.reset G).rs D n ua uc da dc) := by
  have sy' : Syn G D' n := by
    unfold Syn at sy ⊢
    rw [ho 0]; exact sy
  obtain ⟨s1, s2, s3⟩ := Hd.same_eq.1 (sy'.told T)
  exact eqv_of (P := Pg.reset G) (s := G.s) hn (fun i hi => (s3 i hi).symm) (fun k hk => (s2 k hk).symm) s1.symm fun i hi hin hu => ho i
/-- Nothing was to be changed. -/
theorem whole_same {D' : Dk} {H : Hd} {ua da ua' da' : Option Addr} {uc dc uc' dc' : Nat} (ok : POk n P) (hn : n ≤ 128) (h1 : 1 ≤ n) (hc : P.chg D n = []) (sy : Syn P.good D n) (ho : ∀ p, D'.own n p = D.own n p) (T : Told D' n H) :
    Eqv ((newOf H).rs D' n ua' uc' da' dc') (P.rs D n ua uc da dc) := by
  have sy' : Syn P.good D' n := by
    unfold Syn at sy ⊢
    rw [ho 0]; exact sy
  obtain ⟨s1, s2, s3⟩ := Hd.same_eq.1 (same_trans (chg_same hc) (sy'.told T))
  exact eqv_of (P := P) (s := P.now.s) hn (fun i hi => (s3 i hi).symm) (fun k hk => (s2 k hk).symm) s1.symm fun i hi hin hu => by
    rw [page_eq ok.d (chg_diff hc hin)]
    exact ho i
end Go.Proofs.YtagglohkipioiaaGreat
