/- A table that has no room refuses: CasFull over heaps. Conditions: none beyond the argument's reading. -/
import Derived.Test.YtpokejaglmkphaaC5
namespace Go.Proofs.Ytpokejaglmkphaa
open Go.Gx
set_option maxRecDepth 100000
set_option linter.unusedVariables false
variable {h : Hp} {sb tb width : Nat} {full : Int} {X : List KV} {l : List Ct} {K : Value → Hp → Prop}
theorem CasAt.cell (C : CasAt h sb tb width full X l) : ∃ a c, h.cell tb 0 = some (.slice a (l.length + X.length) c) := by
  obtain ⟨⟨L, S, R⟩, w1, w2⟩ := C
  obtain ⟨a, c, h1, _⟩ := S.table
  exact ⟨a, c, by rw [← R.length]; exact h1.cell' 0 rfl⟩
def isD (l : List Ct) (dg d : ByteArray) (n : Nat) : Bool := match findC l dg n with
  | some c => decide (c.data = d)
  | none => false
theorem there_iff (ok : CtsOk width l) (d : ByteArray) : (findN l (digest d width)).any (isD l (digest d width) d) = true ↔ ∃ c ∈ l, c.data = d := by
  rw [List.any_eq_true]
  constructor
  · rintro ⟨n, hn, hd⟩
    unfold isD at hd
    split at hd
    · rename_i c hc
      exact ⟨c, (findC_mem hc).1, of_decide_eq_true hd⟩
    · cases hd
  · rintro ⟨c, hc, e⟩
    have hs := ok.sum c hc
    rw [e] at hs
    have hf := findC_some ok hc
    rw [hs] at hf
    refine ⟨c.n, ?_, ?_⟩
    · unfold findN
      rw [List.mem_filter, List.mem_range, hf]
      exact ⟨ok.n c hc, rfl⟩
    · unfold isD
      rw [hf]
      exact decide_eq_true e
theorem take_any {α : Type} (p : α → Bool) (L : List α) (j : Nat) (x : α) (hx : L[j]? = some x) : (L.take (j + 1)).any p = ((L.take j).any p || p x) := by
  rw [List.take_add_one, hx, List.any_append]
  simp
theorem full_core (width full : Int) (la : Option Addr) (lc : Nat) (ds : List ByteArray) (hr : RowAt strC 1 h la ds) :
    CallsH Try.prog 4 #[.int .i64 width, .int .i64 full, .slice la ds.length lc] h fun v h' => v = .bool true ∧ Sub h h' := by
  have str : ∀ {x : Hp} {i : Nat} {s : ByteArray}, Sub h x → ds[i]? = some s → ∃ b o, la = some ⟨b, o, none⟩ ∧ x.cell b (o + i * 1) = some (.string s) := fun s hs => by
    obtain ⟨b, o, e, hc⟩ := (hr.sub s).get strC_len (by decide) hs
    exact ⟨b, o, e, hc 0 _ rfl⟩
  have live : ∀ {x : Hp}, Sub h x → CallsH Try.prog 10 #[] x (fun v y => ∃ b, v = .bool b ∧ (fun (v : Value) (h' : Hp) => v = .bool true ∧ Sub h h') (.bool b) y) := fun s => lives_spec fun z2 s2 => ⟨_, rfl, rfl, s.trans s2⟩
  apply law09_CasFull.calls
  unfold law09_CasFull.W
  intro k hk
  refine casNew0_spec hk full width (fun e h1 s1 => ⟨_, _, rfl, fun _ => False, fun x hx => hx.elim, split_ne (fun _ => split_eq (fun _ => live s1) (fun _ => split_cond (fun _ => live s1) fun e => by cases e)) fun e => by cases e⟩) fun w ew w1 w2 sb h1 s1 C => ⟨_, _, rfl, fun x => x = h1 ∧ 0 ≤ full ∧ full ≤ 40, ?_,
    split_ne (fun e => absurd rfl e) (fun _ => split_dec (fun _ => split_eq (fun _ => live s1) fun e => absurd rfl e) (fun g1 => split_dec (fun _ => split_eq (fun _ => live s1) fun e => absurd rfl e) fun g2 => ⟨rfl, by omega, by omega⟩))⟩
  rintro x ⟨rfl, f1, f2⟩
  refine ⟨fun n y m => ∃ (i : Nat) (cts : List Ct), n = (i : Int) ∧ i ≤ 40 ∧ i ≤ ds.length ∧ m = 40 - i ∧ CasAt y sb k w full [] cts ∧ Sub h y ∧ (∀ c ∈ cts, c.refs ≤ i) ∧ cts.length ≤ i, ⟨_, 0, [], rfl, by decide, by omega, rfl, C, s1, (fun c hc => by cases hc), by decide⟩, ?_⟩
  rintro n y m ⟨i, cts, rfl, hi40, hil, rfl, Cy, sy, hrf, hln⟩
  refine split_dec (fun g => split_dec (fun g2 => ?_) fun g2 => live sy) fun g => live sy
  have g : i < ds.length := by have : (i : Int) < (ds.length : Int) := g; omega
  have hd : ds[i]? = some ds[i] := List.getElem?_eq_getElem g
  generalize ds[i] = d at hd
  obtain ⟨b1, o1, ea1, hc1⟩ := str sy hd
  refine ⟨by omega, by show (i : Int) < (ds.length : Int); omega, b1, o1, ea1, _, hc1, split_dec (fun _ => live sy) fun gs => ?_⟩
  have gs : d.size ≤ 128 := by have : ¬ ((d.size : Nat) : Int) > 128 := gs; omega
  obtain ⟨ta, tc, ht⟩ := Cy.cell
  refine ⟨_, _, _, ht, by omega, by show (i : Int) < (ds.length : Int); omega, b1, o1, ea1, _, hc1, digest_spec Cy d (by omega) fun x1 s1 => ⟨_, rfl, find_spec (Cy.sub s1) (by simp; omega) _ fun x2 a c N => ⟨_, _, _, rfl, ?_⟩⟩⟩
  have hids : (idsN cts (digest d w)).length = (findN cts (digest d w)).length := by unfold idsN; rw [List.length_map]
  have fl := findN_length cts (digest d w)
  rw [hids]
  refine ⟨fun b n z m => ∃ j : Nat, n = (j : Int) ∧ j ≤ (findN cts (digest d w)).length ∧ m = (findN cts (digest d w)).length - j ∧ b = ((findN cts (digest d w)).take j).any (isD cts (digest d w) d) ∧ Sub x2 z, ⟨_, 0, rfl, by omega, rfl, rfl, Sub.refl _⟩, ?_⟩
  rintro b n z m ⟨j, rfl, hj, rfl, rfl, sz⟩
  have syz : Sub y z := (s1.trans N.sub).trans sz
  obtain ⟨b2, o2, ea2, hc2⟩ := str (sy.trans syz) hd
  refine split_dec (fun g3 => ?_) (fun g3 => ?_)
  · have g3 : j < (findN cts (digest d w)).length := by have : (j : Int) < ((findN cts (digest d w)).length : Int) := g3; omega
    have hn : (findN cts (digest d w))[j]? = some (findN cts (digest d w))[j] := List.getElem?_eq_getElem g3
    generalize (findN cts (digest d w))[j] = q at hn
    have hid : (idsN cts (digest d w))[j]? = some (digest d w, (q : Int)) := by unfold idsN; rw [List.getElem?_map, hn]; rfl
    obtain ⟨bb, o, ea, hc⟩ := (N.own.row.sub sz).get idC_len (by decide) hid
    refine ⟨by omega, by show (j : Int) < ((findN cts (digest d w)).length : Int); omega, bb, o, ea, _, hc 0 _ rfl, _, hc 1 _ rfl, get_spec (Cy.sub syz) (by simp; omega) _ _ fun z2 s2 => ⟨_, _, rfl, ?_⟩⟩
    have hany := take_any (isD cts (digest d w) d) _ j q hn
    refine split_cond (fun e => ⟨_, ?_, j + 1, by rw [wid (by omega) (by omega)]; omega, by omega, rfl, ?_, sz.trans s2⟩) (fun e => ?_)
    · omega
    · rw [hany, e]; rfl
    · obtain ⟨b3, o3, ea3, hc3⟩ := str ((sy.trans syz).trans s2) hd
      refine ⟨by omega, by show (i : Int) < (ds.length : Int); omega, b3, o3, ea3, _, hc3, _, ?_, j + 1, by rw [wid (by omega) (by omega)]; omega, by omega, rfl, ?_, sz.trans s2⟩
      · omega
      · rw [hany, e, beqS_val]
        obtain ⟨_, hsome⟩ := findN_lt (List.mem_of_getElem? hn)
        obtain ⟨ct, hct⟩ := Option.isSome_iff_exists.1 hsome
        unfold isD
        rw [hct]; rfl
  · have : j = (findN cts (digest d w)).length := by
      have : ¬ (j : Int) < ((findN cts (digest d w)).length : Int) := g3
      omega
    subst this
    rw [List.take_length]
    have hth := there_iff Cy.ok (l := cts) d
    generalize (findN cts (digest d w)).any (isD cts (digest d w) d) = th at hth
    have hlen0 : cts.length + ([] : List KV).length = cts.length := rfl
    refine ⟨by omega, by show (i : Int) < (ds.length : Int); omega, b2, o2, ea2, _, hc2, put_spec (Cy.sub syz) (by simp; omega) d gs ⟨fun q ct hq he _ z2 k2 C2 => ?_, fun q ct hq _ e2 => ?_, fun hn _ hroom z2 k2 C2 => ?_, fun hn hfull z2 s2 => ?_⟩⟩
    · have e : th = true := hth.2 ⟨ct, List.mem_of_getElem? hq, he⟩
      subst e
      obtain ⟨ta2, tc2, ht2⟩ := C2.cell
      have hl2 := (withC_data hq (show 0 < ct.refs + 1 by omega)).2.2
      rw [hl2] at ht2
      refine ⟨_, _, _, rfl, split_cond (fun _ => split_ne (fun e => absurd rfl e) fun _ => ⟨_, _, _, ht2, split_ne (fun e => absurd rfl e) fun _ => split_cond (fun e => by cases e) fun _ => split_ne (fun e => absurd rfl e) fun _ => ⟨_, ?_, i + 1, _, by rw [wid (by omega) (by omega)]; omega, by omega, by omega, rfl, C2, k2.sub (sy.trans syz) (fun b hb => by rw [hb]; exact hk), ?_, by omega⟩⟩) fun e => by cases e⟩
      · omega
      · exact (PutStep.old (width := w) q ct hq he).refs_le Cy.ok hrf
    · have := hrf ct (List.mem_of_getElem? hq); omega
    · have e : th = false := by
        cases ht : th with
        | false => rfl
        | true => obtain ⟨ct, h1, h2⟩ := hth.1 ht; exact absurd h2 (hn ct h1)
      subst e
      have hroom : (cts.length : Int) < full := by
        rcases hroom with h | h
        · omega
        · exact h
      refine ⟨_, _, _, rfl, split_cond (fun e => by cases e) fun _ => split_cond (fun _ => ?_) fun e => by cases e⟩
      have e1 : (!(hb (((0 : Int)) == 0) == hb (decide (Int.ofNat (cts.length + ([] : List KV).length) < full)))) = false := by
        rw [hb_eq, hb_eq, decide_eq_true (show Int.ofNat (cts.length + ([] : List KV).length) < full from hroom)]; rfl
      refine split_cond (fun e => ?_) (fun _ => split_ne (fun e => absurd rfl e) fun _ => ⟨_, ?_, i + 1, _, by rw [wid (by omega) (by omega)]; omega, by omega, by omega, rfl, C2, k2.sub (sy.trans syz) (fun b hb => by rw [hb]; exact hk), ?_, ?_⟩)
      · exact absurd (e.symm.trans e1) (by decide)
      · omega
      · exact (PutStep.new (width := w) _ hn).refs_le Cy.ok hrf
      · rw [List.length_append]; simp; omega
    · have e : th = false := by
        cases ht : th with
        | false => rfl
        | true => obtain ⟨ct, h1, h2⟩ := hth.1 ht; exact absurd h2 (hn ct h1)
      subst e
      have hfull : full ≤ (cts.length : Int) := by
        rcases hfull with h | ⟨_, h⟩
        · have := free_le (l := cts) (digest d w)
          omega
        · exact h
      refine ⟨_, _, _, rfl, split_cond (fun e => by cases e) fun _ => split_cond (fun _ => ?_) fun e => by cases e⟩
      have e1 : (!(hb (((5 : Int)) == 0) == hb (decide (Int.ofNat (cts.length + ([] : List KV).length) < full)))) = false := by
        rw [hb_eq, hb_eq, decide_eq_false (show ¬ Int.ofNat (cts.length + ([] : List KV).length) < full from by show ¬ ((cts.length : Nat) : Int) < full; omega)]; rfl
      have C2 := (Cy.sub syz).sub s2
      obtain ⟨ta2, tc2, ht2⟩ := C2.cell
      refine split_cond (fun e => ?_) (fun _ => split_ne (fun _ => split_ne (fun e => absurd rfl e) fun _ => ⟨_, _, _, ht2, split_ne (fun e => absurd rfl e) fun _ => ⟨_, ?_, i + 1, _, by rw [wid (by omega) (by omega)]; omega, by omega, by omega, rfl, C2, (sy.trans syz).trans s2, fun c hc => Nat.le_succ_of_le (hrf c hc), by omega⟩⟩) fun e => by cases e)
      · exact absurd (e.symm.trans e1) (by decide)
      · omega
end Go.Proofs.Ytpokejaglmkphaa
