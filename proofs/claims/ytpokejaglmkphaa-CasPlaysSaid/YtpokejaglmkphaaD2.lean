/- The document's Put; is the store as the document's contents are; which ID a step is about. Conditions: rows of at most 100. -/
import Derived.Test.YtpokejaglmkphaaD1
namespace Go.Proofs.Ytpokejaglmkphaa
open Go.Gx
set_option maxRecDepth 100000
set_option linter.unusedVariables false
variable {h : Hp} {K : Value → Hp → Prop} {a : Option Addr} {c : Nat} {l : List Ct} {width : Nat}
theorem idx_data (ok : CtsOk width l) {i j : Nat} {x y : Ct} (hi : l[i]? = some x) (hj : l[j]? = some y) (e : x.data = y.data) : i = j := by
  have h1 := List.getElem?_eq_some_iff.1 hi
  have h2 := List.getElem?_eq_some_iff.1 hj
  obtain ⟨l1, v1⟩ := h1
  obtain ⟨l2, v2⟩ := h2
  have o := List.pairwise_iff_getElem.1 ok.data
  rcases Nat.lt_trichotomy i j with g | g | g
  · exact absurd (by rw [v1, v2]; exact e) (o i j l1 l2 g)
  · exact g
  · exact absurd (by rw [v1, v2]; exact e.symm) (o j i l2 l1 g)
theorem idx_id (ok : CtsOk width l) {i j : Nat} {x y : Ct} (hi : l[i]? = some x) (hj : l[j]? = some y) (e : x.id = y.id) : i = j := by
  obtain ⟨l1, v1⟩ := List.getElem?_eq_some_iff.1 hi
  obtain ⟨l2, v2⟩ := List.getElem?_eq_some_iff.1 hj
  have o := List.pairwise_iff_getElem.1 ok.id
  have e1 : x.sum = y.sum := congrArg Prod.fst e
  have e2 : x.n = y.n := by have := congrArg Prod.snd e; unfold Ct.id at this; simp at this; omega
  rcases Nat.lt_trichotomy i j with g | g | g
  · exact absurd ⟨by rw [v1, v2]; exact e1, by rw [v1, v2]; exact e2⟩ (o i j l1 l2 g)
  · exact g
  · exact absurd ⟨by rw [v1, v2]; exact e1.symm, by rw [v1, v2]; exact e2.symm⟩ (o j i l2 l1 g)
theorem free_facts (hl : l.length ≤ 100) (sum : ByteArray) : freeF (findN l sum) ≤ 100 ∧ (∀ m, m < freeF (findN l sum) → (findC l sum (m : Nat)).isSome = true) ∧ findC l sum (freeF (findN l sum) : Nat) = none := by
  have h1 := free_le (l := l) sum
  obtain ⟨h2, h3, h4⟩ := freeF_law (fun n => (findC l sum (n : Nat)).isSome) 256
  refine ⟨by omega, h3, ?_⟩
  have := h4 (by have : freeF (findN l sum) ≤ l.length := h1; unfold findN at this; omega)
  exact Option.isNone_iff_eq_none.1 (by unfold findN; rw [← Option.not_isSome, this]; rfl)
theorem putR_spec (ok : CtsOk width l) (H : RowAt ctC 4 h a l) (hc : l.length ≤ c) (hl : l.length ≤ 100) (hr : ∀ e ∈ l, e.refs < 2147483648) (data : ByteArray) (hd : data.size < 1152921504606846976) (hw : width ≤ 32)
    (h0 : data.size > 128 → K (.tuple #[.slice a l.length c, idV noId, .int .i64 2]) h)
    (h1 : ∀ (i : Nat) (d : Ct), l[i]? = some d → d.data = data → data.size ≤ 128 → ∀ h' a' c', NewR ctC 4 tCt h h' a' c' (withC l i (d.refs + 1)) → K (.tuple #[.slice a' (withC l i (d.refs + 1)).length c', idV d.id, .int .i64 0]) h')
    (h2 : (∀ e ∈ l, e.data ≠ data) → data.size ≤ 128 → ∀ h' a' c', NewR ctC 4 tCt h h' a' c' (l ++ [⟨digest data width, freeF (findN l (digest data width)), 1, data⟩]) →
      K (.tuple #[.slice a' (l ++ [(⟨digest data width, freeF (findN l (digest data width)), 1, data⟩ : Ct)]).length c', idV (digest data width, (freeF (findN l (digest data width)) : Nat)), .int .i64 0]) h') :
    CallsH Try.prog ref09_Put.id #[.slice a l.length c, .string data, .int .i64 (width : Nat)] h K := by
  apply ref09_Put.calls
  unfold ref09_Put.W
  refine split_dec (fun e => h0 (by have e : ((data.size : Nat) : Int) > 128 := e; omega)) fun e => ?_
  have h128 : data.size ≤ 128 := by have e : ¬ ((data.size : Nat) : Int) > 128 := e; omega
  refine ⟨fun i s n x m => x = h ∧ ∃ j : Nat, i = (j : Int) ∧ j ≤ l.length ∧ m = l.length - j ∧ s = bytesL [] ∧ n = 0 ∧ ∀ k, k < j → ∀ d, l[k]? = some d → d.data ≠ data, ⟨_, rfl, 0, rfl, by omega, rfl, rfl, rfl, fun k hk => by omega⟩, ?_⟩
  rintro i s n x m ⟨rfl, j, rfl, hj, rfl, rfl, rfl, hno⟩
  refine split_dec (fun g => ?_) fun g => ?_
  · have g : j < l.length := by have : (j : Int) < (l.length : Int) := g; omega
    have hjd : l[j]? = some l[j] := List.getElem?_eq_getElem g
    generalize l[j] = d at hjd
    obtain ⟨b, o, ea, hcell⟩ := H.get ctC_len (by decide) hjd
    have hjl : (j : Int) < Int.ofNat l.length := by show (j : Int) < (l.length : Int); omega
    have hrd := hr d (List.mem_of_getElem? hjd)
    refine ⟨by omega, hjl, b, o, ea, _, hcell 3 _ rfl, split_beqS (fun e => ?_) fun e => ⟨_, ?_, rfl, j + 1, by rw [wid (by omega) (by omega)]; omega, by omega, rfl, rfl, rfl, fun k hk d' hd' => ?_⟩⟩
    · have w : IntKind.i64.wrap ((d.refs : Int) + 1) = ((d.refs + 1 : Nat) : Int) := by rw [wid (by omega) (by omega)]; omega
      refine ⟨by omega, hjl, b, o, ea, _, hcell 2 _ rfl, by omega, hjl, b, o, ea, _, hcell 0 _ rfl, _, hcell 1 _ rfl, ?_⟩
      rw [w]
      exact with_spec H hc (by omega) hjd (d.refs + 1) fun h' a' c' N => ⟨_, _, _, rfl, N.sub, h1 j d hjd e h128 h' a' c' N⟩
    · omega
    · by_cases ek : k = j
      · subst ek; rw [hjd] at hd'; cases hd'; exact e
      · exact hno k (by omega) d' hd'
  · have hjl : j = l.length := by
      have : ¬ (j : Int) < (l.length : Int) := g
      omega
    have hnone : ∀ e ∈ l, e.data ≠ data := fun e he => by
      obtain ⟨k, hk⟩ := List.mem_iff_getElem?.1 he
      exact hno k (by rw [hjl]; exact (List.getElem?_eq_some_iff.1 hk).1) e hk
    refine digestR_spec data hd hw fun h1' s1 => ⟨_, rfl, ?_⟩
    obtain ⟨f1, f2, f3⟩ := free_facts hl (digest data width)
    have h2 := h2 hnone h128
    generalize freeF (findN l (digest data width)) = F at *
    generalize digest data width = dg at *
    refine ⟨fun s n y m => y = h1' ∧ s = dg ∧ ∃ q : Nat, n = (q : Int) ∧ q ≤ F ∧ m = F - q, ⟨_, rfl, rfl, 0, rfl, by omega, rfl⟩, ?_⟩
    rintro s n y m ⟨rfl, rfl, q, rfl, hq, rfl⟩
    have H1 := H.sub s1
    refine atR_spec H1 (by omega) _ _ ⟨_, rfl, ?_⟩
    by_cases hqF : q = F
    · subst hqF
      rw [atV_none f3]
      refine split_dec (fun e => absurd e (by decide)) fun _ => split_dec (fun e => by omega) fun _ => ?_
      refine ⟨rowC ctC l, H1, fun a4 c4 x4 => NewR ctC 4 tCt x x4 a4 c4 l, fun a4 c4 x4 N4 => ⟨x, N4.sub, fun k hk => ⟨N4.sub.trans (Sub.upd hk _), ctC ⟨s, q, 1, data⟩, (Blk.new _ _ _ (ctC ⟨s, q, 1, data⟩)).slice rfl, fun a5 c5 x5 => NewR ctC 4 tCt x x5 a5 c5 (l ++ [⟨s, q, 1, data⟩]), fun a5 c5 x5 N5 => ⟨N5.sub, ?_⟩, ?_⟩⟩, ?_⟩
      · have := h2 x5 a5 c5 N5
        rw [List.length_append] at this
        rw [Nat.zero_add]
        exact this
      · exact append_row appTCt ctC_len ctC_plain (M := [(⟨s, q, 1, data⟩ : Ct)]) (N4.upd (Sub.upd hk _)) (Nat.zero_add _) rfl (rowC_one _).symm (by simp; omega) fun a5 c5 x5 N5 => N5
      · refine append_row appTCt ctC_len ctC_plain (M := l) ((NewR.nil (f := ctC) (sz := 4) tCt x).upd s1) rfl rfl rfl (by simp; omega) fun a4 c4 x4 N4 => ?_
        rwa [List.nil_append] at N4
    · have hsome := f2 q (by omega)
      obtain ⟨d, hd'⟩ := Option.isSome_iff_exists.1 hsome
      rw [(atC_get hd').2]
      refine split_dec (fun _ => ⟨_, ?_, rfl, rfl, q + 1, by rw [wid (by omega) (by omega)]; omega, by omega, rfl⟩) fun e => absurd (by omega) e
      omega
theorem putLong_spec {sb : Nat} (data : ByteArray) (hd : data.size > 128) (hK : K (.tuple #[idV noId, .int .i64 2]) h) : CallsH Try.prog cas_Store_Put.id #[.pointer (some ⟨sb, 0, none⟩), .string data] h K := by
  apply cas_Store_Put.calls
  unfold cas_Store_Put.W
  exact split_dec (fun _ => hK) fun e => absurd (by show ((data.size : Nat) : Int) > 128; omega) e
theorem alikeC_spec {sb tb : Nat} (C : CasAt h sb tb width (-1) [] l) (H : RowAt ctC 4 h a l) (hl : l.length ≤ 100) (sum : ByteArray) (n : Int) (hK : ∀ h', Sub h h' → K (.bool true) h') :
    CallsH Try.prog law09_alike.id #[.pointer (some ⟨sb, 0, none⟩), .slice a l.length c, .agg #[.string sum, .int .i64 n], .int .i64 (width : Nat)] h K := by
  apply law09_alike.calls
  unfold law09_alike.W
  have hl2 : l.length + ([] : List KV).length < 4294967295 := by simp; omega
  have hl3 : l.length + ([] : List KV).length < 1073741824 := by simp; omega
  refine get_spec C hl2 sum n fun h1 s1 => ⟨_, _, rfl, atR_spec (H.sub s1) (by omega) sum n ⟨_, rfl, fun x => Sub h1 x, ?_, ?_⟩⟩
  · intro x sx
    have s2 := s1.trans sx
    refine count_spec (C.sub s2) hl3 fun h2 s3 => ⟨_, _, rfl, countR_spec (H.sub (s2.trans s3)) (by omega) C.ok.size ⟨_, _, rfl, fun a' l' c' y => l' = (idsN l sum).length ∧ RowAt idC 2 y a' (idsN l sum) ∧ Sub h2 y, ?_, ?_⟩⟩
    · rintro a' l' c' y ⟨rfl, R, sy⟩
      have s4 := (s2.trans s3).trans sy
      refine split_eq (fun _ => split_eq (fun _ => find_spec (C.sub s4) hl2 sum fun h5 a5 c5 N5 => ⟨_, _, _, rfl, same_spec N5.own.row (R.sub N5.sub) ?_ ⟨_, rfl, hK h5 (s4.trans N5.sub)⟩⟩) fun e => absurd rfl e) fun e => absurd rfl e
      have := findN_length l sum
      unfold idsN
      rw [List.length_map]; omega
    · refine split_eq (fun e => findR_spec (H.sub (s2.trans s3)) (by omega) sum fun h5 a5 c5 N5 => ⟨_, _, _, rfl, rfl, N5.own.row, N5.sub⟩) fun e => ?_
      have e0 : idsN l sum = [] := by unfold idsN; rw [findN_none C fun h => e (by show ((sum.size : Nat) : Int) = (width : Int); omega)]; rfl
      rw [e0]
      exact ⟨rfl, RowAt.nil _ _, Sub.refl _⟩
  · cases hf : findC l sum n with
    | none =>
      rw [atV_none hf]
      have e1 : hb (decide ((-1 : Int) ≥ 0)) = false := by rw [hb_eq]; rfl
      have e2 : beqS ((Option.map Ct.data (none : Option Ct)).getD noB) (bytesL []) = true := by rw [beqS_val]; exact decide_eq_true rfl
      rw [e1, e2]
      refine split_cond (fun e => absurd e (by decide)) fun _ => split_cond (fun e => absurd e (by decide)) fun _ => ⟨Sub.refl _, split_cond (fun _ => split_cond (fun e => absurd e (by decide)) fun _ => refsS_spec (C.sub s1) hl2 sum n fun h2 s2 => ⟨_, rfl, ?_⟩) fun e => absurd e (by decide)⟩
      rw [hf]
      exact split_ne (fun e => absurd rfl e) fun _ => s2
    | some d =>
      obtain ⟨g1, g2⟩ := atC_get hf
      rw [g2]
      have hil := (List.getElem?_eq_some_iff.1 g1).1
      obtain ⟨b, o, ea, hcell⟩ := (H.sub s1).get ctC_len (by decide) g1
      have hjl : ((atC l sum n : Nat) : Int) < Int.ofNat l.length := by show ((atC l sum n : Nat) : Int) < (l.length : Int); omega
      have hge : hb (decide (((atC l sum n : Nat) : Int) ≥ 0)) = true := by rw [hb_eq]; exact decide_eq_true (by omega)
      rw [hge, Option.isSome_some]
      refine split_cond (fun e => absurd e (by decide)) fun _ => split_cond (fun _ => ⟨by omega, hjl, b, o, ea, _, hcell 3 _ rfl, ?_⟩) fun e => absurd e (by decide)
      have e1 : beqS ((Option.map Ct.data (some d)).getD noB) d.data = true := by rw [beqS_val]; exact decide_eq_true rfl
      rw [e1]
      refine split_cond (fun e => absurd e (by decide)) fun _ => ⟨by omega, hjl, b, o, ea, _, hcell 2 _ rfl, refsS_spec (C.sub s1) hl2 sum n fun h2 s2 => ⟨_, rfl, s2, ?_⟩⟩
      rw [hf]
      exact split_ne (fun e => absurd rfl e) fun _ => split_cond (fun e => absurd e (by decide)) fun _ => s2
theorem pickC_spec {ids : List Id} (R : RowAt idC 2 h a ids) (hl : ids.length ≤ 100) (kind at_ : Int) (data sum : ByteArray) (n : Int) (hK : ∀ p : Id, K (idV p) h) :
    CallsH Try.prog law09_picked.id #[.slice a ids.length c, .agg #[.int .i64 kind, .int .i64 at_, .string data, .string sum, .int .i64 n]] h K := by
  apply law09_picked.calls
  unfold law09_picked.W
  refine split_dec (fun _ => hK (sum, n)) fun _ => split_eq (fun _ => hK (sum, n)) fun e => ⟨e, ?_⟩
  have hpos : 0 < ids.length := by
    rcases Nat.eq_zero_or_pos ids.length with h | h
    · exact absurd (by rw [h]; rfl) e
    · exact h
  have hab : (at_.tmod (Int.ofNat ids.length)).natAbs < ids.length := by
    rw [Int.natAbs_tmod]
    exact Nat.mod_lt _ hpos
  generalize at_.tmod (Int.ofNat ids.length) = t at hab
  have hO : Int.ofNat ids.length = (ids.length : Int) := rfl
  rw [hO]
  have get : ∀ k : Int, 0 ≤ k → k < (ids.length : Int) → ∃ b o, a = some ⟨b, o, none⟩ ∧ ∃ s, h.cell b (o + k.toNat * 2) = some (.string s) ∧ ∃ n, h.cell b (o + k.toNat * 2 + 1) = some (.int .i64 n) ∧ K (.agg #[.string s, .int .i64 n]) h := by
    intro k h0 h1
    have hlt : k.toNat < ids.length := by omega
    have hd : ids[k.toNat]? = some ids[k.toNat] := List.getElem?_eq_getElem hlt
    generalize ids[k.toNat] = p at hd
    obtain ⟨b, o, ea, hc⟩ := R.get idC_len (by decide) hd
    exact ⟨b, o, ea, _, hc 0 _ rfl, _, hc 1 _ rfl, hK p⟩
  refine split_dec (fun g => ?_) fun g => ?_
  · have w : IntKind.i64.wrap (t + (ids.length : Int)) = t + (ids.length : Int) := wid (by omega) (by omega)
    rw [w]
    exact ⟨by omega, by omega, get _ (by omega) (by omega)⟩
  · exact ⟨by omega, by omega, get _ (by omega) (by omega)⟩
end Go.Proofs.Ytpokejaglmkphaa
