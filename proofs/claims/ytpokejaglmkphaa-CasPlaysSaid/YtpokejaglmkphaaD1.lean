/- The document's contents in a row: At, with, Put, Change, Find, Count, SameIDs, Digest. Conditions: rows of at most 1000. -/
import Derived.Test.YtpokejaglmkphaaC7
import Derived.Test.YtpokejaglmkphaaR5
import Derived.Test.YtpokejaglmkphaaFT
namespace Go.Proofs.Ytpokejaglmkphaa
open Go.Gx
set_option maxRecDepth 100000
set_option linter.unusedVariables false
abbrev tCt : TypeId := 80
theorem appTCt : AppT Try.prog tCt 4 48 := AppT.of (by kernel_rfl)
def ctC (c : Ct) : List Value := [.string c.sum, .int .i64 c.n, .int .i64 c.refs, .string c.data]
theorem ctC_len (c : Ct) : (ctC c).length = 4 := rfl
theorem ctC_plain (c : Ct) : plainP (ctC c) := plainP_of rfl
variable {h : Hp} {K : Value → Hp → Prop} {a : Option Addr} {c : Nat} {l : List Ct} {width : Nat}
def atV (l : List Ct) (sum : ByteArray) (n : Int) : Int := match findC l sum n with
  | some _ => (atC l sum n : Nat)
  | none => -1
theorem find_get {α : Type} (p : α → Bool) {d : α} : ∀ l : List α, l.find? p = some d → l[l.findIdx p]? = some d
  | [], hf => by simp at hf
  | e :: l, hf => by
    rw [List.findIdx_cons]
    cases he : p e with
    | true =>
      rw [List.find?_cons_of_pos he] at hf
      simpa using hf
    | false =>
      rw [List.find?_cons_of_neg (by rw [he]; decide)] at hf
      simpa using find_get p l hf
theorem atC_get {sum : ByteArray} {n : Int} {d : Ct} (hf : findC l sum n = some d) : l[atC l sum n]? = some d ∧ atV l sum n = ((atC l sum n : Nat) : Int) := by
  refine ⟨?_, by unfold atV; rw [hf]⟩
  exact find_get _ l hf
theorem atV_none {sum : ByteArray} {n : Int} (hf : findC l sum n = none) : atV l sum n = -1 := by unfold atV; rw [hf]
theorem atV_at {sum : ByteArray} {n : Int} {j : Nat} {d : Ct} (hj : l[j]? = some d) (hd : Ct.has sum n d = true) (hno : ∀ k, k < j → ∀ e, l[k]? = some e → Ct.has sum n e = false) : atV l sum n = (j : Int) := by
  cases hf : findC l sum n with
  | none =>
    unfold findC at hf
    exact absurd hd (by simpa using List.find?_eq_none.1 hf d (List.mem_of_getElem? hj))
  | some e =>
    obtain ⟨h1, h2⟩ := atC_get hf
    rw [h2]
    unfold findC at hf
    have he := List.find?_some hf
    have hlt : ¬ atC l sum n < j := fun hlt => by rw [hno _ hlt e h1] at he; cases he
    have hgt : ¬ j < atC l sum n := fun hgt => by
      unfold atC at hgt
      have := List.not_of_lt_findIdx hgt
      have hjl := (List.getElem?_eq_some_iff.1 hj)
      obtain ⟨hjl, hv⟩ := hjl
      rw [hv] at this
      rw [hd] at this; simp at this
    omega
theorem atR_spec (H : RowAt ctC 4 h a l) (hl : l.length ≤ 1000) (sum : ByteArray) (n : Int) (hK : K (.int .i64 (atV l sum n)) h) : CallsH Try.prog ref09_At.id #[.slice a l.length c, .agg #[.string sum, .int .i64 n]] h K := by
  apply ref09_At.calls
  unfold ref09_At.W
  refine ⟨fun i x m => x = h ∧ ∃ j : Nat, i = (j : Int) ∧ j ≤ l.length ∧ m = l.length - j ∧ ∀ k, k < j → ∀ e, l[k]? = some e → Ct.has sum n e = false, ⟨_, rfl, 0, rfl, by omega, rfl, fun k hk => by omega⟩, ?_⟩
  rintro i x m ⟨rfl, j, rfl, hj, rfl, hno⟩
  refine split_dec (fun g => ?_) fun g => ?_
  · have g : j < l.length := by have : (j : Int) < (l.length : Int) := g; omega
    have hd : l[j]? = some l[j] := List.getElem?_eq_getElem g
    generalize l[j] = d at hd
    obtain ⟨b, o, ea, hc⟩ := H.get ctC_len (by decide) hd
    have hjl : (j : Int) < Int.ofNat l.length := by show (j : Int) < (l.length : Int); omega
    refine ⟨by omega, hjl, b, o, ea, _, hc 0 _ rfl, _, hc 1 _ rfl, ?_⟩
    rw [idEq]
    have eh : decide ((d.sum, (d.n : Int)) = (sum, n)) = Ct.has sum n d := by
      unfold Ct.has
      rw [decide_eq_decide]
      exact ⟨fun e => ⟨congrArg Prod.fst e, congrArg Prod.snd e⟩, fun e => Prod.ext e.1 e.2⟩
    rw [eh]
    refine split_cond (fun e => ?_) fun e => ⟨_, ?_, rfl, j + 1, by rw [wid (by omega) (by omega)]; omega, by omega, rfl, fun k hk e' he' => ?_⟩
    · rw [← atV_at hd e hno]; exact hK
    · omega
    · by_cases ek : k = j
      · subst ek; rw [hd] at he'; cases he'; exact e
      · exact hno k (by omega) e' he'
  · have hjl : j = l.length := by
      have : ¬ (j : Int) < (l.length : Int) := g
      omega
    have : findC l sum n = none := by
      unfold findC
      rw [List.find?_eq_none]
      intro e he
      obtain ⟨k, hk⟩ := List.mem_iff_getElem?.1 he
      rw [hno k (by rw [hjl]; exact (List.getElem?_eq_some_iff.1 hk).1) e hk]; decide
    rw [atV_none this] at hK; exact hK
theorem with_spec (H : RowAt ctC 4 h a l) (hc : l.length ≤ c) (hl : l.length ≤ 1000) {i : Nat} {d : Ct} (hi : l[i]? = some d) (r : Nat) (hK : ∀ h' a' c', NewR ctC 4 tCt h h' a' c' (withC l i r) → K (.slice a' (withC l i r).length c') h') :
    CallsH Try.prog ref09_with.id #[.slice a l.length c, .int .i64 (i : Nat), .int .i64 (r : Nat)] h K := by
  apply ref09_with.calls
  unfold ref09_with.W
  have hil := (List.getElem?_eq_some_iff.1 hi).1
  have t0 : ((i : Nat) : Int).toNat = i := rfl
  have w1 : IntKind.i64.wrap ((i : Int) + 1) = ((i + 1 : Nat) : Int) := by rw [wid (by omega) (by omega)]; omega
  rw [w1]
  have t1 : ((i + 1 : Nat) : Int).toNat = i + 1 := rfl
  rw [t0, t1]
  have hp1 : RowAt ctC 4 h (slA c 0 4 a) (l.take i) := by
    have := H.part ctC_len hc (i := 0) (n := i) (by omega)
    rwa [List.drop_zero] at this
  have hl1 : (l.take i).length = i := by rw [List.length_take]; omega
  have hp1' : SliceAt h (slA c 0 4 a) (i * 4) (rowC ctC (l.take i)) := by
    have := hp1
    unfold RowAt at this
    rwa [hl1] at this
  have hl2 : (l.drop (i + 1)).length = l.length - (i + 1) := List.length_drop
  refine ⟨by omega, by show (i : Int) ≤ (c : Int); omega, rowC ctC (l.take i), hp1', fun a3 c3 x3 => NewR ctC 4 tCt h x3 a3 c3 (l.take i), ?_, ?_⟩
  · intro a3 c3 x3 N3
    refine ⟨fun a7 l7 c7 x7 => l7 = (l.take i ++ (if r > 0 then [{ d with refs := r }] else [])).length ∧ NewR ctC 4 tCt h x7 a7 c7 (l.take i ++ (if r > 0 then [{ d with refs := r }] else [])), ?_, ?_⟩
    · rintro a7 l7 c7 x7 ⟨rfl, N7⟩
      have hp2 : RowAt ctC 4 x7 (slA c (i + 1) 4 a) (l.drop (i + 1)) := by
        have := (H.sub N7.sub).part ctC_len hc (i := i + 1) (n := l.length - (i + 1)) (by omega)
        rwa [List.take_of_length_le (by rw [hl2]; omega)] at this
      have hp2' : SliceAt x7 (slA c (i + 1) 4 a) ((l.length - (i + 1)) * 4) (rowC ctC (l.drop (i + 1))) := by
        have := hp2
        unfold RowAt at this
        rwa [hl2] at this
      have hl7 : (l.take i ++ (if r > 0 then [{ d with refs := r }] else [])).length ≤ i + 1 := by
        rw [List.length_append, hl1]
        split <;> simp
      refine ⟨by omega, by show ((i + 1 : Nat) : Int) ≤ (l.length : Int); omega, _, hp2', fun a' c' x' => NewR ctC 4 tCt h x' a' c' (withC l i r), fun a' c' x' N' => ?_, ?_⟩
      · have e : (l.take i ++ (if r > 0 then [{ d with refs := r }] else [])).length + (l.length - (i + 1)) = (withC l i r).length := by
          unfold withC
          rw [hi, ← hl2, ← List.length_append]
        rw [e]
        exact hK x' a' c' N'
      · refine append_row appTCt ctC_len ctC_plain (M := l.drop (i + 1)) N7 rfl hl2.symm rfl (by rw [hl2]; omega) fun a' c' x' N' => ?_
        unfold withC
        rw [hi]
        exact N'
    · refine split_dec (fun g => ?_) fun g => ?_
      · have g : r > 0 := by omega
        obtain ⟨b, o, ea, hcell⟩ := (H.sub N3.sub).get ctC_len (by decide) hi
        have hjl : (i : Int) < Int.ofNat l.length := by show (i : Int) < (l.length : Int); omega
        refine ⟨by omega, hjl, b, o, ea, _, hcell 0 _ rfl, _, hcell 1 _ rfl, by omega, hjl, b, o, ea, _, hcell 3 _ rfl, fun k hk => ⟨ctC { d with refs := r }, (Blk.new _ _ _ (ctC { d with refs := r })).slice rfl, fun a4 c4 x4 => NewR ctC 4 tCt h x4 a4 c4 (l.take i ++ [{ d with refs := r }]), fun a4 c4 x4 N4 => ⟨?_, ?_⟩, ?_⟩⟩
        · rw [if_pos g, List.length_append, hl1]; simp
        · rw [if_pos g]; exact N4
        · exact append_row appTCt ctC_len ctC_plain (M := [{ d with refs := r }]) (N3.upd (Sub.upd hk _)) (by rw [hl1]; omega) rfl (rowC_one _).symm (by rw [hl1]; simp; omega) fun a4 c4 x4 N4 => N4
      · refine ⟨?_, ?_⟩
        · rw [if_neg (by omega), List.append_nil, hl1]; omega
        · rw [if_neg (by omega), List.append_nil]; exact N3
  · refine append_row appTCt ctC_len ctC_plain (M := l.take i) (NewR.nil _ _) rfl hl1.symm rfl (by rw [hl1]; simp; omega) fun a4 c4 x4 N4 => ?_
    rwa [List.nil_append] at N4
theorem changeR_spec (H : RowAt ctC 4 h a l) (hc : l.length ≤ c) (hl : l.length ≤ 1000) (hr : ∀ e ∈ l, e.refs < 2147483648) (sum : ByteArray) (n by_ : Int) (hby : by_ = 1 ∨ by_ = -1) (hp : ∀ e ∈ l, 1 ≤ e.refs)
    (h0 : findC l sum n = none → K (.tuple #[.slice a l.length c, .int .i64 6]) h)
    (h1 : ∀ (i : Nat) (d : Ct), l[i]? = some d → d.id = (sum, n) → ∀ r : Nat, (r : Int) = d.refs + by_ → ∀ h' a' c', NewR ctC 4 tCt h h' a' c' (withC l i r) → K (.tuple #[.slice a' (withC l i r).length c', .int .i64 0]) h') :
    CallsH Try.prog ref09_Change.id #[.slice a l.length c, .agg #[.string sum, .int .i64 n], .int .i64 by_] h K := by
  apply ref09_Change.calls
  unfold ref09_Change.W
  refine atR_spec H hl sum n ⟨_, rfl, ?_⟩
  cases hf : findC l sum n with
  | none =>
    rw [atV_none hf]
    exact split_dec (fun _ => h0 hf) fun e => absurd (by decide) e
  | some d =>
    obtain ⟨g1, g2⟩ := atC_get hf
    rw [g2]
    have hil := (List.getElem?_eq_some_iff.1 g1).1
    obtain ⟨e0, e1, e2⟩ := findC_mem hf
    obtain ⟨b, o, ea, hcell⟩ := H.get ctC_len (by decide) g1
    have hrd := hr d e0
    have hpd := hp d e0
    refine split_dec (fun e => by omega) fun _ => ⟨by omega, by show ((atC l sum n : Nat) : Int) < (l.length : Int); omega, b, o, ea, _, hcell 2 _ rfl, ?_⟩
    obtain ⟨r, hr2⟩ : ∃ r : Nat, (r : Int) = d.refs + by_ := ⟨((d.refs : Int) + by_).toNat, by omega⟩
    have w : IntKind.i64.wrap ((d.refs : Int) + by_) = (r : Int) := by rw [wid (by omega) (by omega)]; omega
    rw [w]
    refine with_spec H hc hl g1 r fun h' a' c' N => ⟨_, _, _, rfl, h1 _ d g1 ?_ r hr2 h' a' c' N⟩
    unfold Ct.id
    rw [e1, e2]
theorem findR_spec (H : RowAt ctC 4 h a l) (hl : l.length ≤ 1000) (sum : ByteArray) (hK : ∀ h' a' c', NewR idC 2 tID h h' a' c' (idsN l sum) → K (.slice a' (idsN l sum).length c') h') :
    CallsH Try.prog ref09_Find.id #[.slice a l.length c, .string sum] h K := by
  apply ref09_Find.calls
  unfold ref09_Find.W
  refine ⟨fun a' l' c' n x m => ∃ j : Nat, n = (j : Int) ∧ j ≤ 256 ∧ m = 256 - j ∧ ∃ ids : List Id, ids = (((List.range j).filter fun (n : Nat) => (findC l sum n).isSome).map fun (n : Nat) => (sum, (n : Int))) ∧ l' = ids.length ∧ NewR idC 2 tID h x a' c' ids, ⟨_, 0, rfl, by decide, rfl, [], rfl, rfl, NewR.nil _ _⟩, ?_⟩
  rintro a' l' c' n x m ⟨j, rfl, hj, rfl, ids, hids, rfl, N⟩
  have hlen : ids.length ≤ j := by
    rw [hids, List.length_map]
    have := List.length_filter_le (fun (n : Nat) => (findC l sum n).isSome) (List.range j)
    rwa [List.length_range] at this
  refine split_dec (fun g => ?_) fun g => ?_
  · have g : j < 256 := by omega
    have hnext : (((List.range (j + 1)).filter fun (n : Nat) => (findC l sum n).isSome).map fun (n : Nat) => (sum, (n : Int))) = ids ++ (if (findC l sum (j : Nat)).isSome then [(sum, (j : Int))] else []) := by
      rw [List.range_succ, List.filter_append, List.map_append, ← hids]
      congr 1
      by_cases e : (findC l sum (j : Nat)).isSome = true
      · rw [if_pos e]; simp [e]
      · rw [if_neg e]; simp [e]
    refine atR_spec (H.sub N.sub) hl sum _ ⟨_, rfl, ?_⟩
    cases hf : findC l sum (j : Nat) with
    | none =>
      rw [atV_none hf]
      rw [hf] at hnext
      refine split_dec (fun e => absurd e (by decide)) fun _ => ⟨_, ?_, j + 1, by rw [wid (by omega) (by omega)]; omega, by omega, rfl, ids, by rw [hnext]; simp, rfl, N⟩
      omega
    | some d =>
      rw [(atC_get hf).2]
      rw [hf] at hnext
      refine split_dec (fun _ => fun k hk => ⟨idC (sum, (j : Int)), (Blk.new _ _ _ (idC (sum, (j : Int)))).slice rfl, fun a4 c4 x4 => NewR idC 2 tID h x4 a4 c4 (ids ++ [(sum, (j : Int))]), fun a4 c4 x4 N4 => ⟨_, ?_, j + 1, by rw [wid (by omega) (by omega)]; omega, by omega, rfl, _, by rw [hnext]; rfl, by simp, N4⟩, ?_⟩) fun e => absurd (by omega) e
      · omega
      · exact append_row appTI idC_len idC_plain (M := [(sum, (j : Int))]) (N.upd (Sub.upd hk _)) rfl rfl (rowC_one _).symm (by simp; omega) fun a4 c4 x4 N4 => N4
  · have hj : j = 256 := by omega
    subst hj
    have : ids = idsN l sum := hids
    rw [this] at N ⊢
    exact hK x a' c' N
theorem sizes_take (l : List Ct) {j : Nat} {d : Ct} (hd : l[j]? = some d) : sizes (l.take (j + 1)) = sizes (l.take j) + d.data.size := by
  unfold sizes
  rw [List.take_add_one, hd]
  simp
theorem sizes_small {m : List Ct} (hs : ∀ e ∈ m, e.data.size ≤ 128) : sizes m ≤ 128 * m.length := sum_le _ _ _ hs
theorem countR_spec (H : RowAt ctC 4 h a l) (hl : l.length ≤ 1000) (hs : ∀ e ∈ l, e.data.size ≤ 128) (hK : K (.tuple #[.int .i64 (l.length : Nat), .int .i64 (sizes l : Nat)]) h) : CallsH Try.prog ref09_Count.id #[.slice a l.length c] h K := by
  apply ref09_Count.calls
  unfold ref09_Count.W
  refine ⟨fun n i x m => x = h ∧ ∃ j : Nat, i = (j : Int) ∧ j ≤ l.length ∧ m = l.length - j ∧ n = ((sizes (l.take j) : Nat) : Int), ⟨_, rfl, 0, rfl, by omega, rfl, rfl⟩, ?_⟩
  rintro n i x m ⟨rfl, j, rfl, hj, rfl, rfl⟩
  have hb := sizes_small (m := l.take j) fun e he => hs e (List.mem_of_mem_take he)
  rw [List.length_take] at hb
  refine split_dec (fun g => ?_) fun g => ?_
  · have g : j < l.length := by have : (j : Int) < (l.length : Int) := g; omega
    have hd : l[j]? = some l[j] := List.getElem?_eq_getElem g
    generalize l[j] = d at hd
    obtain ⟨b, o, ea, hcell⟩ := H.get ctC_len (by decide) hd
    have hds := hs d (List.mem_of_getElem? hd)
    refine ⟨by omega, by show (j : Int) < (l.length : Int); omega, b, o, ea, _, hcell 3 _ rfl, _, ?_, rfl, j + 1, by rw [wid (by omega) (by omega)]; omega, by omega, rfl, ?_⟩
    · omega
    · rw [sizes_take l hd]
      show IntKind.i64.wrap (((sizes (l.take j) : Nat) : Int) + ((d.data.size : Nat) : Int)) = _
      rw [wid (by omega) (by omega)]; omega
  · have : j = l.length := by
      have : ¬ (j : Int) < (l.length : Int) := g
      omega
    subst this
    rw [List.take_length]
    exact hK
theorem same_spec {b : Option Addr} {d : Nat} {ids : List Id} (H : RowAt idC 2 h a ids) (G : RowAt idC 2 h b ids) (hl : ids.length ≤ 1000) (hK : K (.bool true) h) : CallsH Try.prog ref09_SameIDs.id #[.slice a ids.length c, .slice b ids.length d] h K := by
  apply ref09_SameIDs.calls
  unfold ref09_SameIDs.W
  refine split_ne (fun e => absurd rfl e) fun _ => ?_
  refine ⟨fun i x m => x = h ∧ ∃ j : Nat, i = (j : Int) ∧ j ≤ ids.length ∧ m = ids.length - j, ⟨_, rfl, 0, rfl, by omega, rfl⟩, ?_⟩
  rintro i x m ⟨rfl, j, rfl, hj, rfl⟩
  refine split_dec (fun g => ?_) fun g => hK
  have g : j < ids.length := by have : (j : Int) < (ids.length : Int) := g; omega
  have hd : ids[j]? = some ids[j] := List.getElem?_eq_getElem g
  generalize ids[j] = p at hd
  obtain ⟨b1, o1, e1, c1⟩ := H.get idC_len (by decide) hd
  obtain ⟨b2, o2, e2, c2⟩ := G.get idC_len (by decide) hd
  have hjl : (j : Int) < Int.ofNat ids.length := by show (j : Int) < (ids.length : Int); omega
  refine ⟨by omega, hjl, b1, o1, e1, _, c1 0 _ rfl, _, c1 1 _ rfl, by omega, hjl, b2, o2, e2, _, c2 0 _ rfl, _, c2 1 _ rfl, ?_⟩
  rw [idEq, decide_eq_true rfl]
  refine split_not (fun e => by cases e) fun _ => ⟨_, ?_, rfl, j + 1, by rw [wid (by omega) (by omega)]; omega, by omega, rfl⟩
  omega
theorem digestR_spec (data : ByteArray) (hd : data.size < 1152921504606846976) (hw : width ≤ 32) (hK : ∀ h', Sub h h' → K (.string (digest data width)) h') : CallsH Try.prog ref09_Digest.id #[.string data, .int .i64 (width : Nat)] h K := by
  apply ref09_Digest.calls
  unfold ref09_Digest.W
  refine sumR_spec data hd fun h' s => ⟨_, rfl, by omega, ?_, hK h' s⟩
  rw [shaF_size]
  show ((width : Nat) : Int) ≤ 32
  omega
end Go.Proofs.Ytpokejaglmkphaa
