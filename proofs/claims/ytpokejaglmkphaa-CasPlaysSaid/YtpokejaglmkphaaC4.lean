/- Counting contents, new stores, what putting makes of contents; the chapter's example. Conditions: the store stands as it is named, few contents. -/
import Derived.Test.YtpokejaglmkphaaC3
import Derived.Test.YtpokejaglmkphaaFE
namespace Go.Proofs.Ytpokejaglmkphaa
open Go.Gx
set_option maxRecDepth 100000
set_option linter.unusedVariables false
variable {h : Hp} {sb tb width : Nat} {full : Int} {X : List KV} {l : List Ct} {K : Value → Hp → Prop}

/-! ### counting -/
def sizes (l : List Ct) : Nat := (l.map fun c => c.data.size).sum
theorem sum_le {α : Type} (f : α → Nat) (m : Nat) : ∀ l : List α, (∀ x ∈ l, f x ≤ m) → (l.map f).sum ≤ m * l.length
  | [], _ => by simp
  | x :: l, h => by
    have h1 := sum_le f m l fun y hy => h y (List.mem_cons_of_mem _ hy)
    have h2 := h x (List.mem_cons_self)
    rw [List.map_cons, List.sum_cons, List.length_cons, Nat.mul_add]; omega
def cnt (M : List KV) : List KV := M.filter fun p => decide (p.1 ≠ bytesL [100])
theorem cnt_snoc (M : List KV) (p : KV) : cnt (M ++ [p]) = if p.1 = bytesL [100] then cnt M else cnt M ++ [p] := by
  unfold cnt
  rw [List.filter_append]
  by_cases e : p.1 = bytesL [100]
  · rw [if_pos e, List.filter_cons_of_neg (by simp [e]), List.filter_nil, List.append_nil]
  · rw [if_neg e, List.filter_cons_of_pos (by simp [e]), List.filter_nil]
theorem count_spec (C : CasAt h sb tb width full X l) (hl : l.length + X.length < 1073741824) (hK : ∀ h', Sub h h' → K (.tuple #[.int .i64 (l.length : Nat), .int .i64 (sizes l : Nat)]) h') :
    CallsH Try.prog cas_Store_Count.id #[.pointer (some ⟨sb, 0, none⟩)] h K := by
  apply cas_Store_Count.calls
  unfold cas_Store_Count.W
  obtain ⟨⟨L, S, R⟩, w1, w2⟩ := C
  have hL := R.length
  refine ⟨_, S.blk.cell' 0 rfl, _, rfl, tableRange_spec S.table (by omega) _ _ 1073741824 fun h1 a c N => ⟨_, _, _, rfl, ?_⟩⟩
  have hM : kvRange (bytesL [99]) (bytesL [100]) 1073741824 L = L.filter (kvIn (bytesL [99]) (bytesL [100])) := by
    unfold kvRange
    exact List.take_of_length_le (Nat.le_trans (List.length_filter_le _ _) (by omega))
  rw [hM] at N ⊢
  have hp : (cnt (L.filter (kvIn (bytesL [99]) (bytesL [100])))).Perm (l.map Ct.entry) := R.counts
  have hMl : (L.filter (kvIn (bytesL [99]) (bytesL [100]))).length ≤ L.length := List.length_filter_le _ _
  generalize L.filter (kvIn (bytesL [99]) (bytesL [100])) = M at N hp hMl ⊢
  have hent : ∀ p ∈ cnt M, ∃ d ∈ l, p.2.size = 4 + d.data.size ∧ d.data.size ≤ 128 := by
    intro p hp'
    have := hp.mem_iff.1 hp'
    obtain ⟨d, hd, rfl⟩ := List.mem_map.1 this
    exact ⟨d, hd, valB_size _ _, R.ok.size d hd⟩
  have hsub : ∀ j p, p ∈ cnt (M.take j) → p ∈ cnt M := fun j p hp' => by
    unfold cnt at hp' ⊢
    rw [List.mem_filter] at hp' ⊢
    exact ⟨List.mem_of_mem_take hp'.1, hp'.2⟩
  refine ⟨fun n b i x m => x = h1 ∧ ∃ j : Nat, i = (j : Int) ∧ j ≤ M.length ∧ m = M.length - j ∧ n = ((cnt (M.take j)).length : Nat) ∧ b = (((cnt (M.take j)).map fun p => p.2.size - 4).sum : Nat),
    ⟨_, rfl, 0, rfl, by omega, rfl, rfl, rfl⟩, ?_⟩
  rintro n b i x m ⟨rfl, j, rfl, hj, rfl, rfl, rfl⟩
  have hb : (cnt (M.take j)).length ≤ M.length := by unfold cnt; exact Nat.le_trans (List.length_filter_le _ _) (by rw [List.length_take]; omega)
  have hs := sum_le (fun p : KV => p.2.size - 4) 128 (cnt (M.take j)) fun p hp' => by
    obtain ⟨d, _, e1, e2⟩ := hent p (hsub j p hp'); show p.2.size - 4 ≤ 128; omega
  refine split_dec (fun g => ?_) (fun g => ?_)
  · have g1 : j < M.length := by have : (j : Int) < (M.length : Int) := g; omega
    have hq : M[j]? = some M[j] := List.getElem?_eq_getElem g1
    obtain ⟨bb, o, ea, c1, c2⟩ := kv_cell N.2.2.slice hq
    have ht : M.take (j + 1) = M.take j ++ [M[j]] := by rw [List.take_add_one, hq]; rfl
    have hcs := cnt_snoc (M.take j) M[j]
    rw [← ht] at hcs
    refine ⟨by omega, g, bb, o, ea, _, c1, _, c2, ?_⟩
    rw [beqS_val]
    refine split_not (fun e => ⟨_, ?_, rfl, j + 1, by rw [wid (by omega) (by omega)]; omega, by omega, rfl, ?_, ?_⟩) (fun e => ⟨_, ?_, rfl, j + 1, by rw [wid (by omega) (by omega)]; omega, by omega, rfl, ?_, ?_⟩)
    · omega
    · have e := of_decide_eq_false e
      rw [hcs, if_neg e, wid (by omega) (by omega), List.length_append]; rfl
    · have e := of_decide_eq_false e
      have hm : M[j] ∈ cnt M := by
        unfold cnt
        rw [List.mem_filter]
        exact ⟨List.getElem_mem _, by simp [e]⟩
      obtain ⟨d, _, e1, e2⟩ := hent _ hm
      have e3 : Int.ofNat M[j].2.size - 4 = ((M[j].2.size - 4 : Nat) : Int) := by show ((M[j].2.size : Nat) : Int) - 4 = _; omega
      rw [hcs, if_neg e, e3, wid (x := ((M[j].2.size - 4 : Nat) : Int)) (by omega) (by omega), List.map_append, List.sum_append]
      show IntKind.i64.wrap _ = ((_ + (M[j].2.size - 4 + 0) : Nat) : Int)
      rw [wid (by omega) (by omega)]; omega
    · omega
    · have e := of_decide_eq_true e
      rw [hcs, if_pos e]
    · have e := of_decide_eq_true e
      rw [hcs, if_pos e]
  · have : j = M.length := by
      have : ¬ (j : Int) < (M.length : Int) := g
      omega
    subst this
    rw [List.take_length]
    have e1 : (cnt M).length = l.length := by rw [hp.length_eq, List.length_map]
    have e2 : ((cnt M).map fun p => p.2.size - 4).sum = sizes l := by
      rw [(hp.map _).sum_nat, List.map_map]
      unfold sizes
      congr 1
    rw [e1, e2]
    exact hK _ N.1

/-! ### new stores -/
theorem casNew_spec {X : List KV} (T : TableAt h tb full X) (hs : kvSorted X) (ho : ∀ p ∈ X, p.1.data.toList.head? ≠ some 99 ∧ p.1.data.toList ≠ []) (width : Int)
    (h1 : ¬ (1 ≤ width ∧ width ≤ 32) → K (.tuple #[.pointer none, .int .i64 1]) h)
    (h2 : ∀ w : Nat, width = (w : Int) → 1 ≤ w → w ≤ 32 → ∀ sb h', Sub h h' → h sb = none → CasAt h' sb tb w full X [] → K (.tuple #[.pointer (some ⟨sb, 0, none⟩), .int .i64 0]) h') :
    CallsH Try.prog cas_New.id #[.iface 27 (.pointer (some ⟨tb, 0, none⟩)), .int .i64 width] h K := by
  apply cas_New_i.calls
  unfold cas_New_i.W
  refine split_dec (fun e => h1 (by omega)) fun e => split_dec (fun e => h1 (by omega)) fun e2 => fun sb hsb => ?_
  obtain ⟨w, rfl⟩ : ∃ w : Nat, width = (w : Int) := ⟨width.toNat, by omega⟩
  refine h2 w rfl (by omega) (by omega) sb _ (Sub.upd hsb _) hsb ⟨⟨X, ⟨Blk.new _ _ _ _, T.sub (Sub.upd hsb _)⟩, ⟨⟨?_, ?_, ?_, ?_, List.Pairwise.nil, List.Pairwise.nil⟩, hs, ?_, ho⟩⟩, by omega, by omega⟩
  · intro c hc; cases hc
  · intro c hc; cases hc
  · intro c hc; cases hc
  · intro c hc; cases hc
  · exact List.Perm.refl _
theorem table_new {k : Nat} (hk : h k = none) (full : Int) : TableAt (h.upd k (.cells #[.slice none 0 0, .int .i64 full] 30 (0, 0))) k full [] :=
  ⟨none, 0, Blk.new _ _ _ _, Own.nil _ _ _⟩
theorem casNew0_spec {k : Nat} (hk : h k = none) (full : Int) (width : Int)
    (h1 : ¬ (1 ≤ width ∧ width ≤ 32) → ∀ h', Sub h h' → K (.tuple #[.pointer none, .int .i64 1]) h')
    (h2 : ∀ w : Nat, width = (w : Int) → 1 ≤ w → w ≤ 32 → ∀ sb h', Sub h h' → CasAt h' sb k w full [] [] → K (.tuple #[.pointer (some ⟨sb, 0, none⟩), .int .i64 0]) h') :
    CallsH Try.prog cas_New.id #[.iface 27 (.pointer (some ⟨k, 0, none⟩)), .int .i64 width] (h.upd k (.cells #[.slice none 0 0, .int .i64 full] 30 (0, 0))) K :=
  casNew_spec (table_new hk full) List.Pairwise.nil (fun p hp => by cases hp) width (fun e => h1 e _ (Sub.upd hk _)) fun w e w1 w2 sb h' s _ C => h2 w e w1 w2 sb h' ((Sub.upd hk _).trans s) C

/-! ### a table that has room -/
inductive PutStep (width : Nat) (l : List Ct) (data : ByteArray) : List Ct → Id → Prop where
  | old (i : Nat) (c : Ct) (hi : l[i]? = some c) (hd : c.data = data) : PutStep width l data (withC l i (c.refs + 1)) c.id
  | new (n : Nat) (hd : ∀ c ∈ l, c.data ≠ data) : PutStep width l data (l ++ [⟨digest data width, n, 1, data⟩]) (digest data width, (n : Int))
theorem put_ok (C : CasAt h sb tb width full X l) (hX : X.length ≤ 1) (hn : l.length < 256) (hr : ∀ c ∈ l, c.refs < 4294967295) (hf : full < 0) (data : ByteArray) (hd : data.size ≤ 128)
    (hK : ∀ l' p h', PutStep width l data l' p → Keep (fun b => b = tb) h h' → CasAt h' sb tb width full X l' → K (.tuple #[idV p, .int .i64 0]) h') :
    CallsH Try.prog cas_Store_Put.id #[.pointer (some ⟨sb, 0, none⟩), .string data] h K :=
  put_spec C (by omega) data hd ⟨fun i c hi e _ h' k C' => hK _ _ h' (.old i c hi e) k C', fun i c hi e e2 => by have := hr c (List.mem_of_getElem? hi); omega, fun e _ _ h' k C' => hK _ _ h' (.new _ e) k C', fun e e2 => by
    have := free_le (l := l) (digest data width)
    omega⟩
theorem withC_data {c : Ct} {i r : Nat} (h : l[i]? = some c) (hr : 0 < r) : (withC l i r).map (·.data) = l.map (·.data) ∧ (withC l i r).map Ct.id = l.map Ct.id ∧ (withC l i r).length = l.length := by
  have hl := at_split h
  rw [withC_pos h hr]
  refine ⟨?_, ?_, ?_⟩
  · conv => rhs; rw [hl]
    simp
  · conv => rhs; rw [hl]
    simp [Ct.id]
  · conv => rhs; rw [hl]
    simp
theorem withC_mem {c d : Ct} {i r : Nat} (h : l[i]? = some c) (hr : 0 < r) (ok : CtsOk width l) (hd : d ∈ withC l i r) : d = { c with refs := r } ∨ (d ∈ l ∧ d.data ≠ c.data ∧ d.id ≠ c.id) := by
  have hl := at_split h
  rw [withC_pos h hr] at hd
  have o1 := ok.data
  have o2 := ok.id
  rw [hl] at o1 o2
  have e : ∀ a b : Ct, a.id = b.id → a.sum = b.sum ∧ a.n = b.n := fun a b e => ⟨congrArg Prod.fst e, by have := congrArg Prod.snd e; unfold Ct.id at this; simp at this; omega⟩
  rw [List.pairwise_append, List.pairwise_cons] at o1 o2
  rcases List.mem_append.1 hd with hd | hd
  · exact .inr ⟨List.mem_of_mem_take hd, o1.2.2 d hd c (List.mem_cons_self), fun e2 => o2.2.2 d hd c (List.mem_cons_self) (e _ _ e2)⟩
  · rcases List.mem_cons.1 hd with hd | hd
    · exact .inl hd
    · exact .inr ⟨List.mem_of_mem_drop hd, fun e2 => o1.2.1.1 d hd e2.symm, fun e2 => o2.2.1.1 d hd (e _ _ e2.symm)⟩
theorem PutStep.mono {data : ByteArray} {l' : List Ct} {p : Id} (S : PutStep width l data l' p) {c : Ct} (hc : c ∈ l) : ∃ d ∈ l', d.id = c.id ∧ d.data = c.data := by
  cases S with
  | old i d hi hd =>
    rw [withC_pos hi (by omega)]
    rw [at_split hi] at hc
    rcases List.mem_append.1 hc with hc | hc
    · exact ⟨c, List.mem_append_left _ hc, rfl, rfl⟩
    · rcases List.mem_cons.1 hc with hc | hc
      · exact ⟨{ d with refs := d.refs + 1 }, List.mem_append_right _ (List.mem_cons_self), by rw [hc]; rfl, by rw [hc]⟩
      · exact ⟨c, List.mem_append_right _ (List.mem_cons_of_mem _ hc), rfl, rfl⟩
  | new n hd => exact ⟨c, List.mem_append_left _ hc, rfl, rfl⟩
theorem PutStep.here {data : ByteArray} {l' : List Ct} {p : Id} (S : PutStep width l data l' p) : ∃ d ∈ l', d.id = p ∧ d.data = data := by
  cases S with
  | old i d hi hd =>
    obtain ⟨e, he, h1, h2⟩ := (PutStep.old i d hi hd).mono (width := width) (List.mem_of_getElem? hi)
    exact ⟨e, he, h1, by rw [h2, hd]⟩
  | new n hd => exact ⟨_, List.mem_append_right _ (List.mem_singleton.2 rfl), rfl, rfl⟩
theorem PutStep.len {data : ByteArray} {l' : List Ct} {p : Id} (S : PutStep width l data l' p) : l'.length ≤ l.length + 1 := by
  cases S with
  | old i d hi hd => rw [(withC_data hi (by omega)).2.2]; omega
  | new n hd => simp
theorem PutStep.refs_le {data : ByteArray} {l' : List Ct} {p : Id} (S : PutStep width l data l' p) (ok : CtsOk width l) {m : Nat} (hm : ∀ c ∈ l, c.refs ≤ m) : ∀ c ∈ l', c.refs ≤ m + 1 := by
  intro c hc
  cases S with
  | old i d hi hd =>
    rcases withC_mem hi (by omega) ok hc with rfl | ⟨h1, _⟩
    · have := hm d (List.mem_of_getElem? hi)
      show d.refs + 1 ≤ m + 1
      omega
    · have := hm c h1; omega
  | new n hd =>
    rcases List.mem_append.1 hc with hc | hc
    · have := hm c hc; omega
    · rw [List.mem_singleton.1 hc]; show 1 ≤ m + 1; omega

/-! ### the chapter's example -/
theorem lives_spec (hK : ∀ h', Sub h h' → K (.bool true) h') : CallsH Try.prog law09_lives.id #[] h K := by
  apply law09_lives.calls
  unfold law09_lives.W
  intro k hk
  refine casNew0_spec hk (-1) 32 (fun e => absurd (by decide) e) fun w ew w1 w2 sb h1 s1 C => ?_
  obtain rfl : w = 32 := by omega
  refine ⟨_, _, rfl, split_cond (fun e => by cases e) fun _ => split_ne (fun e => absurd rfl e) fun _ => ?_⟩
  have hx : (bytesL [120]).size = 1 := rfl
  refine put_ok C (by decide) (by decide) (fun c hc => by cases hc) (by decide) _ (by rw [hx]; decide) fun l1 p1 h2 S1 k2 C2 => ⟨_, _, _, rfl, ?_⟩
  cases S1 with
  | old i c hi _ => simp at hi
  | new n _ =>
    refine put_ok C2 (by decide) (by show 1 < 256; decide) (fun c hc => ?_) (by decide) _ (by rw [hx]; decide) fun l2 p2 h3 S2 k3 C3 => ⟨_, _, _, rfl, ?_⟩
    · rw [List.nil_append] at hc
      rw [List.mem_singleton.1 hc]; show 1 < 4294967295; decide
    have hs : Sub h h3 := (k2.sub s1 fun c e => by rw [e]; exact hk).trans (Sub.refl _) |> fun s => k3.sub s fun c e => by rw [e]; exact hk
    cases S2 with
    | new m hd => exact absurd rfl (hd _ (List.mem_cons_self))
    | old i c hi hd =>
      have hi0 : i = 0 := by
        have := (List.getElem?_eq_some_iff.1 hi).1
        simp at this; exact this
      subst hi0
      simp at hi
      subst hi
      refine count_spec C3 (by show 1 + 0 < 1073741824; decide) fun h4 s4 => ⟨_, _, rfl, ?_⟩
      rw [beqS_val, hb_eq]
      have e1 : (((n : Int)) == ((n : Nat) : Int)) = true := by simp
      show cond (decide (digest (bytesL [120]) 32 = digest (bytesL [120]) 32) && (((n : Int) == ((n : Nat) : Int)) && true)) _ _
      rw [decide_eq_true rfl, e1]
      simp only [Bool.and_self, cond_true]
      refine refsS_spec (C3.sub s4) (by show 1 + 0 < 4294967295; decide) _ _ fun h5 s5 => ⟨_, rfl, ?_⟩
      have hf : findC (withC ([] ++ [⟨digest (bytesL [120]) 32, n, 1, bytesL [120]⟩]) 0 (1 + 1)) (digest (bytesL [120]) 32) (n : Int) = some ⟨digest (bytesL [120]) 32, n, 2, bytesL [120]⟩ :=
        findC_some C3.ok (c := ⟨digest (bytesL [120]) 32, n, 2, bytesL [120]⟩) (List.mem_cons_self)
      have hr : (((findC (withC ([] ++ [⟨digest (bytesL [120]) 32, n, 1, bytesL [120]⟩]) 0 (1 + 1)) (digest (bytesL [120]) 32) (n : Int)).map Ct.refs).getD 0 : Nat) = 2 := by rw [hf]; rfl
      refine split_eq (fun _ => split_eq (fun _ => split_eq (fun _ => ?_) fun e => absurd rfl e) fun e => absurd rfl e) fun e => absurd (by rw [hr]; rfl) e
      have : (digest (bytesL [120]) 32).size = 32 := digest_size _ (by decide)
      rw [this, hb_eq]
      exact hK h5 (hs.trans (s4.trans s5))
end Go.Proofs.Ytpokejaglmkphaa
