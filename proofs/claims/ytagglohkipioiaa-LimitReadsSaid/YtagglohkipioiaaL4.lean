/- What a limiter's names and bytes are. Conditions: it stands as it is named, not too many bytes. -/
import Derived.Test.YtagglohkipioiaaL3
import Derived.Test.YtagglohkipioiaaSk
namespace Go.Proofs.Ytagglohkipioiaa
open Go.Gx
set_option maxRecDepth 100000
set_option linter.unusedVariables false

theorem keys_spec {h : Hp} {K : Value → Hp → Prop} {mb : Option Nat} (hK : ∀ k, h k = none → K (.func (.func 84) #[] #[.pointer (some ⟨k, 0, none⟩)]) (h.upd k (.cells #[.map mb] 89 (0, 0)))) : CallsH Try.prog 49 #[.map mb] h K := by
  intro W hW
  refine (callsIn_wide.1 (Try.maps_Keys_49 mb W)).mono fun e w' ⟨he, hw⟩ => ?_
  have hn : h W.heap.size = none := by
    cases hh : h W.heap.size with
    | none => rfl
    | some o => have := (Array.getElem?_eq_some_iff.1 (hW _ o hh)).1; omega
  subst hw
  have hWk : ∀ b o, W.heap[b]? = some o → (W.alloc (.cells #[.map mb] 89)).heap[b]? = some o := fun b o e => (Go.RowKit.Below.heap_alloc W _ b (Array.getElem?_eq_some_iff.1 e).1).trans e
  refine ⟨_, _, he, hK _ hn, fun c o hc => ?_, ⟨rfl, rfl, rfl, by simp, fun c o e e' => ⟨hWk c o e, ?_⟩⟩⟩
  · by_cases hcg : c = W.heap.size
    · subst hcg; rw [Hp.upd_same] at hc; cases hc; exact heap_alloc_new W _
    · rw [Hp.upd_ne _ _ hcg] at hc; exact hWk c o (hW c o hc)
  · by_cases hcg : c = W.heap.size
    · subst hcg; have := (Array.getElem?_eq_some_iff.1 e).1; omega
    · rw [Hp.upd_ne _ _ hcg]; exact e'
theorem sorted_eq {rs ks : List ByteArray} (hp : rs.Perm ks) (h1 : (rs.map fun s => s.data.toList).Pairwise (fun x y => x ≤ y)) (h2 : (ks.map fun s => s.data.toList).Pairwise (· < ·)) : rs = ks := by
  have h3 : (ks.map fun s => s.data.toList).Pairwise (fun x y => x ≤ y) := h2.imp fun h => List.le_of_lt h
  have h4 : (rs.map fun s => s.data.toList) = ks.map fun s => s.data.toList := List.Perm.eq_of_pairwise (fun a b _ _ h h' => List.le_antisymm h h') h1 h3 (hp.map _)
  have h5 := congrArg (List.map bOf) h4
  rw [List.map_map, List.map_map] at h5
  have : (bOf ∘ fun s : ByteArray => s.data.toList) = id := funext bOf_data
  rw [this, List.map_id, List.map_id] at h5
  exact h5
theorem names_spec {x : Hp} {lb mb r p u n : Nat} {E : List En} (L : LimAt x lb mb r p u n E) (hE : E.length ≤ 32) {K : Value → Hp → Prop} (hK : ∀ y a c, NewR strC 1 9 x y a c (E.map (·.name)) → K (.slice a E.length c) y) :
    CallsH Try.prog limit_Limiter_Names.id #[.pointer (some ⟨lb, 0, none⟩)] x K := by
  apply limit_Limiter_Names.calls
  unfold limit_Limiter_Names.W
  refine ⟨_, L.blk.cell' 4 rfl, keys_spec fun k hk => ⟨_, rfl, ?_⟩⟩
  obtain ⟨o, ho, hm⟩ := L.map
  have hc : (x.upd k (.cells #[.map (some mb)] 89 (0, 0))).cell k 0 = some (.map (some mb)) := (Blk.new x k 89 [.map (some mb)]).cell' 0 rfl
  have h32 : (32 : Nat) ≤ maxLen := by decide
  refine sorted_spec (ks := E.map (·.name)) hc (Sub.upd hk _ _ _ ho) hm (by unfold mapL; rw [List.map_map, List.map_map]; rfl) (by rw [List.length_map]; omega) (fun s hs => ?_) fun y a c rs hp h1 N => ?_
  · obtain ⟨e, he, rfl⟩ := List.mem_map.1 hs
    exact Nat.le_trans (L.ok.ok e he).2 h32
  · have h2 := L.ok.ord
    have e : rs = E.map (·.name) := sorted_eq hp h1 (by rw [List.map_map]; exact h2)
    subst e
    rw [List.length_map]
    exact ⟨_, _, _, rfl, hK y a c (N.back (Sub.upd hk _))⟩
theorem mget_mapL {r p u : Nat} : ∀ {E : List En}, (E.map nameL).Pairwise (· < ·) → ∀ e ∈ E, mget (mapL r p u E) (.string e.name) = some (mkB r p u e.c e.t)
  | [], _, e, he => by cases he
  | f :: E, h, e, he => by
    rw [List.map_cons, List.pairwise_cons] at h
    unfold mapL
    rw [List.map_cons]
    unfold mget
    rcases List.mem_cons.1 he with rfl | he
    · rw [List.find?_cons_of_pos (by simp)]; rfl
    · rw [List.find?_cons_of_neg]
      · exact mget_mapL h.2 e he
      · simp only [decide_eq_true_eq]
        intro e2
        have e3 : f.name = e.name := by injection e2
        have := h.1 (nameL e) (List.mem_map.2 ⟨e, he, rfl⟩)
        unfold nameL at this
        rw [e3] at this
        exact List.lt_irrefl _ this
theorem strC_get {E : List En} {j : Nat} {e : En} (h : E[j]? = some e) : (E.map (·.name))[j]? = some e.name := by rw [List.getElem?_map, h]; rfl
theorem encode_spec {h : Hp} {lb mb r p u n : Nat} {E : List En} (L : LimAt h lb mb r p u n E) (hE : E.length ≤ 32) (hM : ltM r p u) (hn : n ≤ 32) (hlen : (encL r p u n E).length ≤ 3000) {K : Value → Hp → Prop}
    (hK : ∀ y a c, NewR byteC 1 tByte h y a c (encL r p u n E) → K (.slice a (encL r p u n E).length c) y) : CallsH Try.prog limit_Limiter_Encode.id #[.pointer (some ⟨lb, 0, none⟩)] h K := by
  apply limit_Limiter_Encode.calls
  unfold limit_Limiter_Encode.W
  obtain ⟨o, ho, hm⟩ := L.map
  have hml : (mlen (mapL r p u E)) = E.length := List.length_map ..
  refine ⟨_, L.blk.cell' 3 rfl, _, L.blk.cell' 0 rfl, _, L.blk.cell' 1 rfl, _, L.blk.cell' 2 rfl, _, L.blk.cell' 4 rfl, mb, o, _, rfl, ho, hm, Sub.refl _, fun k9 hk9 => ?_⟩
  rw [hml]
  have V : Blk (h.upd k9 (.cells #[.int .i64 (n : Nat), .int .i64 (r : Nat), .int .i64 (p : Nat), .int .i64 (u : Nat), .int .i64 (Int.ofNat E.length)] 3 (0, 0))) k9 3 ([n, r, p, u, E.length].map fun (v : Nat) => .int .i64 (v : Int)) := Blk.new _ k9 3 _
  have s9 : Sub h (h.upd k9 (.cells #[.int .i64 (n : Nat), .int .i64 (r : Nat), .int .i64 (p : Nat), .int .i64 (u : Nat), .int .i64 (Int.ofNat E.length)] 3 (0, 0))) := Sub.upd hk9 _
  generalize h.upd k9 (.cells #[.int .i64 (n : Nat), .int .i64 (r : Nat), .int .i64 (p : Nat), .int .i64 (u : Nat), .int .i64 (Int.ofNat E.length)] 3 (0, 0)) = h9 at V s9
  obtain ⟨⟨r1, r2⟩, ⟨p1, p2⟩, u1, u2⟩ := id hM
  have hall : ∀ v ∈ [n, r, p, u, E.length], v < 1099511627776 := by
    intro v hv
    simp only [List.mem_cons, List.not_mem_nil, or_false] at hv
    omega
  have hEl : (textL [n, r, p, u, E.length]).length + (encE E).length ≤ 3000 := by unfold encL at hlen; rw [List.length_append] at hlen; exact hlen
  have hEL : [n, r, p, u, E.length].length = 5 := rfl
  have hK : ∀ y a c, NewR byteC 1 tByte h y a c (textL [n, r, p, u, E.length] ++ encE E) → K (.slice a (textL [n, r, p, u, E.length] ++ encE E).length c) y := hK
  generalize [n, r, p, u, E.length] = ns at V hall hEl hEL hK
  have part : ∀ j, (textL (ns.take j)).length ≤ (textL ns).length := fun j => by
    conv => rhs; rw [← List.take_append_drop j ns, textL_append, List.length_append]
    omega
  have partE : ∀ j, (encE (E.take j)).length ≤ (encE E).length := fun j => by
    conv => rhs; rw [← List.take_append_drop j E]; unfold encE; rw [List.flatMap_append, List.length_append]
    unfold encE; omega
  refine ⟨fun a k c i x m => ∃ j : Nat, i = (j : Int) ∧ j ≤ 5 ∧ m = 5 - j ∧ k = (textL (ns.take j)).length ∧ NewR byteC 1 tByte h9 x a c (textL (ns.take j)), ⟨_, 0, rfl, by decide, rfl, rfl, NewR.nil _ _⟩, ?_⟩
  rintro a k c i x m ⟨j, rfl, hj, rfl, rfl, Nw⟩
  refine split_dec (fun g => ?_) fun g => ?_
  · have g : j < 5 := by have : (j : Int) < 5 := g; omega
    obtain ⟨v, hv⟩ : ∃ v, ns[j]? = some v := ⟨_, List.getElem?_eq_getElem (by omega)⟩
    have hvl := hall v (List.mem_of_getElem? hv)
    have ht : ns.take (j + 1) = ns.take j ++ [v] := by rw [List.take_add_one, hv]; rfl
    have e : 0 + (j : Int).toNat * 1 = j := by omega
    have hpj := part j
    refine ⟨by omega, by omega, k9, 0, rfl, (v : Int), ?_, ?_⟩
    · rw [e]
      exact (V.sub Nw.sub).cell' j (by rw [List.getElem?_map, hv]; rfl)
    · rw [wrap64s v (by omega)]
      exact put_num_spec Nw.own.row (by omega) v (by omega) fun y a2 c2 N2 => ⟨_, _, _, rfl, 5 - (j + 1), by omega, j + 1, by rw [wid (by omega) (by omega)]; omega, by omega, rfl, by rw [ht, textL_append, textL_one], by rw [ht, textL_append, textL_one]; exact N2.back Nw.sub⟩
  · have : j = 5 := by
      have : ¬ (j : Int) < 5 := g
      omega
    subst this
    rw [List.take_of_length_le (by omega)] at Nw ⊢
    refine names_spec (L.sub (s9.trans Nw.sub)) hE fun x2 a2 c2 N2 => ⟨_, _, _, rfl, ?_⟩
    refine ⟨fun a k c i x m => ∃ j : Nat, i = (j : Int) ∧ j ≤ E.length ∧ m = E.length - j ∧ k = (textL ns ++ encE (E.take j)).length ∧ Sub x2 x ∧ NewR byteC 1 tByte h x a c (textL ns ++ encE (E.take j)), ⟨_, 0, rfl, by omega, rfl, by simp [encE], Sub.refl _, by
      have := (Nw.upd N2.sub).back s9
      simpa [encE] using this⟩, ?_⟩
    rintro a3 k3 c3 i x3 m ⟨j, rfl, hj, rfl, rfl, s3, N3⟩
    have hpj := partE j
    refine split_dec (fun g => ?_) fun g => ?_
    · have g : j < E.length := by have : (j : Int) < (E.length : Int) := g; omega
      obtain ⟨e, he⟩ : ∃ e, E[j]? = some e := ⟨_, List.getElem?_eq_getElem g⟩
      have hem := List.mem_of_getElem? he
      obtain ⟨hB, hsz⟩ := L.ok.ok e hem
      have hup := up_bound hM
      have hcb := hB.2.2
      have htb := hB.2.1
      unfold ltT at htb
      have ht : E.take (j + 1) = E.take j ++ [e] := by rw [List.take_add_one, he]; rfl
      have hpj1 := partE (j + 1)
      rw [ht, encE_snoc, List.length_append] at hpj1
      unfold encOne at hpj1
      simp only [List.length_append] at hpj1
      rw [size_len] at hpj1
      obtain ⟨b, o2, ea, hc⟩ := (N2.own.sub s3).row.get strC_len (by decide) (strC_get he)
      have hc := hc 0 _ rfl
      have L3 := (L.sub s9).sub ((Nw.sub.trans N2.sub).trans s3)
      obtain ⟨o3, ho3, hm3⟩ := L3.map
      refine ⟨by omega, by show (j : Int) < (E.length : Int); omega, b, o2, ea, _, hc, _, L3.blk.cell' 4 rfl, mb, o3, _, rfl, ho3, hm3, _, _, _, _, _, true, .inl ⟨rfl, mget_mapL L.ok.ord e hem⟩, ?_⟩
      refine puttext_spec N3.own.row (by rw [List.length_append]; omega) e.name (by omega) fun x4 a4 c4 N4 => ⟨_, _, _, rfl, N4.sub, ?_⟩
      rw [wrap64s e.c (by omega)]
      refine put_num_spec N4.own.row (by simp only [List.length_append]; rw [size_len]; omega) e.c (by omega) fun x5 a5 c5 N5 => ⟨_, _, _, rfl, N4.sub.trans N5.sub, ?_⟩
      rw [wrap64s e.t (by omega)]
      refine put_num_spec N5.own.row (by simp only [List.length_append]; rw [size_len]; omega) e.t (by omega) fun x6 a6 c6 N6 => ⟨_, _, _, rfl, E.length - (j + 1), by omega, j + 1, by rw [wid (by omega) (by omega)]; omega, by omega, rfl, ?_, (s3.trans N4.sub).trans (N5.sub.trans N6.sub), ?_⟩
      · rw [ht, encE_snoc]; unfold encOne; simp only [List.append_assoc]
      · have e6 : textL ns ++ encE (E.take (j + 1)) = textL ns ++ encE (E.take j) ++ numE e.name.size ++ e.name.data.toList ++ numE e.c ++ numE e.t := by
          rw [ht, encE_snoc]; unfold encOne; simp only [List.append_assoc]
        rw [e6]
        exact ((N6.back N5.sub).back N4.sub).back N3.sub
    · have : j = E.length := by
        have : ¬ (j : Int) < (E.length : Int) := g
        omega
      subst this
      rw [List.take_length] at N3 ⊢
      exact hK x3 a3 c3 N3
end Go.Proofs.Ytagglohkipioiaa
