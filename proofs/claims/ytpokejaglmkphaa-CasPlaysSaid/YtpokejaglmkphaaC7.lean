/- References that are given and taken away again: CasEnds and CasBeside over heaps; no table, no store: CasNils. Conditions: none beyond the arguments' reading. -/
import Derived.Test.YtpokejaglmkphaaC6
namespace Go.Proofs.Ytpokejaglmkphaa
open Go.Gx
set_option maxRecDepth 100000
set_option linter.unusedVariables false
variable {h : Hp} {sb tb width : Nat} {full : Int} {X : List KV} {l : List Ct} {K : Value → Hp → Prop} {ids : List Id} {p : Id}

/-! ### references that are held -/
def cntI (p : Id) (ids : List Id) : Nat := ids.countP fun q => decide (q = p)
theorem cntI_append (p : Id) (a b : List Id) : cntI p (a ++ b) = cntI p a + cntI p b := List.countP_append
theorem cntI_cons (p q : Id) (a : List Id) : cntI p (q :: a) = cntI p a + if q = p then 1 else 0 := by
  unfold cntI
  rw [List.countP_cons]
  by_cases h : q = p
  · simp [h]
  · simp [h]
theorem cntI_one (p q : Id) : cntI p [q] = if q = p then 1 else 0 := by rw [cntI_cons]; simp [cntI]
theorem cntI_pos {p : Id} {a : List Id} : 0 < cntI p a ↔ p ∈ a := by
  unfold cntI
  rw [List.countP_pos_iff]
  constructor
  · rintro ⟨q, hq, e⟩; rw [← of_decide_eq_true e]; exact hq
  · exact fun hp => ⟨p, hp, decide_eq_true rfl⟩
structure Held (ids : List Id) (l : List Ct) : Prop where
  refs : ∀ c ∈ l, c.refs = cntI c.id ids
  here : ∀ p ∈ ids, ∃ c ∈ l, c.id = p
theorem Held.nil : Held [] [] := ⟨(fun c hc => by cases hc), fun p hp => by cases hp⟩
theorem Held.end_ (H : Held [] l) (ok : CtsOk width l) : l = [] := by
  cases l with
  | nil => rfl
  | cons c l =>
    have h1 := H.refs c (List.mem_cons_self)
    have h2 := (ok.refs c (List.mem_cons_self)).1
    rw [h1] at h2
    cases h2
theorem Held.again (H : Held ids l) (ok : CtsOk width l) {i : Nat} {c : Ct} (hi : l[i]? = some c) : Held (ids ++ [c.id]) (withC l i (c.refs + 1)) := by
  have hc := List.mem_of_getElem? hi
  refine ⟨fun d hd => ?_, fun p hp => ?_⟩
  · rw [cntI_append, cntI_one]
    rcases withC_mem hi (by omega) ok hd with rfl | ⟨h1, h2, h3⟩
    · show c.refs + 1 = cntI c.id ids + if c.id = c.id then 1 else 0
      rw [if_pos rfl, H.refs c hc]
    · rw [if_neg (fun e => h3 e.symm), H.refs d h1]; omega
  · have hmap := (withC_data hi (show 0 < c.refs + 1 by omega)).2.1
    have : p ∈ l.map Ct.id := by
      rcases List.mem_append.1 hp with hp | hp
      · obtain ⟨d, hd, e⟩ := H.here p hp
        exact List.mem_map.2 ⟨d, hd, e⟩
      · rw [List.mem_singleton.1 hp]
        exact List.mem_map.2 ⟨c, hc, rfl⟩
    rw [← hmap] at this
    obtain ⟨d, hd, e⟩ := List.mem_map.1 this
    exact ⟨d, hd, e⟩
theorem Held.put (H : Held ids l) (ok : CtsOk width l) {l' : List Ct} {data : ByteArray} (ok' : CtsOk width l') (S : PutStep width l data l' p) : Held (ids ++ [p]) l' := by
  cases S with
  | old i c hi hd => exact H.again ok hi
  | new n hd =>
    have hno : ∀ c ∈ l, c.id ≠ (digest data width, (n : Int)) := by
      intro c hc e
      have := (List.pairwise_append.1 ok'.id).2.2 c hc _ (List.mem_singleton.2 rfl)
      refine this ⟨congrArg Prod.fst e, ?_⟩
      have := congrArg Prod.snd e
      unfold Ct.id at this
      simp at this
      show c.n = n
      omega
    refine ⟨fun c hc => ?_, fun p hp => ?_⟩
    · rw [cntI_append, cntI_one]
      rcases List.mem_append.1 hc with hc | hc
      · rw [if_neg (fun e => hno c hc e.symm), H.refs c hc]; omega
      · rw [List.mem_singleton.1 hc]
        show 1 = cntI (digest data width, (n : Int)) ids + if (digest data width, (n : Int)) = (digest data width, (n : Int)) then 1 else 0
        have : cntI (digest data width, (n : Int)) ids = 0 := by
          by_cases h0 : cntI (digest data width, (n : Int)) ids = 0
          · exact h0
          · obtain ⟨c, hc, e⟩ := H.here _ (cntI_pos.1 (Nat.pos_of_ne_zero h0))
            exact absurd e (hno c hc)
        rw [this, if_pos rfl]
    · rcases List.mem_append.1 hp with hp | hp
      · obtain ⟨d, hd, e⟩ := H.here p hp
        exact ⟨d, List.mem_append_left _ hd, e⟩
      · rw [List.mem_singleton.1 hp]
        exact ⟨_, List.mem_append_right _ (List.mem_singleton.2 rfl), rfl⟩
theorem Held.take {us vs : List Id} {i : Nat} {c : Ct} (hi : l[i]? = some c) (H : Held (us ++ c.id :: vs) l) (ok : CtsOk width l) : Held (us ++ vs) (withC l i (c.refs - 1)) := by
  have hc := List.mem_of_getElem? hi
  have hr := H.refs c hc
  rw [cntI_append, cntI_cons, if_pos rfl] at hr
  by_cases h0 : c.refs - 1 = 0
  · rw [h0, withC_zero hi]
    have hl := at_split hi
    have o2 := ok.id
    rw [hl, List.pairwise_append, List.pairwise_cons] at o2
    have e : ∀ a b : Ct, a.id = b.id → a.sum = b.sum ∧ a.n = b.n := fun a b e => ⟨congrArg Prod.fst e, by have := congrArg Prod.snd e; unfold Ct.id at this; simp at this; omega⟩
    have hne : ∀ d ∈ l.take i ++ l.drop (i + 1), d ∈ l ∧ d.id ≠ c.id := by
      intro d hd
      rcases List.mem_append.1 hd with hd | hd
      · exact ⟨List.mem_of_mem_take hd, fun e2 => o2.2.2 d hd c (List.mem_cons_self) (e _ _ e2)⟩
      · exact ⟨List.mem_of_mem_drop hd, fun e2 => o2.2.1.1 d hd (e _ _ e2.symm)⟩
    refine ⟨fun d hd => ?_, fun p hp => ?_⟩
    · obtain ⟨h1, h2⟩ := hne d hd
      have := H.refs d h1
      rw [cntI_append, cntI_cons, if_neg (fun e => h2 e.symm)] at this
      rw [cntI_append, this]; omega
    · have hp2 : p ≠ c.id := by
        intro e
        have := cntI_pos.2 hp
        rw [cntI_append, e] at this
        omega
      obtain ⟨d, hd, e2⟩ := H.here p (by
        rcases List.mem_append.1 hp with hp | hp
        · exact List.mem_append_left _ hp
        · exact List.mem_append_right _ (List.mem_cons_of_mem _ hp))
      refine ⟨d, ?_, e2⟩
      rw [hl] at hd
      rcases List.mem_append.1 hd with hd | hd
      · exact List.mem_append_left _ hd
      · rcases List.mem_cons.1 hd with hd | hd
        · exact absurd (e2.symm.trans (by rw [hd])) hp2
        · exact List.mem_append_right _ hd
  · refine ⟨fun d hd => ?_, fun p hp => ?_⟩
    · rw [cntI_append]
      rcases withC_mem hi (by omega) ok hd with rfl | ⟨h1, h2, h3⟩
      · show c.refs - 1 = cntI c.id us + cntI c.id vs
        omega
      · have := H.refs d h1
        rw [cntI_append, cntI_cons, if_neg (fun e => h3 e.symm)] at this
        omega
    · have hmap := (withC_data hi (show 0 < c.refs - 1 by omega)).2.1
      obtain ⟨d, hd, e2⟩ := H.here p (by
        rcases List.mem_append.1 hp with hp | hp
        · exact List.mem_append_left _ hp
        · exact List.mem_append_right _ (List.mem_cons_of_mem _ hp))
      have : p ∈ l.map Ct.id := List.mem_map.2 ⟨d, hd, e2⟩
      rw [← hmap] at this
      obtain ⟨d, hd, e⟩ := List.mem_map.1 this
      exact ⟨d, hd, e⟩
theorem cntI_le (p : Id) (ids : List Id) : cntI p ids ≤ ids.length := List.countP_le_length
theorem Held.refs_le (H : Held ids l) : ∀ c ∈ l, c.refs ≤ ids.length := fun c hc => by rw [H.refs c hc]; exact cntI_le _ _
theorem findC_id (ok : CtsOk width l) {c : Ct} (hc : c ∈ l) {p : Id} (e : c.id = p) : findC l p.1 p.2 = some c := by
  rw [← e]; exact findC_some ok hc
theorem withC_len (l : List Ct) (i r : Nat) : (withC l i r).length ≤ l.length := by
  cases hi : l[i]? with
  | none =>
    have := List.getElem?_eq_none_iff.1 hi
    unfold withC
    rw [hi]
    simp; omega
  | some c =>
    by_cases h0 : r = 0
    · subst h0
      rw [withC_zero hi]
      have := (List.getElem?_eq_some_iff.1 hi).1
      simp; omega
    · rw [(withC_data hi (by omega)).2.2]; exact Nat.le_refl _
theorem at_splitI {ids : List Id} {p : Id} {i : Nat} (h : ids[i]? = some p) : ids = ids.take i ++ p :: ids.drop (i + 1) := by
  obtain ⟨h1, h2⟩ := List.getElem?_eq_some_iff.1 h
  conv => lhs; rw [← List.take_append_drop i ids, List.drop_eq_getElem_cons h1, h2]
theorem slA_zero {α : Type} {f : α → List Value} {sz : Nat} {x : Hp} {e : TypeId} {a : Option Addr} {c : Nat} {L : List α} (O : OwnR f sz x e a c L) : slA c 0 sz a = a := by
  unfold slA
  split
  · rfl
  · rcases O.2.2 with ⟨rfl, _⟩ | ⟨b, r, rfl, _⟩
    · rfl
    · rw [Option.map_some, Nat.zero_mul, add_mk]
theorem _root_.Go.Gx.OwnR.take {α : Type} {f : α → List Value} {sz : Nat} (hf : ∀ x, (f x).length = sz) {x : Hp} {e : TypeId} {a : Option Addr} {c : Nat} {L : List α} (O : OwnR f sz x e a c L) {k : Nat} (hk : k ≤ L.length) : OwnR f sz x e a c (L.take k) := by
  have := Own.take O hk
  rw [rowC_take hf] at this
  unfold OwnR
  rw [List.length_take, Nat.min_eq_left hk]
  exact this
theorem live_ok {x : Hp} (s : Sub h x) : CallsH Try.prog 10 #[] x (fun v y => ∃ b, v = .bool b ∧ (fun (v : Value) (h' : Hp) => v = .bool true ∧ Sub h h') (.bool b) y) := lives_spec fun z2 s2 => ⟨_, rfl, rfl, s.trans s2⟩
theorem str_at {la : Option Addr} {ds : List ByteArray} (hr : RowAt strC 1 h la ds) {x : Hp} {i : Nat} {s : ByteArray} (sx : Sub h x) (hs : ds[i]? = some s) : ∃ b o, la = some ⟨b, o, none⟩ ∧ x.cell b (o + i * 1) = some (.string s) := by
  obtain ⟨b, o, e, hc⟩ := (hr.sub sx).get strC_len (by decide) hs
  exact ⟨b, o, e, hc 0 _ rfl⟩
def intC (n : Int) : List Value := [.int .i64 n]
theorem intC_len (n : Int) : (intC n).length = 1 := rfl

theorem ends_core (width : Int) (la : Option Addr) (lc : Nat) (ds : List ByteArray) (hr : RowAt strC 1 h la ds) (oa : Option Addr) (oc : Nat) (os : List Int) (ho : RowAt intC 1 h oa os) :
    CallsH Try.prog 6 #[.int .i64 width, .slice la ds.length lc, .slice oa os.length oc] h fun v h' => v = .bool true ∧ Sub h h' := by
  apply law09_CasEnds.calls
  unfold law09_CasEnds.W
  intro k hk
  refine casNew0_spec hk (-1) width (fun e h1 s1 => ⟨_, _, rfl, split_ne (fun _ => split_cond (fun _ => live_ok s1) fun e => by cases e) fun e => by cases e⟩) fun w ew w1 w2 sb h1 s1 C => ⟨_, _, rfl, split_ne (fun e => absurd rfl e) fun _ => ?_⟩
  refine ⟨fun a l c x => ∃ cts ids, l = ids.length ∧ l ≤ 80 ∧ cts.length ≤ 80 ∧ Run h x sb k w (-1) [] cts a c ids ∧ Held ids cts, ?_,
    fun a l c n x m => ∃ cts ids, l = ids.length ∧ Run h x sb k w (-1) [] cts a c ids ∧ Held ids cts ∧ ∃ i : Nat, n = (i : Int) ∧ i ≤ 40 ∧ i ≤ ds.length ∧ l = 2 * i ∧ cts.length ≤ i ∧ m = 40 - i,
    ⟨_, [], [], rfl, Run.start s1 hk C, Held.nil, 0, rfl, by decide, by omega, rfl, by decide, rfl⟩, ?_⟩
  · -- taking
    rintro a l c x ⟨cts, ids, rfl, hl80, hc80, R, H⟩
    refine ⟨fun a l c n x m => ∃ cts ids, l = ids.length ∧ m = l ∧ cts.length ≤ 80 ∧ Run h x sb k w (-1) [] cts a c ids ∧ Held ids cts ∧ ∃ i : Nat, n = (i : Int) ∧ i + l ≤ 80, ⟨_, cts, ids, rfl, rfl, hc80, R, H, 0, rfl, by omega⟩, ?_⟩
    rintro a l c n x m ⟨cts, ids, rfl, rfl, hc80, R, H, i, rfl, hi⟩
    refine split_dec (fun g => ?_) (fun g => ?_)
    · have g : 0 < ids.length := by have : (ids.length : Int) > 0 := g; omega
      refine ⟨fun n y => y = x ∧ ∃ q : Nat, n = (q : Int) ∧ q < ids.length, ?_, split_dec (fun g2 => ?_) fun g2 => ⟨rfl, 0, rfl, g⟩⟩
      · rintro n y ⟨rfl, q, rfl, hq⟩
        have hp : ids[q]? = some ids[q] := List.getElem?_eq_getElem hq
        generalize ids[q] = p at hp
        obtain ⟨bb, o, ea, hc⟩ := R.row.row.get idC_len (by decide) hp
        obtain ⟨d, hd, hdp⟩ := H.here p (List.mem_of_getElem? hp)
        have hf := findC_id R.cas.ok hd hdp
        refine ⟨by omega, by show (q : Int) < (ids.length : Int); omega, bb, o, ea, _, hc 0 _ rfl, _, hc 1 _ rfl, take_spec R.cas (by simp; omega) _ _ (fun e => by rw [hf] at e; cases e) fun i2 c2 hi2 hid x2 k2 C2 => ⟨_, rfl, split_ne (fun e => absurd rfl e) fun _ => ?_⟩⟩
        have R2 := R.change k2 C2
        have hsp := at_splitI hp
        have hidp : c2.id = p := hid
        have H2 : Held (ids.take q ++ ids.drop (q + 1)) (withC cts i2 (c2.refs - 1)) := by
          rw [hsp, ← hidp] at H
          exact H.take hi2 R.cas.ok
        have hle := R.row.le
        have w1 : IntKind.i64.wrap ((q : Int) + 1) = ((q + 1 : Nat) : Int) := by rw [wid (by omega) (by omega)]; omega
        rw [w1]
        have e1 : ((q + 1 : Nat) : Int).toNat = q + 1 := rfl
        have e2 : ((q : Nat) : Int).toNat = q := rfl
        rw [e1, e2, slA_zero R.row]
        refine ⟨by omega, by show (q : Int) ≤ (c : Int); omega, by omega, by show ((q + 1 : Nat) : Int) ≤ (ids.length : Int); omega, rowC idC (ids.drop (q + 1)), ?_, fun a' c' z => Run h z sb k w (-1) [] (withC cts i2 (c2.refs - 1)) a' c' (ids.take q ++ ids.drop (q + 1)), fun a' c' z R3 => ⟨_, ?_, _, _, ?_, rfl, Nat.le_trans (withC_len _ _ _) hc80, R3, H2, i + 1, by rw [wid (by omega) (by omega)]; omega, ?_⟩, ?_⟩
        · have := R2.row.row.part idC_len (c := c) (i := q + 1) (n := ids.length - (q + 1)) hle (by omega)
          rw [List.take_of_length_le (by rw [List.length_drop]; exact Nat.le_refl _)] at this
          unfold RowAt at this
          rw [List.length_drop] at this
          exact this
        · omega
        · rw [List.length_append, List.length_take, List.length_drop]; omega
        · omega
        · refine R2.append (R2.row.take idC_len (by omega)) ?_ ?_ ?_ rfl fun a' c' z R3 => R3
          · rw [List.length_take, List.length_drop]; omega
          · rw [List.length_take]; omega
          · rw [List.length_drop]
      · have g2 : i < os.length := by have : (i : Int) < (os.length : Int) := g2; omega
        have hn : os[i]? = some os[i] := List.getElem?_eq_getElem g2
        generalize os[i] = n at hn
        obtain ⟨bb, o, ea, hc⟩ := (ho.sub R.sub).get intC_len (by decide) hn
        refine ⟨by omega, by show (i : Int) < (os.length : Int); omega, bb, o, ea, _, hc 0 _ rfl, split_dec (fun g3 => ?_) fun g3 => ⟨rfl, 0, rfl, g⟩⟩
        have g3 : 0 ≤ n := g3
        refine ⟨by omega, by show (i : Int) < (os.length : Int); omega, bb, o, ea, _, hc 0 _ rfl, fun e => by have e : (ids.length : Int) = 0 := e; omega, rfl, (n % (ids.length : Int)).toNat, ?_, ?_⟩
        · show n.tmod (ids.length : Int) = _
          rw [Int.tmod_eq_emod_of_nonneg g3]
          have := Int.emod_nonneg n (show (ids.length : Int) ≠ 0 by omega)
          omega
        · have h1 := Int.emod_nonneg n (show (ids.length : Int) ≠ 0 by omega)
          have h2 := Int.emod_lt_of_pos n (show (0 : Int) < (ids.length : Int) by omega)
          omega
    · have : ids = [] := List.length_eq_zero_iff.1 (by have : ¬ (ids.length : Int) > 0 := g; omega)
      subst this
      have hcts := H.end_ R.cas.ok
      subst hcts
      refine count_spec R.cas (by decide) fun z sz => ⟨_, _, rfl, split_eq (fun _ => split_eq (fun _ => ?_) fun e => absurd rfl e) fun e => absurd rfl e⟩
      obtain ⟨ta, tc, ht⟩ := (R.cas.sub sz).cell
      exact ⟨_, _, _, ht, split_eq (fun _ => live_ok (R.sub.trans sz)) fun e => absurd rfl e⟩
  · -- putting
    rintro a l c n x m ⟨cts, ids, rfl, R, H, i, rfl, hi40, hids, hl2, hcl, rfl⟩
    refine split_dec (fun g => split_dec (fun g2 => ?_) fun g2 => ⟨cts, ids, rfl, by omega, by omega, R, H⟩) fun g => ⟨cts, ids, rfl, by omega, by omega, R, H⟩
    have g : i < ds.length := by have : (i : Int) < (ds.length : Int) := g; omega
    have hd : ds[i]? = some ds[i] := List.getElem?_eq_getElem g
    generalize ds[i] = d at hd
    obtain ⟨b1, o1, ea1, hc1⟩ := str_at hr R.sub hd
    refine ⟨by omega, by show (i : Int) < (ds.length : Int); omega, b1, o1, ea1, _, hc1, split_dec (fun _ => live_ok R.sub) fun gs => ?_⟩
    have gs : d.size ≤ 128 := by have : ¬ ((d.size : Nat) : Int) > 128 := gs; omega
    refine ⟨by omega, by show (i : Int) < (ds.length : Int); omega, b1, o1, ea1, _, hc1, put_ok R.cas (by decide) (by omega) (fun c hc => ?_) (by decide) d gs fun l' p x2 S k2 C2 => ⟨_, _, _, rfl, split_ne (fun e => absurd rfl e) fun _ => ?_⟩⟩
    · have := H.refs_le c hc; omega
    have R2 := R.change k2 C2
    have H2 := H.put R.cas.ok C2.ok S
    obtain ⟨d2, hd2, hdp⟩ := H2.here p (List.mem_append_right _ (List.mem_singleton.2 rfl))
    have hf := findC_id C2.ok hd2 hdp
    have hl' := S.len
    refine again_spec C2 (by simp; omega) _ _ (fun e => by rw [hf] at e; cases e) (fun i2 c2 hi2 hid hmax => ?_) fun i2 c2 hi2 hid hlt x3 k3 C3 => ⟨_, rfl, split_ne (fun e => absurd rfl e) fun _ => ?_⟩
    · have := H2.refs_le c2 (List.mem_of_getElem? hi2)
      rw [List.length_append, List.length_singleton] at this
      omega
    have R3 := R2.change k3 C3
    have H3 := H2.again C2.ok hi2
    have hidp : c2.id = p := hid
    rw [hidp, List.append_assoc] at H3
    intro k2' hk2'
    have R4 := R3.look (Sub.upd hk2' (.cells #[.string p.1, .int .i64 p.2, .string p.1, .int .i64 p.2] 34 (0, 0)))
    refine ⟨rowC idC ([p] ++ [p]), (Blk.new _ _ _ (rowC idC ([p] ++ [p]))).slice rfl, fun a' c' z => Run h z sb k w (-1) [] (withC l' i2 (c2.refs + 1)) a' c' (ids ++ ([p] ++ [p])), fun a' c' z R5 => ⟨_, ?_, _, _, by simp, R5, H3, i + 1, by rw [wid (by omega) (by omega)]; omega, by omega, by omega, by omega, ?_, rfl⟩, R4.append R4.row (M := [p] ++ [p]) (by simp; omega) rfl rfl rfl fun a' c' z R5 => R5⟩
    · omega
    · rw [(withC_data hi2 (show 0 < c2.refs + 1 by omega)).2.2]; omega

/-! ### what stands beside -/
theorem table_is (C : CasAt h sb tb width full X []) (hX : X.length ≤ 1) : TableAt h tb full X := by
  obtain ⟨⟨L, S, R⟩, w1, w2⟩ := C
  have hp := R.perm
  have : L = X := by
    match X, hX, hp with
    | [], _, hp => exact hp.eq_nil
    | [x], _, hp => exact List.perm_singleton.1 hp
  rw [← this]
  exact S.table
theorem beside_core (width : Int) (la : Option Addr) (lc : Nat) (ds : List ByteArray) (hr : RowAt strC 1 h la ds) (key v : ByteArray) :
    CallsH Try.prog 7 #[.int .i64 width, .slice la ds.length lc, .agg #[.string key, .string v]] h fun v h' => v = .bool true ∧ Sub h h' := by
  apply law09_CasBeside.calls
  unfold law09_CasBeside.W
  intro k hk
  have fin : ∀ {x : Hp} {n : Int} {P : Option Addr}, Sub h x → n = 0 ∨ (n ≠ 0 ∧ P.isNone = true) → cond (hb (n == 0)) (CallsH Try.prog 10 #[] x (fun v y => ∃ b, v = .bool b ∧ (fun (v : Value) (h' : Hp) => v = .bool true ∧ Sub h h') (.bool b) y))
      (cond P.isNone (CallsH Try.prog 10 #[] x (fun v y => ∃ b, v = .bool b ∧ (fun (v : Value) (h' : Hp) => v = .bool true ∧ Sub h h') (.bool b) y)) ((fun (v : Value) (h' : Hp) => v = .bool true ∧ Sub h h') (.bool false) x)) := by
    intro x n P s hn
    refine split_eq (fun _ => live_ok s) fun e => split_cond (fun _ => live_ok s) fun e2 => ?_
    rcases hn with hn | ⟨_, hn⟩
    · exact absurd hn e
    · rw [hn] at e2; cases e2
  refine casNew0_spec hk (-1) width (fun e h1 s1 => ⟨_, _, rfl, fun _ => False, fun x hx => hx.elim, split_ne (fun _ => fin s1 (.inr ⟨by decide, rfl⟩)) fun e => by cases e⟩) fun w ew w1 w2 sb h1 s1 C => ⟨_, _, rfl, fun x => x = h1 ∧ 1 ≤ key.size ∧ byteAt key 0 ≠ 99, ?_,
    split_ne (fun e => absurd rfl e) fun _ => split_dec (fun _ => fin s1 (.inl rfl)) fun g1 => ?_⟩
  rotate_left
  · have g1 : 1 ≤ key.size := by have : ¬ ((key.size : Nat) : Int) < 1 := g1; omega
    refine split_cond (fun _ => split_eq (fun _ => fin s1 (.inl rfl)) fun g2 => split_dec (fun _ => fin s1 (.inl rfl)) fun _ => split_dec (fun _ => fin s1 (.inl rfl)) fun _ => ⟨rfl, g1, g2⟩) fun e => ?_
    have : Nat.blt 0 key.size = true := Nat.ble_eq ▸ g1
    rw [this] at e; cases e
  rintro x ⟨rfl, hk1, hk2⟩
  have hother : ∀ q ∈ [(key, v)], q.1.data.toList.head? ≠ some 99 ∧ q.1.data.toList ≠ [] := by
    intro q hq
    rw [List.mem_singleton.1 hq]
    have hne : key.data.toList.length = key.size := by rw [Array.length_toList]; rfl
    refine ⟨fun e => hk2 ?_, fun e => ?_⟩
    · unfold byteAt
      rw [List.head?_eq_getElem?] at e
      show (((key.data.toList[0]?).getD 0).toNat : Int) = 99
      rw [e]; rfl
    · have e : key.data.toList = [] := e
      rw [e] at hne; simp at hne; omega
  refine tablePut_spec (table_is C (by decide)) (by decide) key v (fun _ e _ => absurd e (by decide)) fun _ x2 kx T => ⟨_, rfl, ?_⟩
  have C2 : CasAt x2 sb k w (-1) [(key, v)] [] := by
    obtain ⟨⟨L, S, R⟩, w1, w2⟩ := C
    exact ⟨⟨[(key, v)], S.keep kx T, ⟨R.ok, List.pairwise_singleton _ _, List.Perm.refl _, hother⟩⟩, w1, w2⟩
  have s2 : Sub h x2 := kx.sub s1 fun c e => by rw [e]; exact hk
  refine ⟨fun a l c x => ∃ cts ids, l = ids.length ∧ l ≤ 40 ∧ cts.length ≤ 40 ∧ Run h x sb k w (-1) [(key, v)] cts a c ids ∧ Held ids cts, ?_,
    fun a l c n x m => ∃ cts ids, l = ids.length ∧ Run h x sb k w (-1) [(key, v)] cts a c ids ∧ Held ids cts ∧ n = (l : Int) ∧ l ≤ 30 ∧ l ≤ ds.length ∧ cts.length ≤ l ∧ m = 30 - l,
    ⟨_, [], [], rfl, Run.start s2 hk C2, Held.nil, rfl, by decide, by omega, by decide, rfl⟩, ?_⟩
  · -- taking
    rintro a l c x ⟨cts, ids, rfl, hl40, hc40, R, H⟩
    refine ⟨fun n y m => ∃ (j : Nat) (cts : List Ct), n = (j : Int) ∧ j ≤ ids.length ∧ m = ids.length - j ∧ cts.length ≤ 40 ∧ Run h y sb k w (-1) [(key, v)] cts a c ids ∧ Held (ids.drop j) cts, ⟨_, 0, cts, rfl, by omega, rfl, hc40, R, H⟩, ?_⟩
    rintro n y m ⟨j, cts, rfl, hj, rfl, hc40, R, H⟩
    refine split_dec (fun g => ?_) (fun g => ?_)
    · have g : j < ids.length := by have : (j : Int) < (ids.length : Int) := g; omega
      have hp : ids[j]? = some ids[j] := List.getElem?_eq_getElem g
      have hdr := List.drop_eq_getElem_cons g
      generalize ids[j] = p at hp hdr
      obtain ⟨bb, o, ea, hc⟩ := R.row.row.get idC_len (by decide) hp
      rw [hdr] at H
      obtain ⟨d, hd, hdp⟩ := H.here p (List.mem_cons_self)
      have hf := findC_id R.cas.ok hd hdp
      refine ⟨by omega, by show (j : Int) < (ids.length : Int); omega, bb, o, ea, _, hc 0 _ rfl, _, hc 1 _ rfl, take_spec R.cas (by simp; omega) _ _ (fun e => by rw [hf] at e; cases e) fun i2 c2 hi2 hid x2 k2 C2 => ⟨_, rfl, split_ne (fun e => absurd rfl e) fun _ => ⟨_, ?_, j + 1, _, by rw [wid (by omega) (by omega)]; omega, by omega, rfl, Nat.le_trans (withC_len _ _ _) hc40, R.change k2 C2, ?_⟩⟩⟩
      · omega
      · have hidp : c2.id = p := hid
        rw [← hidp] at H
        exact Held.take (us := []) hi2 H R.cas.ok
    · have : j = ids.length := by
        have : ¬ (j : Int) < (ids.length : Int) := g
        omega
      subst this
      rw [List.drop_length] at H
      have hcts := H.end_ R.cas.ok
      subst hcts
      have hkv : kvSorted [(key, v)] := List.pairwise_singleton _ _
      have hget : kvGet key [(key, v)] = some v := (kvGet_iff hkv key v).2 (List.mem_singleton.2 rfl)
      have his : kvIs key [(key, v)] = true := (kvIs_iff hkv key).2 ⟨v, List.mem_singleton.2 rfl⟩
      refine tableGet_spec (table_is R.cas (by show 1 ≤ 1; decide)) (by show 1 < 4294967296; decide) key ⟨_, _, rfl, count_spec R.cas (by show 0 + 1 < 1073741824; decide) fun z sz => ⟨_, _, rfl, ?_⟩⟩
      rw [hget, his]
      refine split_beqS (fun _ => split_cond (fun _ => split_eq (fun _ => split_eq (fun _ => ?_) fun e => absurd rfl e) fun e => absurd rfl e) fun e => by cases e) fun e => absurd rfl e
      obtain ⟨ta, tc, ht⟩ := (R.cas.sub sz).cell
      exact ⟨_, _, _, ht, split_eq (fun _ => live_ok (R.sub.trans sz)) fun e => absurd rfl e⟩
  · -- putting
    rintro a l c n x m ⟨cts, ids, rfl, R, H, rfl, hi30, hids, hcl, rfl⟩
    refine split_dec (fun g => split_dec (fun g2 => ?_) fun g2 => ⟨cts, ids, rfl, by omega, by omega, R, H⟩) fun g => ⟨cts, ids, rfl, by omega, by omega, R, H⟩
    have g : ids.length < ds.length := by have : (ids.length : Int) < (ds.length : Int) := g; omega
    have hd : ds[ids.length]? = some ds[ids.length] := List.getElem?_eq_getElem g
    generalize ds[ids.length] = d at hd
    obtain ⟨b1, o1, ea1, hc1⟩ := str_at hr R.sub hd
    refine ⟨by omega, by show (ids.length : Int) < (ds.length : Int); omega, b1, o1, ea1, _, hc1, split_dec (fun _ => live_ok R.sub) fun gs => ?_⟩
    have gs : d.size ≤ 128 := by have : ¬ ((d.size : Nat) : Int) > 128 := gs; omega
    refine ⟨by omega, by show (ids.length : Int) < (ds.length : Int); omega, b1, o1, ea1, _, hc1, put_ok R.cas (by show 1 ≤ 1; decide) (by omega) (fun c hc => ?_) (by decide) d gs fun l' p x2 S k2 C2 => ⟨_, _, _, rfl, split_ne (fun e => absurd rfl e) fun _ => ?_⟩⟩
    · have := H.refs_le c hc; omega
    have R2 := R.change k2 C2
    have H2 := H.put R.cas.ok C2.ok S
    have hl' := S.len
    intro k2' hk2'
    have R4 := R2.look (Sub.upd hk2' (.cells #[.string p.1, .int .i64 p.2] 34 (0, 0)))
    refine ⟨idC p, (Blk.new _ _ _ (idC p)).slice rfl, fun a' c' z => Run h z sb k w (-1) [(key, v)] l' a' c' (ids ++ [p]), fun a' c' z R5 => ⟨_, ?_, _, _, by simp, R5, H2, by rw [wid (by omega) (by omega)]; omega, by omega, by omega, by omega, rfl⟩, R4.append R4.row (M := [p]) (by simp; omega) rfl rfl (rowC_one _).symm fun a' c' z R5 => R5⟩
    omega

/-! ### nothing -/
theorem lookn_spec (sum : ByteArray) (n : Int) (hK : K (.tuple #[.int .i64 0, .string noB]) h) : CallsH Try.prog cas_Store_look.id #[.pointer none, .agg #[.string sum, .int .i64 n]] h K := by
  apply cas_Store_look_n.calls
  unfold cas_Store_look_n.W
  apply cas_Store_known_n.calls
  exact ⟨_, rfl, hK⟩
theorem nils_core (width : Int) (sum : ByteArray) (n : Int) (data : ByteArray) :
    CallsH Try.prog 8 #[.int .i64 width, .agg #[.string sum, .int .i64 n], .string data] h fun v h' => v = .bool true ∧ Sub h h' := by
  apply law09_CasNils.calls
  unfold law09_CasNils.W
  refine split_dec (fun _ => live_ok (Sub.refl h)) fun _ => ?_
  apply cas_New_z.calls
  refine ⟨_, _, rfl, ?_⟩
  apply cas_Store_Put_n.calls
  refine ⟨_, _, _, rfl, ?_⟩
  apply cas_Store_Get_n.calls
  refine lookn_spec _ _ ⟨_, _, rfl, ?_⟩
  refine ⟨_, _, rfl, ?_⟩
  apply cas_Store_Count_n.calls
  refine ⟨_, _, rfl, split_cond (fun _ => split_eq (fun _ => ?_) fun e => absurd rfl e) fun e => by cases e⟩
  have e1 : (beqS (bytesL []) (bytesL []) && (hb ((0 : Int) == 0) && true)) = true := by rw [idEq]; exact decide_eq_true rfl
  rw [e1]
  refine split_eq (fun _ => split_beqS (fun _ => ?_) fun e => absurd rfl e) fun e => absurd rfl e
  refine split_not (fun _ => ?_) fun e => by rw [hb_eq] at e; exact absurd e (by decide)
  apply cas_Store_Again_n.calls
  refine ⟨_, rfl, Sub.refl _, split_eq (fun _ => ?_) fun e => absurd rfl e⟩
  apply cas_Store_Take_n.calls
  refine ⟨_, rfl, Sub.refl _, split_eq (fun _ => ?_) fun e => absurd rfl e⟩
  apply cas_Store_Refs_n.calls
  refine lookn_spec _ _ ⟨_, _, rfl, _, rfl, Sub.refl _, ?_⟩
  apply cas_Store_Find_n.calls
  refine ⟨_, _, _, rfl, split_eq (fun _ => ?_) fun e => absurd (by rfl) e⟩
  apply cas_Store_Digest_n.calls
  exact ⟨_, rfl, split_beqS (fun _ => live_ok (Sub.refl h)) fun e => absurd rfl e⟩
end Go.Proofs.Ytpokejaglmkphaa
