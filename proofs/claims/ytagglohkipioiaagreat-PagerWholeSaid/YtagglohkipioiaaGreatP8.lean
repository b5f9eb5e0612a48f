/- A pager in memory, and what it tells. Conditions: it stands as it is named; the power is on where it reads. -/
import Derived.Test.YtagglohkipioiaaGreatP6
namespace Go.Proofs.YtagglohkipioiaaGreat
open Go.Gx
set_option maxRecDepth 100000
set_option linter.unusedVariables false

structure Hd where
  s : Nat
  r : Nat → Nat
  u : Nat → Bool
def Hd.c (H : Hd) : List Value := headC H.s H.r H.u
theorem Hd.len (H : Hd) : H.c.length = 133 := headC_len _ _ _
theorem Hd.plain (H : Hd) : plainP H.c := headC_plain _ _ _
/-- A savepoint: its head, where its map stands, what that has. -/
structure Pt where
  h : Hd
  m : Nat
  d : List Ch
def ptC (q : Pt) : List Value := q.h.c ++ [.map (some q.m)]
theorem ptC_len (q : Pt) : (ptC q).length = 134 := by unfold ptC; rw [List.length_append, Hd.len]; rfl
theorem ptC_plain (q : Pt) : plainP (ptC q) := by
  intro v hv
  rcases List.mem_append.1 hv with hv | hv
  · exact Hd.plain _ v hv
  · rw [List.mem_singleton.1 hv]; exact ⟨(fun c h => by cases h), fun c h => by cases h⟩
structure Pg where
  good : Hd
  now : Hd
  d : List Ch
  pts : List (Hd × List Ch)
def pgC (jb : Nat) (g n : Hd) (mb : Nat) (pa : Option Addr) (pl pc : Nat) : List Value := [.pointer (some ⟨jb, 0, none⟩)] ++ (g.c ++ (n.c ++ [.map (some mb), .slice pa pl pc]))
section
variable {jb mb pl pc : Nat} {g n : Hd} {pa : Option Addr}
theorem pgC_len : (pgC jb g n mb pa pl pc).length = 269 := by
  unfold pgC
  rw [List.length_append, List.length_append, List.length_append, Hd.len, Hd.len]; rfl
theorem pgC_0 : (pgC jb g n mb pa pl pc)[0]? = some (.pointer (some ⟨jb, 0, none⟩)) := rfl
theorem pgC_good {i : Nat} (hi : i < 133) : (pgC jb g n mb pa pl pc)[1 + i]? = g.c[i]? := by
  unfold pgC
  rw [List.getElem?_append_right (by show 1 ≤ 1 + i; omega), show 1 + i - [Value.pointer (some ⟨jb, 0, none⟩)].length = i by show 1 + i - 1 = i; omega, List.getElem?_append_left (by rw [Hd.len]; exact hi)]
theorem pgC_now {i : Nat} (hi : i < 133) : (pgC jb g n mb pa pl pc)[134 + i]? = n.c[i]? := by
  unfold pgC
  rw [List.getElem?_append_right (by show 1 ≤ 134 + i; omega), show 134 + i - [Value.pointer (some ⟨jb, 0, none⟩)].length = 133 + i by show 134 + i - 1 = 133 + i; omega, List.getElem?_append_right (by rw [Hd.len]; omega), Hd.len,
    show 133 + i - 133 = i by omega, List.getElem?_append_left (by rw [Hd.len]; exact hi)]
theorem pgC_map : (pgC jb g n mb pa pl pc)[267]? = some (.map (some mb)) := by
  unfold pgC
  rw [List.getElem?_append_right (by show 1 ≤ 267; decide), show 267 - [Value.pointer (some ⟨jb, 0, none⟩)].length = 266 from rfl, List.getElem?_append_right (by rw [Hd.len]; decide), Hd.len, List.getElem?_append_right (by rw [Hd.len]; decide), Hd.len]; rfl
theorem pgC_pts : (pgC jb g n mb pa pl pc)[268]? = some (.slice pa pl pc) := by
  unfold pgC
  rw [List.getElem?_append_right (by show 1 ≤ 268; decide), show 268 - [Value.pointer (some ⟨jb, 0, none⟩)].length = 267 from rfl, List.getElem?_append_right (by rw [Hd.len]; decide), Hd.len, List.getElem?_append_right (by rw [Hd.len]; decide), Hd.len]; rfl
theorem pgC_used {i : Nat} (hi : i < 128) : (pgC jb g n mb pa pl pc)[134 + 5 + i]? = some (.bool (n.u i)) := by
  rw [Nat.add_assoc, pgC_now (by omega)]; exact headC_used _ _ _ hi
theorem pgC_root {k : Nat} (hk : k < 4) : (pgC jb g n mb pa pl pc)[134 + 1 + k]? = some (.int .i64 (n.r k : Nat)) := by
  rw [Nat.add_assoc, pgC_now (by omega)]; exact headC_root _ _ _ hk
theorem pgC_ser : (pgC jb g n mb pa pl pc)[134]? = some (.int .u64 (n.s : Nat)) := by
  have := pgC_now (jb := jb) (g := g) (n := n) (mb := mb) (pa := pa) (pl := pl) (pc := pc) (i := 0) (by decide)
  exact this.trans (headC_0 _ _ _)
theorem pgC_set134 (L : List Value) (hL : L.length = 133) (o : Nat) (vs : List Value) (ho : o + vs.length ≤ 133) (h' : setL n.c o vs = L) : setL (pgC jb g n mb pa pl pc) (134 + o) vs = [.pointer (some ⟨jb, 0, none⟩)] ++ (g.c ++ (L ++ [.map (some mb), .slice pa pl pc])) := by
  unfold pgC
  rw [show 134 + o = [Value.pointer (some ⟨jb, 0, none⟩)].length + (133 + o) by show _ = 1 + (133 + o); omega, setL_right, show 133 + o = g.c.length + o by rw [Hd.len], setL_right, setL_left _ _ _ _ (by rw [Hd.len]; exact ho), h']
theorem pgC_setU (i : Nat) (v : Bool) (hi : i < 128) : setL (pgC jb g n mb pa pl pc) (134 + 5 + i) [.bool v] = pgC jb g { n with u := upU n.u i v } mb pa pl pc := by
  rw [Nat.add_assoc]
  exact pgC_set134 _ (Hd.len _) (5 + i) _ (by show 5 + i + 1 ≤ 133; omega) (headC_setU _ _ _ _ _)
theorem pgC_setR (k v : Nat) (hk : k < 4) : setL (pgC jb g n mb pa pl pc) (134 + 1 + k) [.int .i64 (v : Nat)] = pgC jb g { n with r := upR n.r k v } mb pa pl pc := by
  rw [Nat.add_assoc]
  exact pgC_set134 _ (Hd.len _) (1 + k) _ (by show 1 + k + 1 ≤ 133; omega) (headC_setR _ _ _ _ hk)
theorem pgC_setNow (n' : Hd) : setL (pgC jb g n mb pa pl pc) 134 n'.c = pgC jb g n' mb pa pl pc :=
  pgC_set134 _ (Hd.len _) 0 _ (by rw [Hd.len]; decide) (setL_all (by rw [Hd.len, Hd.len]))
theorem pgC_setGood (g' : Hd) : setL (pgC jb g n mb pa pl pc) 1 g'.c = pgC jb g' n mb pa pl pc := by
  unfold pgC
  rw [show (1 : Nat) = [Value.pointer (some ⟨jb, 0, none⟩)].length + 0 from rfl, setL_right, setL_left _ _ _ _ (by rw [Hd.len, Hd.len]; decide), setL_all (by rw [Hd.len, Hd.len])]
theorem pgC_tail (o : Nat) (vs : List Value) : setL (pgC jb g n mb pa pl pc) (267 + o) vs = [.pointer (some ⟨jb, 0, none⟩)] ++ (g.c ++ (n.c ++ setL [.map (some mb), .slice pa pl pc] o vs)) := by
  unfold pgC
  rw [show 267 + o = [Value.pointer (some ⟨jb, 0, none⟩)].length + (266 + o) by show _ = 1 + (266 + o); omega, setL_right, show 266 + o = g.c.length + (133 + o) by rw [Hd.len]; omega, setL_right, show 133 + o = n.c.length + o by rw [Hd.len], setL_right]
theorem pgC_setMap (mb' : Nat) : setL (pgC jb g n mb pa pl pc) 267 [.map (some mb')] = pgC jb g n mb' pa pl pc := pgC_tail 0 _
theorem pgC_setPts (pa' : Option Addr) (pl' pc' : Nat) : setL (pgC jb g n mb pa pl pc) 268 [.slice pa' pl' pc'] = pgC jb g n mb pa' pl' pc' := pgC_tail 1 _
end
theorem z120 : zeroL Tryz.prog 87 = [.pointer none] ++ (headC 0 (fun _ => 0) (fun _ => false) ++ (headC 0 (fun _ => 0) (fun _ => false) ++ [.map none, .slice none 0 0])) := by kernel_rfl
theorem pg_setA {p0 : Value} {A B T us : List Value} (hA : A.length = 133) (hu : us.length = 133) : setL ([p0] ++ (A ++ (B ++ T))) 1 us = [p0] ++ (us ++ (B ++ T)) := by
  rw [show (1 : Nat) = [p0].length + 0 from rfl, setL_right, setL_left _ _ _ _ (by omega), setL_all (by omega)]
theorem pg_setB {p0 : Value} {A B T us : List Value} (hA : A.length = 133) (hB : B.length = 133) (hu : us.length = 133) : setL ([p0] ++ (A ++ (B ++ T))) 134 us = [p0] ++ (A ++ (us ++ T)) := by
  rw [show (134 : Nat) = [p0].length + (133 + 0) from rfl, setL_right, show 133 + 0 = A.length + 0 by omega, setL_right, setL_left _ _ _ _ (by omega), setL_all (by omega)]
theorem pg_setT {p0 : Value} {A B T us : List Value} (hA : A.length = 133) (hB : B.length = 133) : setL ([p0] ++ (A ++ (B ++ T))) 267 us = [p0] ++ (A ++ (B ++ setL T 0 us)) := by
  rw [show (267 : Nat) = [p0].length + (266 + 0) from rfl, setL_right, show 266 + 0 = A.length + (133 + 0) by omega, setL_right, show 133 + 0 = B.length + 0 by omega, setL_right]
theorem newC (jb : Nat) (g n : Hd) (mb : Nat) : setL (setL (setL (setL (zeroL Tryz.prog 87) 0 [.pointer (some ⟨jb, 0, none⟩)]) 1 g.c) 134 n.c) 267 [.map (some mb)] = pgC jb g n mb none 0 0 := by
  have e0 : setL (zeroL Tryz.prog 87) 0 [.pointer (some ⟨jb, 0, none⟩)] = [.pointer (some ⟨jb, 0, none⟩)] ++ (headC 0 (fun _ => 0) (fun _ => false) ++ (headC 0 (fun _ => 0) (fun _ => false) ++ [.map none, .slice none 0 0])) := by
    rw [z120]; rfl
  have l0 := headC_len 0 (fun _ => 0) (fun _ => false)
  rw [e0, pg_setA l0 g.len, pg_setB g.len l0 n.len, pg_setT g.len n.len]
  rfl
def DAt (h : Hp) (b : Nat) (L : List Ch) : Prop := ∃ o, h b = some o ∧ MapObj Tryz.prog 3 o (mapD L)
theorem DAt.keep {S : Nat → Prop} {h h' : Hp} {b : Nat} {L : List Ch} (H : DAt h b L) (s : Keep S h h') (hn : ¬ S b) : DAt h' b L := by
  obtain ⟨o, h1, h2⟩ := H
  exact ⟨o, s _ _ h1 hn, h2⟩
theorem DAt.sub {h h' : Hp} {b : Nat} {L : List Ch} (H : DAt h b L) (s : Sub h h') : DAt h' b L := H.keep (S := fun _ => False) (s.keep _) fun h => h
theorem DAt.ne {h : Hp} {b c : Nat} {L : List Ch} {t : TypeId} {vs : List Value} (H : DAt h b L) (B : Blk h c t vs) : b ≠ c := by
  rintro rfl
  obtain ⟨o, h1, es, cl, rfl, _⟩ := H
  unfold Blk at B
  rw [B] at h1; cases h1
theorem DAt.ne_own {h : Hp} {b c : Nat} {L : List Ch} {a : Option Addr} {e : TypeId} {pc sz : Nat} {α : Type} {f : α → List Value} {Q : List α} (H : DAt h b L) (O : OwnR f sz h e a pc Q) (hc : blkOf a c) : b ≠ c := by
  rintro rfl
  obtain ⟨_, _, ⟨rfl, _⟩ | ⟨c', rest, rfl, hb, _⟩⟩ := O
  · obtain ⟨o, s, e⟩ := hc; cases e
  · obtain ⟨o, s, e⟩ := hc
    cases e
    exact H.ne (t := e) (vs := _) hb rfl
structure HdOk (n : Nat) (H : Hd) : Prop where
  below : ∀ i, i < 128 → H.u i = true → i < n
  roots : ∀ k, k < 4 → H.r k < 128 ∧ (H.r k ≠ 0 → H.u (H.r k) = true)
  zero : H.u 0 = true
  ser : H.s ≤ 9223372036854775807
structure POk (n : Nat) (P : Pg) : Prop where
  good : HdOk n P.good
  now : HdOk n P.now
  d : DOk n P.d
  pts : ∀ q ∈ P.pts, HdOk n q.1 ∧ DOk n q.2
  few : P.pts.length ≤ 16
structure PgEx (h : Hp) (pb jb db : Nat) (S S0 : Nat → Prop) (n : Nat) (D : Dk) (P : Pg) (mb : Nat) (pa : Option Addr) (pc : Nat) (Q : List Pt) : Prop where
  blk : Blk h pb 87 (pgC jb P.good P.now mb pa Q.length pc)
  j : JAt h jb db S0 n D
  d : DAt h mb P.d
  own : OwnR ptC 134 h 98 pa pc Q
  ds : ∀ q ∈ Q, DAt h q.m q.d
  pts : Q.map (fun q => (q.h, q.d)) = P.pts
  n1 : ¬ S0 pb
  n2 : ¬ S0 mb
  n3 : ∀ q ∈ Q, ¬ S0 q.m
  n4 : ∀ c, blkOf pa c → ¬ S0 c ∧ c ≠ pb
  n5 : (mb :: Q.map (·.m)).Nodup
  s : ∀ c, S c ↔ (c = pb ∨ c = mb ∨ S0 c ∨ blkOf pa c ∨ ∃ q ∈ Q, q.m = c)
structure PgAt (h : Hp) (pb jb db : Nat) (S : Nat → Prop) (n : Nat) (D : Dk) (P : Pg) : Prop where
  ex : ∃ S0 mb pa pc Q, PgEx h pb jb db S S0 n D P mb pa pc Q
  ok : POk n P
  up : D.down = false
variable {h : Hp} {pb jb db n : Nat} {S : Nat → Prop} {D : Dk} {P : Pg} {K : Value → Hp → Prop}
theorem PgEx.out {S' S0 : Nat → Prop} {h' : Hp} {mb : Nat} {pa : Option Addr} {pc : Nat} {Q : List Pt} (E : PgEx h pb jb db S S0 n D P mb pa pc Q) (s : Keep S' h h') (hn : ∀ c, S c → ¬ S' c) : PgEx h' pb jb db S S0 n D P mb pa pc Q :=
  ⟨E.blk.keep s (hn _ ((E.s _).2 (.inl rfl))), E.j.out s fun c hc => hn c ((E.s c).2 (.inr (.inr (.inl hc)))), E.d.keep s (hn _ ((E.s _).2 (.inr (.inl rfl)))), E.own.keep s fun c hc => hn c ((E.s c).2 (.inr (.inr (.inr (.inl hc))))),
    fun q hq => (E.ds q hq).keep s (hn _ ((E.s _).2 (.inr (.inr (.inr (.inr ⟨q, hq, rfl⟩)))))), E.pts, E.n1, E.n2, E.n3, E.n4, E.n5, E.s⟩
theorem PgEx.sub {S0 : Nat → Prop} {h' : Hp} {mb : Nat} {pa : Option Addr} {pc : Nat} {Q : List Pt} (E : PgEx h pb jb db S S0 n D P mb pa pc Q) (s : Sub h h') : PgEx h' pb jb db S S0 n D P mb pa pc Q := E.out (S' := fun _ => False) (s.keep _) fun _ _ h => h
theorem PgAt.out {S' : Nat → Prop} {h' : Hp} (E : PgAt h pb jb db S n D P) (s : Keep S' h h') (hn : ∀ c, S c → ¬ S' c) : PgAt h' pb jb db S n D P := by
  obtain ⟨S0, mb, pa, pc, Q, e⟩ := E.ex
  exact ⟨⟨S0, mb, pa, pc, Q, e.out s hn⟩, E.ok, E.up⟩
theorem PgAt.sub {h' : Hp} (E : PgAt h pb jb db S n D P) (s : Sub h h') : PgAt h' pb jb db S n D P := E.out (S' := fun _ => False) (s.keep _) fun _ _ h => h
theorem PgEx.in_heap {S0 : Nat → Prop} {mb : Nat} {pa : Option Addr} {pc : Nat} {Q : List Pt} (E : PgEx h pb jb db S S0 n D P mb pa pc Q) {c : Nat} (hc : S c) : h c ≠ none := by
  rcases (E.s c).1 hc with rfl | rfl | hc | hc | ⟨q, hq, rfl⟩
  · intro e; have := E.blk; unfold Blk at this; rw [this] at e; cases e
  · obtain ⟨o, h1, _⟩ := E.d; rw [h1]; simp
  · exact E.j.in_heap hc
  · exact Own.in_heap E.own hc
  · obtain ⟨o, h1, _⟩ := E.ds q hq; rw [h1]; simp
theorem PgAt.in_heap (E : PgAt h pb jb db S n D P) {c : Nat} (hc : S c) : h c ≠ none := by
  obtain ⟨S0, mb, pa, pc, Q, e⟩ := E.ex
  exact e.in_heap hc
theorem PgAt.n2 (E : PgAt h pb jb db S n D P) : n ≤ 128 := by
  obtain ⟨S0, mb, pa, pc, Q, e⟩ := E.ex
  exact e.j.n2
/-! ### what it tells -/
theorem pages_spec (E : PgAt h pb jb db S n D P) (hK : K (.int .i64 (n : Nat)) h) : CallsH Tryz.prog pager_Pager_Pages.id #[.pointer (some ⟨pb, 0, none⟩)] h K := by
  obtain ⟨S0, mb, pa, pc, Q, e⟩ := E.ex
  apply pager_Pager_Pages.calls
  unfold pager_Pager_Pages.W
  exact ⟨_, e.blk.cell' 0 pgC_0, jpages_spec e.j ⟨_, rfl, hK⟩⟩
theorem serial_spec (E : PgAt h pb jb db S n D P) (hK : K (.int .u64 (P.now.s : Nat)) h) : CallsH Tryz.prog pager_Pager_Serial.id #[.pointer (some ⟨pb, 0, none⟩)] h K := by
  obtain ⟨S0, mb, pa, pc, Q, e⟩ := E.ex
  apply pager_Pager_Serial.calls
  unfold pager_Pager_Serial.W
  exact ⟨_, by rw [Nat.zero_add]; exact e.blk.cell' _ pgC_ser, hK⟩
theorem root_spec (E : PgAt h pb jb db S n D P) {k : Nat} (hk : k < 4) (hK : K (.int .i64 (P.now.r k : Nat)) h) : CallsH Tryz.prog pager_Pager_Root.id #[.pointer (some ⟨pb, 0, none⟩), .int .i64 (k : Nat)] h K := by
  obtain ⟨S0, mb, pa, pc, Q, e⟩ := E.ex
  apply pager_Pager_Root.calls
  unfold pager_Pager_Root.W
  refine ⟨fun x => x = h, ?_, split_dec (fun e => by omega) fun _ => split_dec (fun e => by omega) fun _ => rfl⟩
  rintro x rfl
  exact ⟨by omega, by omega, _, by rw [Int.toNat_natCast, Nat.mul_one, Nat.zero_add]; exact e.blk.cell' _ (pgC_root hk), hK⟩
def Pg.used (P : Pg) (n : Nat) (i : Int) : Bool := decide (0 ≤ i) && (decide (i < n) && P.now.u i.toNat)
theorem used_spec (E : PgAt h pb jb db S n D P) (i : Int) (hK : K (.bool (P.used n i)) h) : CallsH Tryz.prog pager_Pager_Used.id #[.pointer (some ⟨pb, 0, none⟩), .int .i64 i] h K := by
  have hn := E.n2
  apply pager_Pager_Used.calls
  unfold pager_Pager_Used.W
  unfold Pg.used at hK
  refine split_dec (fun e1 => pages_spec E ⟨_, rfl, split_dec (fun e2 => ?_) fun e2 => ?_⟩) fun e1 => ?_
  · obtain ⟨S0, mb, pa, pc, Q, e⟩ := E.ex
    obtain ⟨k, rfl⟩ : ∃ k : Nat, i = (k : Int) := ⟨i.toNat, by omega⟩
    refine ⟨by omega, by omega, P.now.u k, by rw [Int.toNat_natCast, Nat.mul_one, Nat.zero_add]; exact e.blk.cell' _ (pgC_used (by omega)), ?_⟩
    rw [decide_eq_true (show 0 ≤ (k : Int) by omega), decide_eq_true e2, Int.toNat_natCast] at hK
    exact hK
  · rw [decide_eq_false e2, Bool.false_and, Bool.and_false] at hK; exact hK
  · rw [decide_eq_false (show ¬ 0 ≤ i by omega), Bool.false_and] at hK; exact hK
/-- Why a page can't be used. -/
def Pg.why (P : Pg) (n : Nat) (i : Int) : Int := if i < 1 ∨ i ≥ (n : Int) then 9 else if P.now.u i.toNat then 0 else 6
theorem puse_spec (E : PgAt h pb jb db S n D P) (i : Int) (hK : K (.int .i64 (P.why n i)) h) : CallsH Tryz.prog pager_Pager_use.id #[.pointer (some ⟨pb, 0, none⟩), .int .i64 i] h K := by
  have hn := E.n2
  apply pager_Pager_use.calls
  unfold pager_Pager_use.W
  unfold Pg.why at hK
  refine split_dec (fun e1 => ?_) fun e1 => pages_spec E ⟨_, rfl, split_dec (fun e2 => ?_) fun e2 => ?_⟩
  · rw [if_pos (.inl e1)] at hK; exact hK
  · rw [if_pos (.inr e2)] at hK; exact hK
  · rw [if_neg (by omega)] at hK
    obtain ⟨S0, mb, pa, pc, Q, e⟩ := E.ex
    obtain ⟨k, rfl⟩ : ∃ k : Nat, i = (k : Int) := ⟨i.toNat, by omega⟩
    rw [Int.toNat_natCast] at hK
    refine ⟨by omega, by omega, P.now.u k, by rw [Int.toNat_natCast, Nat.mul_one, Nat.zero_add]; exact e.blk.cell' _ (pgC_used (by omega)), split_not (fun eu => ?_) fun eu => ?_⟩
    · rw [eu] at hK; exact hK
    · rw [eu] at hK; exact hK
theorem why_ok {i : Int} (h : P.why n i = 0) : ∃ k : Nat, i = (k : Int) ∧ 1 ≤ k ∧ k < n ∧ P.now.u k = true := by
  unfold Pg.why at h
  by_cases e : i < 1 ∨ i ≥ (n : Int)
  · rw [if_pos e] at h; cases h
  · rw [if_neg e] at h
    cases eu : P.now.u i.toNat with
    | false => rw [eu] at h; cases h
    | true => exact ⟨i.toNat, by omega, by omega, by omega, eu⟩
/-- A page's bytes. -/
def Pg.page (P : Pg) (D : Dk) (n i : Nat) : ByteArray := (dget P.d i).getD (D.own n i)
theorem pgread_bad (E : PgAt h pb jb db S n D P) (i : Int) (hw : P.why n i ≠ 0) (hK : K (.tuple #[.string (bytesL []), .int .i64 (P.why n i)]) h) : CallsH Tryz.prog pager_Pager_Read.id #[.pointer (some ⟨pb, 0, none⟩), .int .i64 i] h K := by
  apply pager_Pager_Read.calls
  unfold pager_Pager_Read.W
  exact puse_spec E i ⟨_, rfl, split_ne (fun _ => hK) fun e => absurd e hw⟩
theorem pgread_spec (E : PgAt h pb jb db S n D P) {i : Nat} (hw : P.why n (i : Nat) = 0) (hK : ∀ h', Sub h h' → K (.tuple #[.string (P.page D n i), .int .i64 0]) h') : CallsH Tryz.prog pager_Pager_Read.id #[.pointer (some ⟨pb, 0, none⟩), .int .i64 (i : Nat)] h K := by
  apply pager_Pager_Read.calls
  unfold pager_Pager_Read.W
  refine puse_spec E i ⟨_, rfl, split_ne (fun e => absurd hw e) fun _ => ?_⟩
  obtain ⟨S0, mb, pa, pc, Q, e⟩ := E.ex
  obtain ⟨o, ho, hm⟩ := e.d
  obtain ⟨k, ek, h1, h2, h3⟩ := why_ok hw
  have : i = k := by omega
  subst this
  unfold Pg.page at hK
  have hg := mapD_get P.d i
  refine ⟨_, by rw [Nat.zero_add]; exact e.blk.cell' _ pgC_map, mb, o, _, rfl, ho, hm, ?_⟩
  cases hd : dget P.d i with
  | some s =>
    rw [hd] at hg hK
    exact ⟨s, true, .inl ⟨rfl, hg⟩, hK h (Sub.refl h)⟩
  | none =>
    rw [hd] at hg hK
    exact ⟨bytesL [], false, .inr ⟨rfl, hg, rfl⟩, _, e.blk.cell' 0 pgC_0, jread_spec e.j h2 E.up fun h' s => ⟨_, _, rfl, hK h' s⟩⟩
/-! ### opening -/
theorem callsK {P : Program} {f : FuncId} {args : Array Value} {h : Hp} {K : Value → Hp → Prop} (X : ∀ K' : Value → Hp → Prop, (∀ v h, K v h → K' v h) → CallsH P f args h K') : CallsH P f args h K := X K fun _ _ x => x
def zeroHd : Hd := ⟨0, fun _ => 0, fun i => i == 0⟩
def headOf (b : ByteArray) : Hd := ⟨dser b 8, droot b, dbit b⟩
theorem page_size {S0 : Nat → Prop} (J : JAt h jb db S0 n D) {i : Nat} (hi : i < n) : (D.own n i).size = 1024 := by
  obtain ⟨S1, h1, h2, h3, h4⟩ := J.ex
  have := J.len
  unfold Dk.own Dk.page
  rw [← size_len]
  exact look_len h2 4 (by omega)
theorem zeroOk {n : Nat} (h1 : 1 ≤ n) : HdOk n zeroHd :=
  ⟨fun i _ h => by have : i = 0 := by simpa [zeroHd] using h
                   omega, fun k _ => ⟨by show 0 < 128; decide, fun h => absurd rfl h⟩, rfl, by show 0 ≤ _; decide⟩
theorem headOk {b : ByteArray} {n : Nat} (H : OkHead b n) : HdOk n (headOf b) := ⟨H.below, H.roots, H.zero, H.ser⟩
theorem popen_spec {S0 : Nat → Prop} (J : JAt h jb db S0 n D) (hd : D.down = false) (hn : 2 ≤ n)
    (hB : D.own n 0 ≠ zeroB 1024 → ¬ OkHead (D.own n 0) n → ∀ h', Sub h h' → K (.tuple #[.pointer none, .int .i64 4]) h')
    (hG : ∀ H : Hd, (D.own n 0 = zeroB 1024 ∧ H = zeroHd) ∨ (D.own n 0 ≠ zeroB 1024 ∧ OkHead (D.own n 0) n ∧ H = headOf (D.own n 0)) → ∀ h' pb S, h pb = none → Step S0 h S h' → PgAt h' pb jb db S n D ⟨H, H, [], []⟩ → K (.tuple #[.pointer (some ⟨pb, 0, none⟩), .int .i64 0]) h') :
    CallsH Tryz.prog pager_Open.id #[.pointer (some ⟨jb, 0, none⟩)] h K := by
  have hn2 := J.n2
  apply pager_Open.calls
  unfold pager_Open.W
  refine jpages_spec J ⟨_, rfl, split_dec (fun e => by have e : (n : Int) < 2 := e; omega) fun _ => ?_⟩
  refine jread_spec (i := 0) J (by omega) hd fun h5 s5 => ⟨_, _, rfl, split_ne (fun e => absurd rfl e) fun _ => ?_⟩
  have J5 := J.sub s5
  refine jpages_spec J5 ⟨_, rfl, callsK fun K' hK' => ?_⟩
  have hsz := page_size J5 (i := 0) (by omega)
  have good : ∀ H : Hd, HdOk n H → (D.own n 0 = zeroB 1024 ∧ H = zeroHd) ∨ (D.own n 0 ≠ zeroB 1024 ∧ OkHead (D.own n 0) n ∧ H = headOf (D.own n 0)) → ∀ h12, Sub h5 h12 → K' (.tuple #[.agg H.c.toArray, .bool true]) h12 := fun H ok hH h12 s12 => hK' _ _ ⟨H.c, H.len, true, rfl, fun k15 hk15 => by
    have B := Blk.new h12 k15 83 (headC 0 (fun _ => 0) fun _ => false)
    rw [← z114] at B
    have s15 : Sub h12 ((h12.upd k15 (.cells (zeroL Tryz.prog 83).toArray 83 (0, 0)))) := Sub.upd hk15 _
    have l0 : (zeroL Tryz.prog 83).length = 133 := by rw [z114]; exact headC_len _ _ _
    have B2 := B.put 0 H.c
    rw [setL_all (by rw [H.len, l0])] at B2
    have s16 : Sub h ((h12.upd k15 (.cells (zeroL Tryz.prog 83).toArray 83 (0, 0))).put k15 0 H.c) := (Keep.put (fun c => c = k15) _ _ _ rfl).sub (s5.trans (s12.trans s15)) fun c e => by rw [e]; exact s5.none (s12.none hk15)
    refine ⟨H.len, H.plain, B.store (by rw [H.len, l0]; decide), split_not (fun e => by cases e) fun _ => ⟨H.c, H.len, B2.cellsAt fun i hi => by rw [Nat.zero_add], H.c, H.len, B2.cellsAt fun i hi => by rw [Nat.zero_add], ?_⟩⟩
    intro k18 hk18 o19 m19
    refine ⟨rfl, H.len, H.len, rfl, fun k20 hk20 => ?_⟩
    generalize (h12.upd k15 (.cells (zeroL Tryz.prog 83).toArray 83 (0, 0))).put k15 0 H.c = x at s16 hk18 hk20 ⊢
    have hne : k20 ≠ k18 := fun e => by rw [e, Hp.upd_same] at hk20; cases hk20
    have hk20x : x k20 = none := by rw [Hp.upd_ne _ _ hne] at hk20; exact hk20
    have J2 := J.sub s16
    have s18 : Sub x (x.upd k18 o19) := Sub.upd hk18 _
    have s20 : Sub (x.upd k18 o19) ((x.upd k18 o19).upd k20 (.cells (setL (setL (setL (setL (zeroL Tryz.prog 87) 0 [.pointer (some ⟨jb, 0, none⟩)]) 1 H.c) 134 H.c) 267 [.map (some k18)]).toArray 87 (0, 0))) := Sub.upd hk20 _
    have hs : Sub h ((x.upd k18 o19).upd k20 (.cells (setL (setL (setL (setL (zeroL Tryz.prog 87) 0 [.pointer (some ⟨jb, 0, none⟩)]) 1 H.c) 134 H.c) 267 [.map (some k18)]).toArray 87 (0, 0))) := s16.trans (s18.trans s20)
    refine hG H hH _ k20 (fun c => c = k20 ∨ c = k18 ∨ S0 c) (s16.none hk20x) ⟨hs.keep _, ?_⟩ ⟨⟨S0, k18, none, 0, [], ?_⟩, ⟨ok, ok, DOk.nil n, (fun q hq => by cases hq), Nat.zero_le _⟩, hd⟩
    · rintro c (rfl | rfl | hc)
      · exact .inr (s16.none hk20x)
      · exact .inr (s16.none hk18)
      · exact .inl hc
    · refine ⟨?_, J.sub hs, ⟨o19, s20 _ _ (Hp.upd_same _ _ _), m19⟩, OwnR.nil _ _, (fun q hq => by cases hq), rfl, fun hc => J2.in_heap hc hk20x, fun hc => J2.in_heap hc hk18, (fun q hq => by cases hq), (fun c hc => by obtain ⟨o, s, e⟩ := hc; cases e), by simp, fun c => ⟨?_, ?_⟩⟩
      · have := Blk.new (x.upd k18 o19) k20 87 (setL (setL (setL (setL (zeroL Tryz.prog 87) 0 [.pointer (some ⟨jb, 0, none⟩)]) 1 H.c) 134 H.c) 267 [.map (some k18)])
        rw [newC] at this ⊢
        exact this
      · rintro (h' | h' | h')
        · exact .inl h'
        · exact .inr (.inl h')
        · exact .inr (.inr (.inl h'))
      · rintro (h' | h' | h' | ⟨o, s, e⟩ | ⟨q, hq, _⟩)
        · exact .inl h'
        · exact .inr (.inl h')
        · exact .inr (.inr h')
        · cases e
        · cases hq⟩
  refine pread_spec hsz (by omega) hn2 (fun e h12 s12 => good zeroHd (zeroOk (by omega)) (.inl ⟨e, rfl⟩) h12 s12) (fun e ok h12 s12 => good (headOf (D.own n 0)) (headOk ok) (.inr ⟨e, ok, rfl⟩) h12 s12) fun e no h12 xs hl hp s12 => ?_
  refine hK' _ _ ⟨xs, hl, false, rfl, fun k15 hk15 => ?_⟩
  have B := Blk.new h12 k15 83 (zeroL Tryz.prog 83)
  have l0 : (zeroL Tryz.prog 83).length = 133 := by rw [z114]; exact headC_len _ _ _
  refine ⟨hl, hp, B.store (by rw [hl, l0]; decide), split_not (fun _ => hB e no _ ?_) fun e => by cases e⟩
  exact (Keep.put (fun c => c = k15) _ _ _ rfl).sub (s5.trans (s12.trans (Sub.upd hk15 _))) fun c e => by rw [e]; exact s5.none (s12.none hk15)
end Go.Proofs.YtagglohkipioiaaGreat
