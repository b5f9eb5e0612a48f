/- A commit of a pager. Conditions: the pager stands as it is named, nothing waits on the disk. -/
import Derived.Test.YtagglohkipioiaaGreatP15
namespace Go.Proofs.YtagglohkipioiaaGreat
open Go.Gx
set_option maxRecDepth 100000
set_option linter.unusedVariables false

variable {h : Hp} {pb jb db n : Nat} {S : Nat → Prop} {D : Dk} {P : Pg} {K : Value → Hp → Prop}
theorem PgEx.jstep {S0 S0' : Nat → Prop} {mb : Nat} {pa : Option Addr} {pc : Nat} {Q : List Pt} (E : PgEx h pb jb db S S0 n D P mb pa pc Q) {h' : Hp} {D' : Dk} (J : JAt h' jb db S0' n D') (st : Step S0 h S0' h') :
    ∃ S', PgEx h' pb jb db S' S0' n D' P mb pa pc Q ∧ Step S h S' h' := by
  have dn : ∀ {c : Nat} {L : List Ch}, DAt h c L → ¬ S0 c → ¬ S0' c := fun H hn => by obtain ⟨o, ho, _⟩ := H; exact (st.out ho hn).2
  refine ⟨fun c => c = pb ∨ c = mb ∨ S0' c ∨ blkOf pa c ∨ ∃ q ∈ Q, q.m = c, ⟨E.blk.keep st.1 E.n1, J, E.d.keep st.1 E.n2, E.own.keep st.1 fun c hc => (E.n4 c hc).1, fun q hq => (E.ds q hq).keep st.1 (E.n3 q hq), E.pts, (st.out E.blk E.n1).2, dn E.d E.n2, fun q hq => dn (E.ds q hq) (E.n3 q hq), fun c hc => ⟨?_, (E.n4 c hc).2⟩, E.n5, fun c => Iff.rfl⟩, st.1.mono fun c hc => (E.s c).2 (.inr (.inr (.inl hc))), ?_⟩
  · intro hS
    rcases st.2 c hS with h' | h'
    · exact (E.n4 c hc).1 h'
    · exact Own.in_heap E.own hc h'
  · rintro c (h' | h' | h' | h' | h')
    · exact .inl ((E.s c).2 (.inl h'))
    · exact .inl ((E.s c).2 (.inr (.inl h')))
    · exact (st.2 c h').imp (fun h2 => (E.s c).2 (.inr (.inr (.inl h2)))) id
    · exact .inl ((E.s c).2 (.inr (.inr (.inr (.inl h')))))
    · exact .inl ((E.s c).2 (.inr (.inr (.inr (.inr h')))))
/-- The head that a commit writes, and what it changes. -/
def Hd.up (H : Hd) : Hd := { H with s := H.s + 1 }
def Hd.bytes (H : Hd) : ByteArray := tabB (encN H.s H.r H.u 128)
def Pg.pair (P : Pg) (i : Nat) : Ch := (i, (dget P.d i).getD (bytesL []))
def Pg.cs (P : Pg) (D : Dk) (n : Nat) : List Ch := (0, P.now.up.bytes) :: ((P.chg D n).filter fun i => i != 0).map P.pair
theorem diff_pos {P : Pg} {D : Dk} {n i : Nat} (ok : DOk n P.d) (h : P.diff D n i = true) : 1 ≤ i ∧ i < n ∧ ∃ s, dget P.d i = some s ∧ s.size = 1024 ∧ D.own n i ≠ s := by
  obtain ⟨s, hs, hne⟩ := diff_some h
  have hm := dget_mem hs
  exact ⟨ok.pos _ hm, (ok.mem _ hm).1, s, hs, (ok.mem _ hm).2, hne⟩
theorem chg_mem {P : Pg} {D : Dk} {n i : Nat} (hi : i ≠ 0) : i ∈ P.chg D n ↔ i < n ∧ P.diff D n i = true := by
  unfold Pg.chg
  rw [List.mem_append, List.mem_filter, List.mem_range]
  constructor
  · rintro (h | h)
    · exfalso
      split at h
      · cases h
      · exact hi (List.mem_singleton.1 h)
    · exact h
  · exact .inr
theorem chg_filter {P : Pg} {D : Dk} {n : Nat} (ok : DOk n P.d) : ((P.chg D n).filter fun i => i != 0) = (List.range n).filter (P.diff D n) := by
  unfold Pg.chg
  rw [List.filter_append, List.filter_filter]
  have e1 : (if P.now.same P.good then ([] : List Nat) else [0]).filter (fun i => i != 0) = [] := by
    split <;> rfl
  rw [e1, List.nil_append]
  refine List.filter_congr fun i _ => ?_
  cases hd : P.diff D n i with
  | false => rw [Bool.and_false]
  | true =>
    have := (diff_pos ok hd).1
    rw [Bool.and_true]
    simpa using (by omega : ¬ i = 0)
theorem chg_len {P : Pg} {D : Dk} {n : Nat} : (P.chg D n).length ≤ n + 1 := by
  unfold Pg.chg
  rw [List.length_append]
  have h1 := List.length_filter_le (P.diff D n) (List.range n)
  rw [List.length_range] at h1
  have h2 : (if P.now.same P.good then ([] : List Nat) else [0]).length ≤ 1 := by split <;> decide
  omega
theorem cs_map {P : Pg} {D : Dk} {n : Nat} (ok : DOk n P.d) : (P.cs D n).map (·.1) = 0 :: (List.range n).filter (P.diff D n) := by
  unfold Pg.cs
  rw [List.map_cons, chg_filter ok, List.map_map]
  congr 1
  exact List.map_id _
theorem cs_pos {P : Pg} {D : Dk} {n : Nat} (ok : DOk n P.d) : (0 :: (List.range n).filter (P.diff D n)).Pairwise (fun a b => a < b) := by
  refine List.pairwise_cons.2 ⟨fun i hi => (diff_pos ok (List.mem_filter.1 hi).2).1, List.pairwise_lt_range.sublist List.filter_sublist⟩
theorem cs_ok {P : Pg} {D : Dk} {n : Nat} (ok : DOk n P.d) (hn : 1 ≤ n) : (∀ c ∈ P.cs D n, c.1 < n ∧ c.2.size = 1024) ∧ ((P.cs D n).map (·.1)).Nodup ∧ (P.cs D n).length ≤ n ∧ (P.cs D n).Pairwise (fun a b => a.1 < b.1) := by
  have hp := cs_pos (D := D) ok
  rw [← cs_map ok, List.pairwise_map] at hp
  have h1 : ∀ c ∈ P.cs D n, c.1 < n ∧ c.2.size = 1024 := fun c hc => by
    rcases List.mem_cons.1 hc with rfl | hc
    · exact ⟨hn, tabB_size _⟩
    · rw [chg_filter ok] at hc
      obtain ⟨i, hi, rfl⟩ := List.mem_map.1 hc
      obtain ⟨a1, a2, s, a3, a4, _⟩ := diff_pos ok (List.mem_filter.1 hi).2
      refine ⟨a2, ?_⟩
      show ((dget P.d i).getD (bytesL [])).size = 1024
      rw [a3]; exact a4
  have h2 : ((P.cs D n).map (·.1)).Nodup := by
    rw [List.nodup_iff_pairwise_ne, List.pairwise_map]
    exact hp.imp fun h => Nat.ne_of_lt h
  refine ⟨h1, h2, ?_, hp⟩
  have := nodup_below n _ h2 fun x hx => by
    obtain ⟨e, he, rfl⟩ := List.mem_map.1 hx
    exact (h1 e he).1
  rw [List.length_map] at this; exact this
theorem andD_ok {r : Dk × Int} {f : Dk → Dk × Int} (h : (andD r f).2 = 0) : r.2 = 0 ∧ (f r.1).2 = 0 ∧ andD r f = f r.1 := by
  unfold andD at h ⊢
  by_cases e : r.2 = 0
  · rw [if_pos e] at h ⊢; exact ⟨e, h, rfl⟩
  · rw [if_neg e] at h; exact absurd h e
theorem flD_up {r : Dk × Int} (h : (flD r).2 = 0) : (flD r).1.down = false := by
  unfold flD at h ⊢
  by_cases h1 : r.2 ≠ 0
  · rw [if_pos h1] at h; exact absurd h h1
  · rw [if_neg h1] at h ⊢
    cases hd : r.1.down with
    | true => rw [hd] at h; cases h
    | false => rw [if_neg (by simp)]; exact hd
theorem commit_up {D : Dk} {n : Nat} {ds : List Ch} (h : (commitD n D ds).2 = 0) : (commitD n D ds).1.down = false := by
  unfold commitD at h ⊢
  obtain ⟨_, h1, e1⟩ := andD_ok h
  rw [e1]
  obtain ⟨_, h2, e2⟩ := andD_ok h1
  show (andD _ _).1.down = false
  rw [e2]
  obtain ⟨_, h3, e3⟩ := andD_ok h2
  show (andD _ _).1.down = false
  rw [e3]
  exact flD_up h3
theorem HdOk.up {n : Nat} {H : Hd} (O : HdOk n H) (h : H.s < 9223372036854775807) : HdOk n H.up := ⟨O.below, O.roots, O.zero, by show H.s + 1 ≤ _; omega⟩
set_option maxHeartbeats 2000000 in
theorem pcommit_spec (E : PgAt h pb jb db S n D P) (hws : D.ws = []) (hL : P.chg D n ≠ [] → P.now.s = 9223372036854775807 → ∀ h', Sub h h' → K (.int .i64 5) h')
    (hN : P.chg D n = [] → ∀ h' S', PgAt h' pb jb db S' n D (Pg.reset P.now) → Step S h S' h' → K (.int .i64 0) h')
    (hE : P.chg D n ≠ [] → P.now.s < 9223372036854775807 → (commitD n D (P.cs D n)).2 ≠ 0 → ∀ h' S', JAt h' jb db S' n (commitD n D (P.cs D n)).1 → Step S h S' h' → K (.int .i64 (commitD n D (P.cs D n)).2) h')
    (hC : P.chg D n ≠ [] → P.now.s < 9223372036854775807 → (commitD n D (P.cs D n)).2 = 0 → ∀ h' S', PgAt h' pb jb db S' n (commitD n D (P.cs D n)).1 (Pg.reset P.now.up) → Step S h S' h' → K (.int .i64 0) h') :
    CallsH Tryz.prog pager_Pager_Commit.id #[.pointer (some ⟨pb, 0, none⟩)] h K := by
  have hn := E.n2
  apply pager_Pager_Commit.calls
  unfold pager_Pager_Commit.W
  obtain ⟨S0, mb, pa, pc, Q, e⟩ := E.ex
  have hn1 := e.j.n1
  refine ⟨_, e.blk.cell' 0 pgC_0, jread_spec (i := 0) e.j (by omega) E.up fun h3 s3 => ⟨_, _, rfl, split_ne (fun e => absurd rfl e) fun _ => ?_⟩⟩
  refine changed_spec (E.sub s3) fun h7 la lc NL => ⟨_, _, _, rfl, ?_⟩
  have s7 := s3.trans NL.sub
  have e7 := e.sub s7
  have hcl := chg_len (P := P) (D := D) (n := n)
  refine ⟨fun x => ∃ (S1 S01 : Nat → Prop) (D' : Dk) (H : Hd), PgEx x pb jb db S1 S01 n D' { P with now := H } mb pa pc Q ∧ Step S h S1 x ∧ HdOk n H ∧ D'.down = false ∧ ∀ h' S', PgAt h' pb jb db S' n D' (Pg.reset H) → Step S h S' h' → K (.int .i64 0) h', ?_, split_dec (fun g => ?_) fun g => ?_⟩
  · rintro x ⟨S1, S01, D', H, e1, st1, okH, up1, hK⟩
    refine ⟨H.c, H.len, e1.blk.cellsAt fun i hi => by rw [Nat.zero_add]; exact pgC_now (by rw [H.len] at hi; exact hi), fun k14 hk14 o15 m15 => ⟨H.len, H.plain, ?_⟩⟩
    have s14 := Sub.upd hk14 o15
    have B0 := e1.blk.sub s14
    have B1 := B0.put 1 H.c
    rw [pgC_setGood] at B1
    have B2 := B1.put 267 [.map (some k14)]
    rw [pgC_setMap] at B2
    have B3 := B2.put 268 [.slice none 0 0]
    rw [pgC_setPts] at B3
    have hne : k14 ≠ pb := fun e' => by have := e1.blk; unfold Blk at this; rw [← e', hk14] at this; cases this
    have kp : ∀ (z : Hp) (o : Nat) (vs : List Value), Keep (fun c => c = pb) z (z.put pb o vs) := fun z o vs => Keep.put _ z o vs rfl
    have k3 := ((s14.keep (fun c => c = pb)).trans (kp _ 1 H.c)).trans ((kp _ 267 [.map (some k14)]).trans (kp _ 268 [.slice none 0 0]))
    obtain ⟨e', st⟩ := e1.fresh hk14 k3 B3 ⟨o15, by rw [put_ne _ _ _ hne, put_ne _ _ _ hne, put_ne _ _ _ hne, Hp.upd_same], m15⟩
    refine ⟨?_, ?_, ?_, hK _ _ ⟨⟨S01, k14, none, 0, [], e'⟩, POk.reset okH, up1⟩ (st1.trans st)⟩
    · rw [H.len]; exact B0.store (by rw [pgC_len]; decide)
    · exact B1.store (by rw [pgC_len]; decide)
    · exact B2.store (by rw [pgC_len]; decide)
  rotate_left
  · have g : P.chg D n = [] := by
      have : ¬ ((P.chg D n).length : Int) > 0 := g
      exact List.eq_nil_of_length_eq_zero (by omega)
    exact ⟨S, S0, D, P.now, e7, Step.sub s7, E.ok.now, E.up, hN g⟩
  have g : P.chg D n ≠ [] := by
    have : ((P.chg D n).length : Int) > 0 := g
    intro e'; rw [e'] at this; exact absurd this (by decide)
  refine ⟨_, by rw [Nat.zero_add]; exact e7.blk.cell' _ pgC_ser, split_eq (fun es => hL g (by omega) h7 s7) fun es => ?_⟩
  have hser : P.now.s < 9223372036854775807 := by have := E.ok.now.ser; omega
  refine ⟨P.now.c, P.now.len, e7.blk.cellsAt fun i hi => by rw [Nat.zero_add]; exact pgC_now (by rw [P.now.len] at hi; exact hi), fun k18 hk18 => ⟨P.now.len, P.now.plain, ?_⟩⟩
  have B18 := Blk.new h7 k18 83 (zeroL Tryz.prog 83)
  have s18 := Sub.upd hk18 (.cells (zeroL Tryz.prog 83).toArray 83 (0, 0))
  have l0 : (zeroL Tryz.prog 83).length = 133 := by rw [z114]; exact headC_len _ _ _
  have B18a := B18.put 0 P.now.c
  rw [setL_all (by rw [P.now.len, l0])] at B18a
  have ew : IntKind.u64.wrap (((P.now.s : Nat) : Int) + 1) = ((P.now.s + 1 : Nat) : Int) := by rw [wrap64]; omega
  have B18b := B18a.put 0 [.int .u64 ((P.now.s + 1 : Nat) : Int)]
  have eup : setL P.now.c 0 [.int .u64 ((P.now.s + 1 : Nat) : Int)] = P.now.up.c := headC_setS _ _ _ _
  rw [eup] at B18b
  have new18 : ∀ {z : Hp} (sz : Sub h7 z) (o : Nat) (us : List Value), Sub h7 (z.put k18 o us) := fun {z} sz o us => (Keep.put (fun c => c = k18) z o us rfl).sub sz fun c e => by rw [e]; exact hk18
  have t18 := new18 (new18 s18 0 P.now.c) 0 [.int .u64 ((P.now.s + 1 : Nat) : Int)]
  refine ⟨by rw [P.now.len]; exact B18.store (by rw [l0]; decide), _, B18a.cell' 0 (headC_0 _ _ _), B18a.store (by rw [P.now.len]; decide), ?_⟩
  rw [ew]
  generalize ((h7.upd k18 (.cells (zeroL Tryz.prog 83).toArray 83 (0, 0))).put k18 0 P.now.c).put k18 0 [.int .u64 ((P.now.s + 1 : Nat) : Int)] = y at B18b t18
  refine bytes_spec (s := P.now.s + 1) (r := P.now.r) (u := P.now.u) (B18b.cellsAt fun i hi => by rw [Nat.zero_add]; rfl) fun h21 s21 => ⟨_, rfl, fun k23 hk23 => ?_⟩
  have t21 := t18.trans s21
  have B21 := B18b.sub s21
  have s23 := Sub.upd hk23 (.cells #[.int .i64 0, .string (tabB (encN (P.now.s + 1) P.now.r P.now.u 128))] 103 (0, 0))
  have O23 : NewR wrC 2 103 h21 (h21.upd k23 (.cells #[.int .i64 0, .string (tabB (encN (P.now.s + 1) P.now.r P.now.u 128))] 103 (0, 0))) (some ⟨k23, 0, none⟩) 1 [(0, P.now.up.bytes)] :=
    ⟨s23, (fun b hb => by obtain ⟨o, s, e⟩ := hb; cases e; exact hk23), ⟨rfl, Nat.le_refl _, .inr ⟨k23, [], rfl, Blk.new _ _ _ _, rfl⟩⟩⟩
  refine ⟨fun a l c i x m => ∃ j : Nat, i = (j : Int) ∧ j ≤ (P.chg D n).length ∧ m = (P.chg D n).length - j ∧ NewR wrC 2 103 h21 x a c ((0, P.now.up.bytes) :: (((P.chg D n).take j).filter fun i => i != 0).map P.pair) ∧ l = ((0, P.now.up.bytes) :: (((P.chg D n).take j).filter fun i => i != 0).map P.pair).length, ⟨_, 0, rfl, Nat.zero_le _, rfl, O23, rfl⟩, ?_⟩
  rintro a l c i x m ⟨j, rfl, hj, rfl, N, rfl⟩
  have ex := e7.sub (t21.trans N.sub)
  refine split_dec (fun gj => ?_) fun gj => ?_
  · have gj : j < (P.chg D n).length := by have : (j : Int) < ((P.chg D n).length : Int) := gj; omega
    obtain ⟨p, hpj⟩ : ∃ p, (P.chg D n)[j]? = some p := ⟨_, List.getElem?_eq_getElem gj⟩
    obtain ⟨kb, ko, ea, hcell⟩ := (NL.own.row.sub (t21.trans N.sub)).get keyC_len (by decide) hpj
    have htk : (P.chg D n).take (j + 1) = (P.chg D n).take j ++ [p] := by rw [List.take_add_one, hpj]; rfl
    refine ⟨by omega, by show (j : Int) < ((P.chg D n).length : Int); omega, kb, ko, ea, _, by rw [Int.toNat_natCast]; exact hcell 0 _ rfl, split_ne (fun ep => ?_) fun ep => ?_⟩
    · have hp0 : p ≠ 0 := by omega
      obtain ⟨_, hdf⟩ := (chg_mem hp0).1 (List.mem_of_getElem? hpj)
      obtain ⟨_, _, s, hsd, _⟩ := diff_pos E.ok.d hdf
      obtain ⟨o, ho, hm⟩ := ex.d
      have hg := mapD_get P.d p
      rw [hsd] at hg
      have hpr : P.pair p = (p, s) := by unfold Pg.pair; rw [hsd]; rfl
      refine ⟨_, by rw [Nat.zero_add]; exact ex.blk.cell' _ pgC_map, mb, o, _, rfl, ho, hm, s, true, .inl ⟨rfl, hg⟩, fun k41 hk41 => ?_⟩
      have B41 := Blk.new x k41 103 (wrC (p, s))
      have fl : (((P.chg D n).take (j + 1)).filter fun i => i != 0).map P.pair = (((P.chg D n).take j).filter fun i => i != 0).map P.pair ++ [(p, s)] := by
        rw [htk, List.filter_append, List.filter_cons_of_pos (by simpa using hp0), List.filter_nil, List.map_append]
        show _ ++ [P.pair p] = _
        rw [hpr]
      have Nx := N.upd (Sub.upd hk41 (.cells (wrC (p, s)).toArray 103 (0, 0)))
      refine ⟨_, B41.slice rfl, fun a' c' z => NewR wrC 2 103 h21 z a' c' ((0, P.now.up.bytes) :: (((P.chg D n).take (j + 1)).filter fun i => i != 0).map P.pair), fun a' c' z hz => ⟨(P.chg D n).length - (j + 1), by omega, j + 1, by rw [wid (by omega) (by omega)]; omega, by omega, rfl, hz, ?_⟩, ?_⟩
      · rw [fl, ← List.cons_append, List.length_append (bs := [(p, s)])]; rfl
      · refine append_row appTCh wrC_len wrC_plain (M := [(p, s)]) Nx rfl rfl (rowC_one _).symm ?_ fun a' c' z hz => by rw [fl, ← List.cons_append]; exact hz
        have h1 := List.length_filter_le (fun i => i != 0) ((P.chg D n).take j)
        rw [List.length_take] at h1
        show (2 * (((((P.chg D n).take j).filter fun i => i != 0).map P.pair).length + 1 + 1) + 768) * 24 ≤ _
        rw [List.length_map]
        omega
    · have hp0 : p = 0 := by omega
      refine ⟨(P.chg D n).length - (j + 1), by omega, j + 1, by rw [wid (by omega) (by omega)]; omega, by omega, rfl, ?_, ?_⟩
      · rw [htk, List.filter_append, hp0, List.filter_cons_of_neg (by simp), List.filter_nil, List.append_nil]; exact N
      · rw [htk, List.filter_append, hp0, List.filter_cons_of_neg (by simp), List.filter_nil, List.append_nil]
  · have : j = (P.chg D n).length := by
      have : ¬ (j : Int) < ((P.chg D n).length : Int) := gj
      omega
    subst this
    rw [List.take_length] at N
    have hcs : (0, P.now.up.bytes) :: ((P.chg D n).filter fun i => i != 0).map P.pair = P.cs D n := rfl
    rw [List.take_length]
    rw [hcs] at N ⊢
    obtain ⟨c1, c2, c3, c4⟩ := cs_ok (P := P) (D := D) E.ok.d hn1
    have sx := s7.trans (t21.trans N.sub)
    refine ⟨_, ex.blk.cell' 0 pgC_0, jcommit_spec ex.j E.up hws N.own.row (by omega) (by unfold Pg.cs; simp) (fun c hc hS => e.j.in_heap hS ((s7.trans t21).none (N.new c hc))) c1 c2 fun h51 S01 ds hperm hsort J51 st51 => ?_⟩
    have hds : ds = P.cs D n := by
      refine List.Perm.eq_of_pairwise (le := fun a b => a.1 ≤ b.1) (fun a b ha hb h1 h2 => ?_) hsort (c4.imp fun h => Nat.le_of_lt h) hperm
      have hab : a.1 = b.1 := Nat.le_antisymm h1 h2
      have ha' := hperm.mem_iff.1 ha
      obtain ⟨a1, a2⟩ := a
      obtain ⟨b1, b2⟩ := b
      have e1 := mem_dget c2 ha'
      have e2 := mem_dget c2 hb
      have hab : a1 = b1 := hab
      subst hab
      rw [e1] at e2; cases e2; rfl
    subst hds
    refine ⟨_, rfl, split_ne (fun ee => hE g hser ee h51 S01 J51 ?_) fun ee => ?_⟩
    · refine ⟨fun c o hc hnS => st51.1 c o (sx c o hc) fun hS => hnS ((e.s c).2 (.inr (.inr (.inl hS)))), fun c hc => (st51.2 c hc).imp (fun hS => (e.s c).2 (.inr (.inr (.inl hS)))) fun hn => sx.none hn⟩
    · obtain ⟨S1, e51, st1⟩ := ex.jstep J51 st51
      have B51 : Blk h51 k18 83 P.now.up.c := (B21.sub N.sub).keep st51.1 fun hS => e.j.in_heap hS (s7.none hk18)
      have Bp := e51.blk.put 134 P.now.up.c
      rw [pgC_setNow] at Bp
      have kp : Keep (fun c => c = pb ∨ c = mb) h51 (h51.put pb 134 P.now.up.c) := Keep.put _ h51 _ _ (.inl rfl)
      have hmpb : mb ≠ pb := e.d.ne e.blk
      obtain ⟨ef, stf⟩ := e51.put (now' := P.now.up) (d' := P.d) kp Bp (e51.d.keep (Keep.put (fun c => c = pb) h51 _ _ rfl) hmpb)
      refine ⟨P.now.up.c, P.now.up.len, B51.cellsAt fun i hi => by rw [Nat.zero_add], P.now.up.len, P.now.up.plain, ?_, S1, S01, _, P.now.up, ef, (Step.sub sx).trans (st1.trans stf), E.ok.now.up hser, commit_up ee, hC g hser ee⟩
      rw [P.now.up.len]
      exact e51.blk.store (by rw [pgC_len]; decide)
end Go.Proofs.YtagglohkipioiaaGreat
