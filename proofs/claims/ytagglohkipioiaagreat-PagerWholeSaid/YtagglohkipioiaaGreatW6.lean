/- PagerWhole over heaps. Conditions: the rows lie in memory, each step's byte is one, the fuse is a number of 64 bits. PagerWhole over heaps: the law itself. Conditions: the rows lie in memory, each step's byte is one, the fuse is a number of 64 bits. -/
import Derived.Test.YtagglohkipioiaaGreatW4
import Derived.Test.YtagglohkipioiaaGreatW5
namespace Go.Proofs.YtagglohkipioiaaGreat
open Go.Gx
set_option maxRecDepth 100000
set_option linter.unusedVariables false

variable {h h0 : Hp} {pb jb db n zb : Nat} {S : Nat → Prop} {D : Dk} {P : Pg} {R : Pr} {jp : Option Addr} {K : Value → Hp → Prop}
set_option maxHeartbeats 1000000 in
theorem begun_any (h1 : 2 ≤ n) (h2 : n ≤ 10) (hK : ∀ h' zb jp pp R, Sub h h' → h zb = none → (∀ S, (∀ c, S c → h c ≠ none) → PairAt h' zb S n jp pp R) → K (.pointer (some ⟨zb, 0, none⟩)) h') : CallsH Tryz.prog law14_begun.id #[.int .i64 (n : Nat)] h K := by
  apply law14_begun.calls
  unfold law14_begun.W
  refine opened_spec n h1 h2 fun h2' pb jb db S s2 E2 f2 => ⟨_, _, _, rfl, split_cond (fun e => by cases e) fun _ => ?_⟩
  refine rnew_spec (by omega) fun h7 y s7 Y fu fd => ⟨_, _, _, _, _, _, _, _, _, _, _, _, _, _, _, _, _, _, _, _, _, _, _, _, _, rfl, rfl, rfl, rfl, rfl, fun zb hzb => ?_⟩
  rw [z900]
  show K _ (h7.upd zb (.cells (prC (some ⟨jb, 0, none⟩) (some ⟨pb, 0, none⟩) ⟨y, y, [], none, 0, y.da, y.dc, y.ds⟩).toArray 41 (0, 0)))
  have sz := Sub.upd hzb (.cells (prC (some ⟨jb, 0, none⟩) (some ⟨pb, 0, none⟩) ⟨y, y, [], none, 0, y.da, y.dc, y.ds⟩).toArray 41 (0, 0))
  have B := Blk.new h7 zb 41 (prC (some ⟨jb, 0, none⟩) (some ⟨pb, 0, none⟩) ⟨y, y, [], none, 0, y.da, y.dc, y.ds⟩)
  generalize (h7.upd zb (.cells (prC (some ⟨jb, 0, none⟩) (some ⟨pb, 0, none⟩) ⟨y, y, [], none, 0, y.da, y.dc, y.ds⟩).toArray 41 (0, 0))) = z at sz B
  have hz0 := s2.none (s7.none hzb)
  refine hK z zb (some ⟨jb, 0, none⟩) (some ⟨pb, 0, none⟩) ⟨y, y, [], none, 0, y.da, y.dc, y.ds⟩ ((s2.trans s7).trans sz) hz0 fun S' hS' => ?_
  have cl : ∀ {a : Option Addr}, (∀ c, blkOf a c → h2' c = none) → (∀ c, blkOf a c → h7 c ≠ none) → Cl z zb S' a := fun hn hin c hc => by
    obtain ⟨o, ho⟩ := Option.ne_none_iff_exists'.1 (hin c hc)
    refine ⟨fun e => ?_, fun hs => hS' c hs (s2.none (hn c hc)), fun e => hin c hc (by rw [e]; exact hzb)⟩
    rw [sz c o ho] at e; cases e
  have cu : Cl z zb S' y.ua := cl fu fun c hc => row_in boolC_len (by decide) Y.ru (by rw [Y.lu]; omega) hc
  have cd : Cl z zb S' y.da := cl fd fun c hc => row_in strC_len (by decide) Y.rd (by rw [Y.ld]; omega) hc
  have Yz := Y.sub sz
  exact ⟨B, fun hs => hS' _ hs hz0, ⟨Yz, cu, cd⟩, ⟨Yz, cu, cd⟩, (fun x hx => by cases hx), RowAt.nil _ _, Cl.none, Yz.rd, cd, Y.ld, Nat.zero_le _, Nat.zero_le _⟩
/-! ### what goes on -/
structure WI (h0 x : Hp) (zb n jb db pb : Nat) (jp : Option Addr) (S : Nat → Prop) (D : Dk) (P : Pg) (R : Pr) (m : Nat) : Prop where
  E : PgAt x pb jb db S n D P
  A : PairAt x zb S n jp (some ⟨pb, 0, none⟩) R
  don : DOn D
  sub : Sub h0 x
  new : ∀ c, PT S zb c → h0 c = none
  w : Wl n P D m
theorem WI.go {x x' : Hp} {S' : Nat → Prop} {D' : Dk} {P' : Pg} {R' : Pr} {m m' : Nat} (I : WI h0 x zb n jb db pb jp S D P R m) (E : PgAt x' pb jb db S' n D' P') (A : PairAt x' zb S' n jp (some ⟨pb, 0, none⟩) R') (st : Step (PT S zb) x (PT S' zb) x') (hD : DOn D') (W : Wl n P' D' m') :
    WI h0 x' zb n jb db pb jp S' D' P' R' m' := ⟨E, A, hD, st.1.sub I.sub I.new, fun c hc => (st.2 c hc).elim (I.new c) fun e => I.sub.none e, W⟩
theorem WI.len {x : Hp} {m : Nat} (I : WI h0 x zb n jb db pb jp S D P R m) : 8 * n + 1 ≤ D.l.length := by
  obtain ⟨S0, mb, pa, pc, Q, e⟩ := I.E.ex
  exact e.j.len
theorem wi_step {x : Hp} {m : Nat} (I : WI h0 x zb n jb db pb jp S D P R m) (h2 : 2 ≤ n) (hn : n ≤ 10) (o : Op5) (ok : o.ok) (h8 : o.a ≠ 8)
    (hK : ∀ b x' S' D' P' R', WI h0 x' zb n jb db pb jp S' D' P' R' (m + 1) → Step (PT S zb) x (PT S' zb) x' → Tr n P D o.a P' D' → K (.bool b) x') :
    CallsH Tryz.prog law14_pair_step.id #[.pointer (some ⟨zb, 0, none⟩), .agg #[.int .i64 o.a, .int .i64 o.b, .int .i64 o.c, .int .i64 o.d, .int .u8 o.e]] x K := by
  refine step_spec I.E I.A I.don h2 hn _ _ _ _ _ ok.1 ok.2 (fun e => absurd e h8) fun b h' pb' S' D' P' R' E' A' st hD' tr epb => ?_
  have epb := epb h8
  subst epb
  exact hK b h' S' D' P' R' (I.go E' A' st hD' (I.w.step tr h8 I.E.ok I.don (by omega) I.len)) st tr
theorem Wl.mono {m m' : Nat} (W : Wl n P D m) (h : m ≤ m') : Wl n P D m' := ⟨W.syn, Nat.le_trans W.bg h, Nat.le_trans W.bn h, fun q hq => Nat.le_trans (W.bp q hq) h, W.mark⟩
theorem RSCl.step {x x' : Hp} {S S' : Nat → Prop} {r : RS} (C : RSCl x zb S n r) (st : Step S x S' x') : RSCl x' zb S' n r := C.keep st.1 (fun c hc => .inl hc) st.2
theorem RSCl.pt {x x' : Hp} {S S' : Nat → Prop} {r : RS} (C : RSCl x zb S n r) (st : Step (PT S zb) x (PT S' zb) x') (hz : ¬ S' zb) : RSCl x' zb S' n r := C.keep st.1 (fun c hc => hc) fun c hc => by
  rcases st.2 c (.inl hc) with (h' | h') | h'
  · exact .inl h'
  · exact absurd (h' ▸ hc) hz
  · exact .inr h'
theorem RSCl.mono {x : Hp} {S S' : Nat → Prop} {r : RS} (C : RSCl x zb S n r) (h : ∀ c, S' c → S c) : RSCl x zb S' n r := ⟨C.ok, fun c hc => ⟨(C.cu c hc).1, fun hs => (C.cu c hc).2.1 (h c hs), (C.cu c hc).2.2⟩, fun c hc => ⟨(C.cd c hc).1, fun hs => (C.cd c hc).2.1 (h c hs), (C.cd c hc).2.2⟩⟩
theorem rs_cl {x x' : Hp} {r : RS} (E : PgAt x pb jb db S n D P) (hz : x zb ≠ none) (s : Sub x x') (W : RSOk x' n r) (fu : ∀ c, blkOf r.ua c → x c = none ∧ x' c ≠ none) (fd : ∀ c, blkOf r.da c → x c = none ∧ x' c ≠ none) : RSCl x' zb S n r :=
  ⟨W, fun c hc => ⟨(fu c hc).2, fun hs => E.in_heap hs (fu c hc).1, fun e => hz (e ▸ (fu c hc).1)⟩, fun c hc => ⟨(fd c hc).2, fun hs => E.in_heap hs (fd c hc).1, fun e => hz (e ▸ (fd c hc).1)⟩⟩
/-- How the last commit ended. -/
inductive Last (n : Nat) (P : Pg) (D : Dk) : Dk → Int → Prop
  | none (hc : P.chg D n = []) (f : Nat) : Last n P D { D with fuse := f } 0
  | some (hc : P.chg D n ≠ []) (Df : Dk) (e : Int) (E : Ends n D.l (P.cs D n) Df e) : Last n P D Df e
theorem Last.len {Df : Dk} {e : Int} (L : Last n P D Df e) : True := trivial
theorem recov_down {D : Dk} (hd : D.down = false) : (recov n D).down = false := by
  unfold recov
  split
  · exact hd
  · rfl
/-- What is on the disk behind it all. -/
theorem last_told {Df : Dk} {e : Int} {W : List (Nat × ByteArray)} (L : Last n P D Df e) (hW : W.Sublist Df.ws) (hD : DOn D) (ok : POk n P) (h1 : 1 ≤ n) (hn : n ≤ 128) (hl : 8 * n + 1 ≤ D.l.length) (hs : P.now.s < 9223372036854775807) (mark : D.read 0 = zeroB 256) (sy : Syn P.good D n) :
    let D3 := recov n ⟨settleL Df.l W, [], 0, false⟩
    (D3.own n 0 ≠ zeroB 1024 → ¬ OkHead (D3.own n 0) n → False) ∧ ∀ H, Told D3 n H → ∀ ua uc da dc ua' uc' da' dc' ua2 uc2 da2 dc2,
      Eqv ((newOf H).rs D3 n ua' uc' da' dc') { P.rs D n ua uc da dc with s := if P.chg D n = [] then P.now.s else P.now.s + 1 } ∨ (e ≠ 0 ∧ Eqv ((newOf H).rs D3 n ua' uc' da' dc') ((Pg.reset P.good).rs D n ua2 uc2 da2 dc2)) := by
  intro D3
  have own : ∀ p, D.own n p = pageL D.l (1 + 4 * (n + p)) := fun p => page_L hD.2.2 _
  have mk : D.l.getD 0 (bytesL []) = zeroB 256 := by rw [← read_L hD.2.2]; exact mark
  have old : (∀ p, D3.own n p = D.own n p) → (D3.own n 0 ≠ zeroB 1024 → ¬ OkHead (D3.own n 0) n → False) := fun ho a b => by
    rw [ho 0] at a b; exact sy.ok a b
  cases L with
  | none hc f =>
    have e0 : W = [] := List.sublist_nil.1 (by have : W.Sublist D.ws := hW; rw [hD.2.2] at this; exact this)
    subst e0
    have e3 : D3 = ⟨D.l, [], 0, false⟩ := recov_none mk 0 false
    have ho : ∀ p, D3.own n p = D.own n p := fun p => by rw [e3, own]; exact page_L rfl _
    refine ⟨old ho, fun H T ua uc da dc ua' uc' da' dc' _ _ _ _ => .inl ?_⟩
    rw [if_pos hc]
    exact whole_same ok hn h1 hc sy ho T
  | some hc Df e E =>
    obtain ⟨c1, c2, c3, c4⟩ := cs_ok (P := P) (D := D) ok.d h1
    have C : Chs n D.l (P.cs D n) := ⟨c1, c2, c4, by unfold Pg.cs; simp, hn, hl, mk⟩
    rcases torn C E hW 0 false with ho | ⟨he, ho⟩
    · have ho : ∀ p, D3.own n p = updP (P.cs D n) p (D.own n p) := fun p => by rw [own]; exact ho p
      have h0 : D3.own n 0 = P.now.up.bytes := by rw [ho]; exact updP_mem List.mem_cons_self c2
      refine ⟨fun a b => ?_, fun H T ua uc da dc ua' uc' da' dc' _ _ _ _ => .inl ?_⟩
      · rw [h0] at b; exact b (head_dec (ok.now.up hs)).1
      · rw [if_neg hc]
        exact whole_new ok hn h1 hs ho T
    · have ho : ∀ p, D3.own n p = D.own n p := fun p => by rw [own]; exact ho p
      exact ⟨old ho, fun H T ua uc da dc ua' uc' da' dc' _ _ _ _ => .inr ⟨he, whole_old hn h1 sy ho T⟩⟩
end Go.Proofs.YtagglohkipioiaaGreat
namespace Go.Proofs.YtagglohkipioiaaGreat
open Go.Gx
set_option maxRecDepth 100000
set_option linter.unusedVariables false

variable {n : Nat}
set_option maxHeartbeats 8000000 in
theorem whole_core {h : Hp} (pages : Int) (a : Option Addr) (c : Nat) (os : List Op5) (ho : RowAt opC 5 h a os) (hok : ∀ o ∈ os, o.ok) (a2 : Option Addr) (c2 : Nat) (os2 : List Op5) (ho2 : RowAt opC 5 h a2 os2) (hok2 : ∀ o ∈ os2, o.ok) (cut : Int) (hcut : cut ≤ 9223372036854775807)
    (a4 : Option Addr) (c4 : Nat) (ps : List Bool) (hps : RowAt boolC 1 h a4 ps) :
    CallsH Tryz.prog law14_PagerWhole.id #[.agg #[.int .i64 pages, .slice a os.length c, .slice a2 os2.length c2, .int .i64 cut, .slice a4 ps.length c4]] h fun v h' => v = .bool true ∧ Sub h h' := by
  apply law14_PagerWhole.calls
  unfold law14_PagerWhole.W
  have live : ∀ x, Sub h x → CallsH Tryz.prog law14_lives.id #[] x fun v h' => ∃ b : Bool, v = .bool b ∧ (Value.bool b = .bool true ∧ Sub h h') := fun x s => lives_spec fun h' s' => ⟨_, rfl, rfl, s.trans s'⟩
  by_cases hp : pages < 2 ∨ pages > 10
  · refine opened_bad pages hp ⟨_, _, _, rfl, fun _ => False, fun x hx => hx.elim, split_cond (fun _ => split_dec (fun _ => live h (Sub.refl h)) fun e => split_dec (fun _ => live h (Sub.refl h)) fun e2 => by omega) fun e => by cases e⟩
  obtain ⟨n, rfl⟩ : ∃ n : Nat, pages = (n : Int) := ⟨pages.toNat, by omega⟩
  have h2 : 2 ≤ n := by omega
  have hn : n ≤ 10 := by omega
  refine opened_spec n h2 hn fun x2 pb jb db S s2 E2 f2 => ⟨_, _, _, rfl, ?_⟩
  refine ⟨fun x => x = x2 ∧ 0 ≤ cut, ?_, split_cond (fun e => by cases e) fun _ => split_dec (fun _ => split_dec (fun _ => live x2 s2) fun _ => split_dec (fun _ => live x2 s2) fun _ => split_not (fun _ => live x2 s2) fun e => by cases e) fun _ => split_dec (fun _ => split_dec (fun _ => live x2 s2) fun _ => split_dec (fun _ => live x2 s2) fun _ => split_not (fun _ => live x2 s2) fun e => by cases e) fun g => ⟨rfl, by omega⟩⟩
  rintro x ⟨rfl, hc0⟩
  refine begun_any h2 hn fun h9 zb jp pp R s9 nz hany => ⟨_, rfl, zb, 0, rfl, ?_⟩
  have hS : ∀ c, S c → x c ≠ none := fun c hc => E2.in_heap hc
  have A9 := hany S hS
  have E9 := E2.sub s9
  have A10 := A9.set (o := 1) (vs := [.pointer (some ⟨pb, 0, none⟩)]) (jp' := jp) (pp' := some ⟨pb, 0, none⟩) (P' := R) rfl A9.g A9.w A9.ps A9.pr A9.cp A9.od A9.co A9.ol A9.few A9.cap
  have E10 : PgAt (h9.put zb 1 [.pointer (some ⟨pb, 0, none⟩)]) pb jb db S n (Dk.new (8 * n + 1)) newPg := E9.out (Keep.put (fun c => c = zb) _ _ _ rfl) fun c hc e => A9.nz (e ▸ hc)
  have nz0 : h zb = none := s2.none nz
  have W10 : Wl n newPg (Dk.new (8 * n + 1)) 0 := ⟨.inl ⟨new_own _ _ _ (by omega), same_refl _⟩, Nat.le_refl _, Nat.le_refl _, (fun q hq => by cases hq), new_read _ (by omega)⟩
  have I10 : WI h (h9.put zb 1 [.pointer (some ⟨pb, 0, none⟩)]) zb n jb db pb jp S (Dk.new (8 * n + 1)) newPg R 0 :=
    ⟨E10, A10, ⟨rfl, rfl, rfl⟩, (Keep.put (fun c => c = zb) _ _ _ rfl).sub (s2.trans s9) fun c e => by rw [e]; exact nz0, fun c hc => hc.elim (f2 c) fun e => by rw [e]; exact nz0, W10⟩
  refine ⟨A9.blk.store (by rw [prC_len]; decide), fun x => ∃ m S D P R, m ≤ 40 ∧ WI h x zb n jb db pb jp S D P R m, ?_, fun i x m => ∃ j : Nat, i = (j : Int) ∧ j ≤ 40 ∧ m = 40 - j ∧ ∃ q S D P R, q ≤ j ∧ WI h x zb n jb db pb jp S D P R q, ⟨_, 0, rfl, by decide, rfl, 0, S, _, _, R, Nat.le_refl _, I10⟩, ?_⟩
  rotate_left
  · rintro i x m ⟨j, rfl, hj, rfl, q, S, D, P, R, hq, I⟩
    refine split_dec (fun g => split_dec (fun g2 => ?_) fun _ => ⟨q, S, D, P, R, by omega, I⟩) fun _ => ⟨q, S, D, P, R, by omega, I⟩
    have g : j < os.length := by have : (j : Int) < (os.length : Int) := g; omega
    have g2 : j < 40 := by have : (j : Int) < 40 := g2; omega
    have hq' : os[j]? = some os[j] := List.getElem?_eq_getElem g
    have hom := hok os[j] (List.getElem_mem g)
    generalize os[j] = o at hq' hom
    obtain ⟨b, oo, ea, hc⟩ := (ho.sub I.sub).get opC_len (by decide) hq'
    have hc' : ∀ k v, (opC o)[k]? = some v → x.cell b (oo + (j : Int).toNat * 5 + k) = some v := fun k v e => by rw [Int.toNat_natCast]; exact hc k v e
    have lt : (j : Int) < (os.length : Int) := by omega
    have next : IntKind.i64.wrap ((j : Int) + 1) = ((j + 1 : Nat) : Int) := by rw [wid (by omega) (by omega)]; omega
    refine ⟨by omega, lt, b, oo, ea, _, hc' 0 _ rfl, split_ne (fun e8 => ⟨by omega, lt, b, oo, ea, _, hc' 0 _ rfl, _, hc' 1 _ rfl, _, hc' 2 _ rfl, _, hc' 3 _ rfl, _, hc' 4 _ rfl, ?_⟩) fun _ => ⟨40 - (j + 1), by omega, j + 1, next, by omega, rfl, q, S, D, P, R, by omega, I⟩⟩
    exact wi_step I h2 hn o hom e8 fun b' x' S' D' P' R' I' _ _ => ⟨_, rfl, 40 - (j + 1), by omega, j + 1, next, by omega, rfl, q + 1, S', D', P', R', by omega, I'⟩
  clear I10 W10 E10 A10 E9 A9 hany
  rintro x14 ⟨m, S, D, P, R, hm, I⟩
  have hse : ∃ S0, JAt x14 jb db S0 n D := by obtain ⟨S0, mb, pa, pc, Q, e⟩ := I.E.ex; exact ⟨S0, e.j⟩
  obtain ⟨S0j, hJ⟩ := hse
  obtain ⟨r2, rD⟩ := commit_don (P := P) I.don hJ I.E.ok.d
  have hbn := I.w.bn
  have after : ∀ (v : Value) (x16 : Hp) (S' : Nat → Prop) (G : Hd) (D1 : Dk), WI h x16 zb n jb db pb jp S' D1 (Pg.reset G) R (m + 1) → v = .int .i64 0 → True := fun _ _ _ _ _ _ _ => trivial
  refine callsK fun K' hK' => ?_
  have main : ∀ (x16 : Hp) (S' : Nat → Prop) (G : Hd) (D1 : Dk), WI h x16 zb n jb db pb jp S' D1 (Pg.reset G) R (m + 1) → K' (.int .i64 0) x16 := fun x16 S G D1 I1 => hK' _ _ ⟨_, rfl, split_ne (fun e => absurd rfl e) fun _ => ?_⟩
  · refine pcommit_spec I.E I.don.2.2 (fun _ e => by omega) (fun hc x16 S' E' st => ?_) (fun _ _ hne => absurd r2 hne) fun hc hs _ x16 S' E' st => ?_
    · exact main x16 S' P.now D (I.go E' (I.A.step st) (PT.step st) I.don (I.w.step (Tr.commit0 hc) (by decide) I.E.ok I.don (by omega) I.len))
    · exact main x16 S' P.now.up _ (I.go E' (I.A.step st) (PT.step st) rD (I.w.step (Tr.commit1 hc hs) (by decide) I.E.ok I.don (by omega) I.len))
  clear r2 rD hbn after hK' hJ
  refine st_spec I1.E fun h19 ua uc da dc s19 Wa fu fd => ⟨_, _, _, _, _, _, _, _, _, _, _, rfl, ?_⟩
  have C19 := rs_cl I1.E I1.A.nh s19 Wa fu fd
  have I19 : WI h h19 zb n jb db pb jp S D1 (Pg.reset G) R (m + 1) := I1.go (I1.E.sub s19) (I1.A.sub s19) (Step.sub s19) I1.don I1.w
  refine ⟨fun x => ∃ m S P R, m ≤ 81 ∧ WI h x zb n jb db pb jp S D1 P R m ∧ P.good = G ∧ RSCl x zb S n ((Pg.reset G).rs D1 n ua uc da dc), ?_, fun i x k => ∃ j : Nat, i = (j : Int) ∧ j ≤ 40 ∧ k = 40 - j ∧ ∃ m S P R, m ≤ 41 + j ∧ WI h x zb n jb db pb jp S D1 P R m ∧ P.good = G ∧ RSCl x zb S n ((Pg.reset G).rs D1 n ua uc da dc), ⟨_, 0, rfl, by decide, rfl, m + 1, S, _, R, by omega, I19, rfl, C19⟩, ?_⟩
  rotate_left
  · rintro i x k ⟨j, rfl, hj, rfl, q, S, P, R, hq, I, eg, C⟩
    refine split_dec (fun g => split_dec (fun g2 => ?_) fun _ => ⟨q, S, P, R, by omega, I, eg, C⟩) fun _ => ⟨q, S, P, R, by omega, I, eg, C⟩
    have g : j < os2.length := by have : (j : Int) < (os2.length : Int) := g; omega
    have g2 : j < 40 := by have : (j : Int) < 40 := g2; omega
    have hq' : os2[j]? = some os2[j] := List.getElem?_eq_getElem g
    have hom := hok2 os2[j] (List.getElem_mem g)
    generalize os2[j] = o at hq' hom
    obtain ⟨b, oo, ea, hc⟩ := (ho2.sub I.sub).get opC_len (by decide) hq'
    have hc' : ∀ k v, (opC o)[k]? = some v → x.cell b (oo + (j : Int).toNat * 5 + k) = some v := fun k v e => by rw [Int.toNat_natCast]; exact hc k v e
    have lt : (j : Int) < (os2.length : Int) := by omega
    have next : IntKind.i64.wrap ((j : Int) + 1) = ((j + 1 : Nat) : Int) := by rw [wid (by omega) (by omega)]; omega
    refine ⟨by omega, lt, b, oo, ea, _, hc' 0 _ rfl, split_dec (fun e6 => ⟨by omega, lt, b, oo, ea, _, hc' 0 _ rfl, _, hc' 1 _ rfl, _, hc' 2 _ rfl, _, hc' 3 _ rfl, _, hc' 4 _ rfl, ?_⟩) fun _ => ⟨40 - (j + 1), by omega, j + 1, next, by omega, rfl, q, S, P, R, by omega, I, eg, C⟩⟩
    have e6 : o.a < 6 := e6
    refine wi_step I h2 hn o hom (by omega) fun b' x' S' D' P' R' I' st tr => ?_
    obtain ⟨e1, e2⟩ := tr.six e6
    subst e1
    exact ⟨_, rfl, 40 - (j + 1), by omega, j + 1, next, by omega, rfl, q + 1, S', P', R', by omega, I', e2.trans eg, C.pt st I'.A.nz⟩
  clear I19 C19 I1
  rintro x32 ⟨q, S, P, R, hq, I, eg, C⟩
  subst eg
  refine st_spec I.E fun h34 va vc wa wc s34 Wb gu gd => ⟨_, _, _, _, _, _, _, _, _, _, _, rfl, ?_⟩
  have C34 := C.step (Step.sub s34)
  have B34 := rs_cl I.E I.A.nh s34 Wb gu gd
  have I34 : WI h h34 zb n jb db pb jp S D1 P R q := I.go (I.E.sub s34) (I.A.sub s34) (Step.sub s34) I.don I.w
  clear I C
  obtain ⟨sv, hsv⟩ : ∃ sv, sv = if P.chg D1 n = [] then P.now.s else P.now.s + 1 := ⟨_, rfl⟩
  have hbn := I34.w.bn
  refine ⟨fun a l c a' l' c' r0 r1 r2 r3 s x => (Value.agg #[.slice a l c, .slice a' l' c', .int .i64 r0, .int .i64 r1, .int .i64 r2, .int .i64 r3, .int .u64 s]) = .agg (rsC { P.rs D1 n va vc wa wc with s := sv }).toArray ∧ Sub h34 x, ?_, changed_spec I34.E fun h104 ca cc NC => ⟨_, _, _, rfl, split_dec (fun g => ⟨?_, NC.sub⟩) fun g => ⟨?_, NC.sub⟩⟩⟩
  rotate_left
  · have hne : P.chg D1 n ≠ [] := fun e => by
      have g : ((P.chg D1 n).length : Int) > 0 := g
      rw [e] at g; exact absurd g (by decide)
    rw [if_neg hne] at hsv
    subst hsv
    show Value.agg #[_, _, _, _, _, _, .int .u64 (IntKind.u64.wrap (((P.now.s : Nat) : Int) + 1))] = _
    have ew : IntKind.u64.wrap (((P.now.s : Nat) : Int) + 1) = ((P.now.s + 1 : Nat) : Int) := by rw [wrap64]; omega
    rw [ew]; rfl
  · have he : P.chg D1 n = [] := by
      have g : ¬ ((P.chg D1 n).length : Int) > 0 := g
      exact List.eq_nil_of_length_eq_zero (by omega)
    rw [if_pos he] at hsv
    subst hsv
    rfl
  rintro a47 k48 k49 a50 k51 k52 n53 n54 n55 n56 n57 x58 ⟨eqv, s58⟩
  have I58 : WI h x58 zb n jb db pb jp S D1 P R q := I34.go (I34.E.sub s58) (I34.A.sub s58) (Step.sub s58) I34.don I34.w
  have C58 := C34.step (Step.sub s58)
  have B58 := B34.step (Step.sub s58)
  have hl := I58.len
  clear I34 C34 B34
  obtain ⟨k, rfl⟩ : ∃ k : Nat, cut = (k : Int) := ⟨cut.toNat, by omega⟩
  obtain ⟨S0, mb, pa, pc, Q, e⟩ := I58.E.ex
  obtain ⟨Sd, d1, d2, d3⟩ := e.j.step
  refine fuse_spec d1 I58.don.1 (by omega) k (by omega) fun h60 dk60 st60 => ⟨_, rfl, split_ne (fun e => absurd rfl e) fun _ => ?_⟩
  obtain ⟨S0', J60, stJ⟩ := d3 h60 Sd _ dk60 st60 rfl
  obtain ⟨S60, e60, stE⟩ := e.jstep J60 stJ
  have E60 : PgAt h60 pb jb db S60 n { D1 with fuse := k } P := ⟨⟨_, _, _, _, _, e60⟩, I58.E.ok, I58.don.1⟩
  have C60 := C58.step stE
  have B60 := B58.step stE
  have sub60 : Sub h h60 := stE.1.sub I58.sub fun c hc => I58.new c (.inl hc)
  have new60 : ∀ c, S60 c → h c = none := fun c hc => (stE.2 c hc).elim (fun h' => I58.new c (.inl h')) fun h' => I58.sub.none h'
  have don := I58.don
  have wl := I58.w
  have okP := I58.E.ok
  clear e e60 stE stJ J60 dk60 st60 d1 d2 d3 I58 C58 B58
  have ecs : P.cs { D1 with fuse := k } n = P.cs D1 n := rfl
  have echg : P.chg { D1 with fuse := k } n = P.chg D1 n := rfl
  refine callsK fun K' hK' => ?_
  have main : ∀ (x63 : Hp) (S' : Nat → Prop) (Df : Dk) (e : Int), JAt x63 jb db S' n Df → Step S60 h60 S' x63 → Last n P D1 Df e → K' (.int .i64 e) x63 := fun x63 S' Df e J63 st63 L => hK' _ _ ⟨_, rfl, ?_⟩
  · refine pcommit_spec E60 don.2.2 (fun _ e => by omega) (fun hc x63 S' E' st => ?_) (fun hc hs he x63 S' J' st => ?_) fun hc hs he x63 S' E' st => ?_
    · obtain ⟨S0, mb, pa, pc, Q, e⟩ := E'.ex
      exact main x63 S0 _ 0 e.j ⟨st.1, fun c hc => st.2 c ((e.s c).2 (.inr (.inr (.inl hc))))⟩ (Last.none (D := D1) (show P.chg D1 n = [] from hc) k)
    · exact main x63 S' _ _ J' st (Last.some (D := D1) (show P.chg D1 n ≠ [] from hc) _ _ (commit_ends (D := { D1 with fuse := k }) don.1 don.2.2 n (P.cs D1 n)))
    · obtain ⟨S0, mb, pa, pc, Q, e⟩ := E'.ex
      have en := commit_ends (D := { D1 with fuse := k }) don.1 don.2.2 n (P.cs D1 n)
      have he' : (commitD n { D1 with fuse := k } (P.cs D1 n)).2 = 0 := he
      rw [he'] at en
      exact main x63 S0 _ 0 e.j ⟨st.1, fun c hc => st.2 c ((e.s c).2 (.inr (.inr (.inl hc))))⟩ (Last.some (D := D1) (show P.chg D1 n ≠ [] from hc) _ _ en)
  clear hK' E60
  obtain ⟨Sd, q1, q2, q3, q4⟩ := J63.ex
  have hln := J63.len
  have st63' : Step S60 h60 Sd x63 := ⟨st63.1, fun c hc => st63.2 c ((q4 c).2 (.inr hc))⟩
  have sub63 : Sub h x63 := st63.1.sub sub60 new60
  have newd : ∀ c, Sd c → h c = none := fun c hc => (st63'.2 c hc).elim (new60 c) fun h' => sub60.none h'
  refine fail_spec q2 (hps.sub sub63) ?_ fun h66 S66 W hW dk66 st66 => ⟨rfl, start_spec dk66 rfl rfl fun h68 dk68 st68 => ⟨_, rfl, split_ne (fun e => absurd rfl e) fun _ => ?_⟩⟩
  · cases ps with
    | nil => exact .inl rfl
    | cons p ps => exact .inr fun c hc hs => row_in boolC_len (by decide) hps (by show 0 < ps.length + 1; omega) hc (newd c hs)
  have hl68 : 8 * n + 1 ≤ (settleL Df.l W).length := by rw [settleL_len]; exact hln
  have hrd : 16 ≤ ((Dk.mk (settleL Df.l W) [] 0 false).read 0).size := by
    rw [dk68.read_sz (by show 0 < (settleL Df.l W).length; omega)]; decide
  refine jopen_gen dk68 rfl rfl rfl n (by omega) (by omega) hl68 hrd fun h71 jb3 S71 J71 st71 => ⟨_, _, rfl, ?_⟩
  obtain ⟨hbad, heq⟩ := last_told L hW don okP (by omega) (by omega) hl (by omega) wl.mark wl.syn
  have st71' := (st63'.trans st66).trans (st68.trans st71)
  refine popen_spec J71 (recov_down rfl) h2 (fun x y => (hbad x y).elim) fun H T h75 qb S75 nq st75 E75 => ⟨_, _, rfl, split_ne (fun e => absurd rfl e) fun _ => split_ne (fun e => absurd rfl e) fun _ => ?_⟩
  refine st_spec E75 fun h79 ea ec fa fc s79 Wq _ _ => ⟨_, _, _, _, _, _, _, _, _, _, _, rfl, ?_⟩
  have st79 := (st71'.trans st75).trans (Step.sub s79)
  have C79 := C60.step st79
  have B79 := B60.step st79
  have sub79 : Sub h h79 := st79.1.sub sub60 new60
  have Wb' : RSOk h79 n { P.rs D1 n va vc wa wc with s := sv } := ⟨B79.ok.lu, B79.ok.ld, B79.ok.ru, B79.ok.rd, B79.ok.rt⟩
  have key := heq H T va vc wa wc ea ec fa fc ua uc da dc
  rw [← hsv] at key
  rw [eqv]
  refine same_spec Wq Wb' (by omega) fun b hb => ⟨_, rfl, ?_⟩
  refine split_cond (fun _ => live h79 sub79) fun eb => ?_
  rcases key with e1 | ⟨he, e2⟩
  · have := hb e1
    rw [eb] at this; cases this
  · refine split_ne (fun _ => same_spec Wq C79.ok (by omega) fun b' hb' => ⟨_, rfl, split_cond (fun _ => live h79 sub79) fun eb' => ?_⟩) fun e0 => absurd e0 he
    have := hb' e2
    rw [eb'] at this; cases this
end Go.Proofs.YtagglohkipioiaaGreat
