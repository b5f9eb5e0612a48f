/- What limit.Decode makes of any bytes: nothing, or the limiter whose bytes they are. Conditions: not too many bytes. -/
import Derived.Test.YtagglohkipioiaaL2
namespace Go.Proofs.Ytagglohkipioiaa
open Go.Gx
set_option maxRecDepth 100000
set_option linter.unusedVariables false

theorem take_more {l : List UInt8} {p k : Nat} {pre a post : List UInt8} (h : l.take p = pre) (hp : p ≤ l.length) (hd : l.drop p = a ++ post) (hk : a.length = k) : l.take (p + k) = pre ++ a ∧ p + k ≤ l.length := by
  have hle := congrArg List.length hd
  rw [List.length_drop, List.length_append] at hle
  refine ⟨?_, by omega⟩
  rw [List.take_add, h, hd, ← hk, List.take_left]
theorem clip_le {n : Nat} (h : clip n < 4611686018427387904) : clip n = n := by unfold clip at h ⊢; omega
theorem decode_spec {h : Hp} {ba : Option Addr} {bc : Nat} {l : List UInt8} (H : RowAt byteC 1 h ba l) (hlc : l.length ≤ bc) (hl : l.length ≤ 3000) {K : Value → Hp → Prop}
    (hBad : ∀ y, Sub h y → K (.tuple #[.pointer none, .int .i64 4]) y)
    (hOk : ∀ y lb mb r p u n E, Sub h y → LimAt y lb mb r p u n E → ltM r p u → n ≤ 32 → E.length ≤ 32 → l = encL r p u n E → h lb = none → K (.tuple #[.pointer (some ⟨lb, 0, none⟩), .int .i64 0]) y) : CallsH Try.prog limit_Decode.id #[.slice ba l.length bc] h K := by
  apply limit_Decode.calls
  unfold limit_Decode.W
  intro k1 hk1
  refine ⟨_, _, _, (Blk.new h k1 22 [.slice ba l.length bc]).cell' 0 rfl, split_dec (fun e => by have e : (l.length : Int) > 65536 := e; omega) fun _ => ?_⟩
  intro k5 hk5 k6 hk6
  have d15 : k1 ≠ k5 := fun e => by rw [← e, Hp.upd_same] at hk5; cases hk5
  have n5 : h k5 = none := by rw [Hp.upd_ne _ _ (Ne.symm d15)] at hk5; exact hk5
  have d56 : k5 ≠ k6 := fun e => by rw [← e, Hp.upd_same] at hk6; cases hk6
  rw [Hp.upd_ne _ _ (Ne.symm d56)] at hk6
  have d16 : k1 ≠ k6 := fun e => by rw [← e, Hp.upd_same] at hk6; cases hk6
  have n6 : h k6 = none := by rw [Hp.upd_ne _ _ (Ne.symm d16)] at hk6; exact hk6
  have B0 : Box h (((h.upd k1 (.cells #[.slice ba l.length bc] 22 (0, 0))).upd k5 (.cells #[.int .i64 0] 3 (0, 0))).upd k6 (.cells #[.bool false] 4 (0, 0))) k1 k5 k6 ba l.length bc 0 false := by
    refine ⟨((Sub.upd hk1 _).trans (Sub.upd hk5 _)).trans (Sub.upd (by rw [Hp.upd_ne _ _ (Ne.symm d56)]; exact hk6) _), hk1, n5, n6, d15, d16, d56, ?_, ?_, ?_⟩
    · exact ((Blk.new h k1 22 [.slice ba l.length bc]).upd hk5 _).upd (by rw [Hp.upd_ne _ _ (Ne.symm d56)]; exact hk6) _
    · exact (Blk.new _ k5 3 [.int .i64 0]).upd (by rw [Hp.upd_ne _ _ (Ne.symm d56)]; exact hk6) _
    · exact Blk.new _ k6 4 [.bool false]
  generalize ((h.upd k1 (.cells #[.slice ba l.length bc] 22 (0, 0))).upd k5 (.cells #[.int .i64 0] 3 (0, 0))).upd k6 (.cells #[.bool false] 4 (0, 0)) = x0 at B0
  refine ⟨B0.b5.store (Nat.le_refl _), ?_⟩
  have B1 : Box h (x0.put k5 0 [.int .i64 0]) k1 k5 k6 ba l.length bc 0 false := B0.put5 0
  refine ⟨B1.b6.store (Nat.le_refl _), ?_⟩
  have B2 : Box h ((x0.put k5 0 [.int .i64 0]).put k6 0 [.bool false]) k1 k5 k6 ba l.length bc 0 false := B1.put6 false
  generalize (x0.put k5 0 [.int .i64 0]).put k6 0 [.bool false] = x2 at B2
  intro k7 hk7
  have n7 : h k7 = none := B2.sub.none hk7
  have d71 : k7 ≠ k1 := (B2.b1.ne hk7).symm
  have d75 : k7 ≠ k5 := (B2.b5.ne hk7).symm
  have d76 : k7 ≠ k6 := (B2.b6.ne hk7).symm
  have B3 := B2.more (Sub.upd hk7 (.cells #[.int .i64 0, .int .i64 0, .int .i64 0, .int .i64 0, .int .i64 0] 85 (0, 0)))
  have V3 : Blk (x2.upd k7 (.cells #[.int .i64 0, .int .i64 0, .int .i64 0, .int .i64 0, .int .i64 0] 85 (0, 0))) k7 85 ([0, 0, 0, 0, 0].map fun (v : Int) => .int .i64 v) := Blk.new _ k7 85 _
  generalize x2.upd k7 (.cells #[.int .i64 0, .int .i64 0, .int .i64 0, .int .i64 0, .int .i64 0] 85 (0, 0)) = x3 at B3 V3
  refine ⟨fun i x m => ∃ (j q : Nat) (bad : Bool) (vs : List Int) (ns : List Nat), i = (j : Int) ∧ j ≤ 5 ∧ m = 5 - j ∧ Box h x k1 k5 k6 ba l.length bc q bad ∧ q ≤ l.length ∧ Blk x k7 85 (vs.map fun v => .int .i64 v) ∧ vs.length = 5 ∧
    (bad = false → ns.length = j ∧ vs.take j = ns.map (fun n => ((clip n : Nat) : Int)) ∧ l.take q = textL ns), ⟨_, 0, 0, false, [0, 0, 0, 0, 0], [], rfl, by decide, rfl, B3, by omega, V3, rfl, fun _ => ⟨rfl, rfl, by simp [textL]⟩⟩, ?_⟩
  rintro i x m ⟨j, q, bad, vs, ns, rfl, hj, rfl, B, hq, V, hv, hns⟩
  refine split_dec (fun g => ?_) fun g => ?_
  · have g : j < 5 := by have : (j : Int) < 5 := g; omega
    have set_ : ∀ (y : Hp) (w : Int), Keep (boxS k5 k6) x y → ∀ q' bad', Box h y k1 k5 k6 ba l.length bc q' bad' → q' ≤ l.length → (bad' = false → ∃ ns' : List Nat, ns'.length = j + 1 ∧ (vs.take j) ++ [w] = ns'.map (fun n => ((clip n : Nat) : Int)) ∧ l.take q' = textL ns') →
        (0 ≤ (j : Int)) ∧ ((j : Int) < 5 ∧ (StoreOk y k7 (0 + (j : Int).toNat * 1) 1 ∧ ∃ k16 : Nat, k16 < 5 - j ∧ ∃ (j' q : Nat) (bad : Bool) (vs : List Int) (ns : List Nat), IntKind.i64.wrap ((j : Int) + 1) = (j' : Int) ∧ j' ≤ 5 ∧ k16 = 5 - j' ∧ Box h (y.put k7 (0 + (j : Int).toNat * 1) [.int .i64 w]) k1 k5 k6 ba l.length bc q bad ∧ q ≤ l.length ∧ Blk (y.put k7 (0 + (j : Int).toNat * 1) [.int .i64 w]) k7 85 (vs.map fun v => .int .i64 v) ∧ vs.length = 5 ∧
    (bad = false → ns.length = j' ∧ vs.take j' = ns.map (fun n => ((clip n : Nat) : Int)) ∧ l.take q = textL ns))) := by
      intro y w ky q' bad' B' hq' hb'
      have Vy := V.keep ky (fun hh => hh.elim d75 d76)
      have e : 0 + (j : Int).toNat * 1 = j := by omega
      rw [e]
      have hvl : (vs.map fun v => Value.int .i64 v).length = 5 := by rw [List.length_map]; exact hv
      have Bp : Box h (y.put k7 j [.int .i64 w]) k1 k5 k6 ba l.length bc q' bad' := B'.keep (S := fun c => c = k7) (Keep.put _ _ _ _ rfl) (by rintro c rfl; exact ⟨n7, d71, d75, d76⟩)
      have Vp := Vy.put j [.int .i64 w]
      have es : setL (vs.map fun v => Value.int .i64 v) j [.int .i64 w] = (vs.set j w).map fun v => Value.int .i64 v := by
        show (vs.map fun v => Value.int .i64 v).set j (.int .i64 w) = _
        rw [List.map_set]
      rw [es] at Vp
      refine ⟨by omega, by omega, Vy.store (by omega), 5 - (j + 1), by omega, j + 1, q', bad', vs.set j w, ?_⟩
      by_cases hbb : bad' = false
      · obtain ⟨ns', h1, h2, h3⟩ := hb' hbb
        refine ⟨ns', by rw [wid (by omega) (by omega)]; omega, by omega, rfl, Bp, hq', Vp, by rw [List.length_set]; exact hv, fun _ => ⟨h1, ?_, h3⟩⟩
        rw [← h2, List.take_add_one, List.take_set_of_le (Nat.le_refl _), List.getElem?_set_self (by omega)]; rfl
      · exact ⟨[], by rw [wid (by omega) (by omega)]; omega, by omega, rfl, Bp, hq', Vp, by rw [List.length_set]; exact hv, fun e => absurd e hbb⟩
    refine number_spec B H hq (by omega) (fun hb n post y hd hn By ky => ⟨_, rfl, ?_⟩) (fun y By ky => ⟨_, rfl, ?_⟩)
    · obtain ⟨h1, h2, h3⟩ := hns hb
      have h4 := take_more h3 hq hd rfl
      exact set_ y _ ky _ _ By h4.2 fun _ => ⟨ns ++ [n], by simp [h1], by rw [h2, List.map_append]; rfl, by rw [h4.1, textL_append, textL_one]⟩
    · exact set_ y _ ky _ _ By hq fun e => by cases e
  · have : j = 5 := by
      have : ¬ (j : Int) < 5 := g
      omega
    subst this
    obtain ⟨v0, v1, v2, v3, v4, rfl⟩ : ∃ v0 v1 v2 v3 v4, vs = [v0, v1, v2, v3, v4] := by
      match vs, hv with
      | [a, b, c, d, e], _ => exact ⟨_, _, _, _, _, rfl⟩
    refine ⟨_, V.cell' 1 rfl, _, V.cell' 2 rfl, _, V.cell' 3 rfl, _, V.cell' 0 rfl, keep_spec _ _ _ _ ⟨_, _, rfl, fun _ => False, fun _ hf => hf.elim, _, B.b6.cell' 0 rfl, ?_⟩ fun hM hn1 hn2 mb lb o hmb hlb hne hmo => ⟨_, _, rfl, ?_⟩⟩
    · exact split_cond (fun _ => hBad _ B.sub) fun _ => split_ne (fun _ => hBad _ B.sub) fun e => absurd e (by decide)
    · have s1 : Sub x (x.upd mb o) := Sub.upd hmb o
      have s2 : Sub (x.upd mb o) ((x.upd mb o).upd lb (.cells #[.int .i64 v1, .int .i64 v2, .int .i64 v3, .int .i64 v0, .map (some mb)] 91 (0, 0))) := Sub.upd (by rw [Hp.upd_ne _ _ hne]; exact hlb) _
      have B4 := B.more (s1.trans s2)
      have V4 := V.sub (s1.trans s2)
      have L4 : Blk ((x.upd mb o).upd lb (.cells #[.int .i64 v1, .int .i64 v2, .int .i64 v3, .int .i64 v0, .map (some mb)] 91 (0, 0))) lb 91 [.int .i64 v1, .int .i64 v2, .int .i64 v3, .int .i64 v0, .map (some mb)] := Blk.new _ _ _ _
      have M4 : ((x.upd mb o).upd lb (.cells #[.int .i64 v1, .int .i64 v2, .int .i64 v3, .int .i64 v0, .map (some mb)] 91 (0, 0))) mb = some o := s2 _ _ (Hp.upd_same _ _ _)
      have dlb : lb ≠ k5 ∧ lb ≠ k6 := ⟨(B.b5.ne hlb).symm, (B.b6.ne hlb).symm⟩
      have dmb : mb ≠ k1 ∧ mb ≠ k5 ∧ mb ≠ k6 := ⟨(B.b1.ne hmb).symm, (B.b5.ne hmb).symm, (B.b6.ne hmb).symm⟩
      have nmb : h mb = none := B.sub.none hmb
      have nlb : h lb = none := B.sub.none hlb
      have d7 : k7 ≠ mb := V.ne hmb
      generalize (x.upd mb o).upd lb (.cells #[.int .i64 v1, .int .i64 v2, .int .i64 v3, .int .i64 v0, .map (some mb)] 91 (0, 0)) = x4 at B4 V4 L4 M4
      refine ⟨fun y => y = x4 ∧ bad = false ∧ v4 ≤ v0, ?_, _, B4.b6.cell' 0 rfl, split_cond (fun _ => hBad _ B4.sub) fun e1 => split_ne (fun e => absurd rfl e) fun _ => ⟨_, V4.cell' 4 rfl, _, V4.cell' 0 rfl, split_dec (fun _ => hBad _ B4.sub) fun e2 => ⟨rfl, e1, ?_⟩⟩⟩
      · rintro y ⟨rfl, rfl, hle⟩
        obtain ⟨h1, h2, h3⟩ := hns rfl
        obtain ⟨n, r, p, u, cnt, rfl⟩ : ∃ a b c d e : Nat, ns = [a, b, c, d, e] := by
          match ns, h1 with
          | [a, b, c, d, e], _ => exact ⟨_, _, _, _, _, rfl⟩
        have h2 : [v0, v1, v2, v3, v4] = [((clip n : Nat) : Int), ((clip r : Nat) : Int), ((clip p : Nat) : Int), ((clip u : Nat) : Int), ((clip cnt : Nat) : Int)] := h2
        simp only [List.cons.injEq, and_true] at h2
        obtain ⟨rfl, rfl, rfl, rfl, rfl⟩ := h2
        have c0 : clip n = n := clip_le (by omega)
        obtain ⟨⟨r1, r2⟩, ⟨p1, p2⟩, u1, u2⟩ := id hM
        have c1 : clip r = r := clip_le (by omega)
        have c2 : clip p = p := clip_le (by omega)
        have c3 : clip u = u := clip_le (by omega)
        have c4 : clip cnt = cnt := clip_le (by omega)
        rw [c0, c1, c2, c3] at L4
        rw [c4] at V4
        rw [c4, c0] at hle
        rw [c1, c2, c3] at hM
        rw [c0] at hn1 hn2
        refine ⟨_, V4.cell' 4 rfl, ?_⟩
        refine ⟨fun s i x m => ∃ (E : List En) (q : Nat), i = (E.length : Int) ∧ E.length ≤ cnt ∧ m = cnt - E.length ∧ Box h x k1 k5 k6 ba l.length bc q false ∧ q ≤ l.length ∧ l.take q = textL [n, r, p, u, cnt] ++ encE E ∧ s = lastN E ∧ LimAt x lb mb r p u n E,
          ⟨_, [], q, rfl, Nat.zero_le _, rfl, B4, hq, by rw [h3]; unfold encE; simp, rfl, ⟨L4, ⟨o, M4, hmo⟩, EnOk.nil _ _ _⟩⟩, ?_⟩
        rintro s i x m ⟨E, q, rfl, hE, rfl, B, hq, hb, rfl, L⟩
        refine split_dec (fun g => ?_) fun g => ?_
        · have g : E.length < cnt := by have : (E.length : Int) < (cnt : Int) := g; omega
          refine ⟨_, _, _, B.b1.cell' 0 rfl, _, B.b5.cell' 0 rfl, gettext_spec (m := 32) (H.sub B.sub) hlc hq (by omega) (by decide) (fun s post hd hs => ⟨_, _, _, rfl, ?_⟩) fun e he => ⟨_, _, _, rfl, fun _ => False, fun _ hf => hf.elim, split_ne (fun _ => hBad _ B.sub) fun e2 => absurd e2 he⟩⟩
          refine ⟨fun y => y = x ∧ (E ≠ [] → nameL ⟨lastN E, 0, 0⟩ < nameL ⟨s, 0, 0⟩), ?_, split_ne (fun e => absurd rfl e) fun _ => split_dec (fun e1 => ?_) fun e1 => ⟨rfl, fun hE => ?_⟩⟩
          · rintro y ⟨rfl, hlt⟩
            have hb1 := take_more hb hq hd (by rw [List.length_append, size_len])
            rw [← Nat.add_assoc] at hb1
            refine ⟨B.b5.store (Nat.le_refl _), fun c => if c = lb then y lb else none, ?_, ?_⟩
            · intro c o hc
              have hc : (if c = lb then y lb else none) = some o := hc
              by_cases hcl : c = lb
              · rw [if_pos hcl] at hc
                rw [Gx.put_ne _ _ _ (by rw [hcl]; exact dlb.1), hcl]; exact hc
              · rw [if_neg hcl] at hc; cases hc
            have LJ : Blk (fun c => if c = lb then y lb else none) lb 91 [.int .i64 (r : Nat), .int .i64 (p : Nat), .int .i64 (u : Nat), .int .i64 (n : Nat), .map (some mb)] := by
              show (if lb = lb then y lb else none) = _
              rw [if_pos rfl]; exact L.blk
            have hJ : ∀ z, Keep (boxS k5 k6) y z → Sub (fun c => if c = lb then y lb else none) z := by
              intro z kz c o hc
              have hc : (if c = lb then y lb else none) = some o := hc
              by_cases hcl : c = lb
              · rw [if_pos hcl, ← hcl] at hc
                exact kz c o hc (by rw [hcl]; exact fun hh => hh.elim dlb.1 dlb.2)
              · rw [if_neg hcl] at hc; cases hc
            generalize (fun c => if c = lb then y lb else none) = J at LJ hJ
            have B5 := B.put5 (q + (numE s.size).length + s.size)
            have ky0 : Keep (boxS k5 k6) y (y.put k5 0 [.int .i64 ((q + (numE s.size).length + s.size : Nat) : Int)]) := Keep.put _ _ _ _ (.inl rfl)
            generalize y.put k5 0 [.int .i64 ((q + (numE s.size).length + s.size : Nat) : Int)] = y1 at B5 ky0
            have bad_ : ∀ z q' (A : Prop), Box h z k1 k5 k6 ba l.length bc q' true → ∃ b : Bool, z.cell k6 0 = some (.bool b) ∧ bif b then K (.tuple #[.pointer none, .int .i64 4]) z else A := fun z q' A Bz => ⟨_, Bz.b6.cell' 0 rfl, hBad _ Bz.sub⟩
            have hl' : l.length < 1099511627776 := by omega
            have hp1 := hb1.2
            refine ⟨lb, 0, rfl, _, LJ.cell' 0 rfl, _, LJ.cell' 1 rfl, _, LJ.cell' 2 rfl, ?_, hJ _ ky0, ?_⟩
            · refine number_spec B5 H hp1 hl' (fun _ c1 post1 z1 hd1 hc1 Bz1 kz1 => ⟨_, rfl, hJ _ (ky0.trans kz1), ?_, hJ _ (ky0.trans kz1), ?_⟩) (fun z1 Bz1 kz1 => ⟨_, rfl, hJ _ (ky0.trans kz1), ?_, hJ _ (ky0.trans kz1), ?_⟩)
              · refine number_spec Bz1 H (take_more hb1.1 hp1 hd1 rfl).2 hl' (fun _ c2 post2 z2 hd2 hc2 Bz2 kz2 => ⟨_, rfl, hJ _ (ky0.trans (kz1.trans kz2)), hJ _ (ky0.trans (kz1.trans kz2)), ?_⟩) (fun z2 Bz2 kz2 => ⟨_, rfl, hJ _ (ky0.trans (kz1.trans kz2)), hJ _ (ky0.trans (kz1.trans kz2)), bad_ _ _ _ Bz2⟩)
                have hb2 := take_more hb1.1 hp1 hd1 rfl
                have hb3 := take_more hb2.1 hb2.2 hd2 rfl
                have kz := ky0.trans (kz1.trans kz2)
                have Lz := L.keep kz (fun hh => hh.elim dlb.1 dlb.2) (fun hh => hh.elim dmb.2.1 dmb.2.2)
                obtain ⟨o1, ho1, hm1⟩ := Lz.map
                refine ⟨_, Bz2.b6.cell' 0 rfl, may_spec _ _ _ _ _ ⟨_, rfl, split_not (fun _ => hBad _ Bz2.sub) fun e2 => ⟨lb, 0, rfl, _, Lz.blk.cell' 4 rfl, mb, o1, _, rfl, ho1, hm1, fun o2 ho2 => ?_⟩⟩⟩
                have hB := of_decide_eq_true e2
                have hup := up_bound hM
                have k1' : clip c1 = c1 := clip_le (by have := hB.2.2.2; omega)
                have k2' : clip c2 = c2 := clip_le (by have := hB.2.1.2; omega)
                rw [k1', k2'] at hB ho2
                obtain ⟨hok, hget⟩ := L.ok.snoc (e := ⟨s, c1, c2⟩) hB hs hlt
                refine ⟨cnt - (E.length + 1), by omega, E ++ [⟨s, c1, c2⟩], _, ?_, ?_, ?_, Bz2.keep (S := fun c => c = mb) (Keep.upd _ (.inl rfl)) (by rintro c rfl; exact ⟨nmb, dmb⟩), hb3.2, ?_, (lastN_snoc E ⟨s, c1, c2⟩).symm, ⟨Lz.blk.keep (S := fun c => c = mb) (Keep.upd _ (.inl rfl)) hne, ⟨o2, Hp.upd_same _ _ _, ?_⟩, hok⟩⟩
                · rw [wid (by omega) (by omega), List.length_append]; rfl
                · rw [List.length_append]; exact g
                · rw [List.length_append]; rfl
                · rw [hb3.1, encE_snoc]
                  unfold encOne
                  simp only [List.append_assoc]
                · have e3 : mapL r p u (E ++ [⟨s, c1, c2⟩]) = mset (mapL r p u E) (.string s) (mkB r p u c1 c2) := by
                    unfold mset
                    rw [hget]
                    unfold mapL
                    rw [List.map_append]; rfl
                  rw [e3]; exact ho2
              · refine number_spec Bz1 H (take_more hb1.1 hp1 hd1 rfl).2 hl' (fun _ c2 post2 z2 hd2 hc2 Bz2 kz2 => ⟨_, rfl, hJ _ (ky0.trans (kz1.trans kz2)), ?_⟩) (fun z2 Bz2 kz2 => ⟨_, rfl, hJ _ (ky0.trans (kz1.trans kz2)), bad_ _ _ _ Bz2⟩)
                have hb2 := take_more hb1.1 hp1 hd1 rfl
                have hb3 := take_more hb2.1 hb2.2 hd2 rfl
                have kz := ky0.trans (kz1.trans kz2)
                have Lz := L.keep kz (fun hh => hh.elim dlb.1 dlb.2) (fun hh => hh.elim dmb.2.1 dmb.2.2)
                obtain ⟨o1, ho1, hm1⟩ := Lz.map
                refine ⟨_, Bz2.b6.cell' 0 rfl, may_spec _ _ _ _ _ ⟨_, rfl, split_not (fun _ => hBad _ Bz2.sub) fun e2 => ⟨lb, 0, rfl, _, Lz.blk.cell' 4 rfl, mb, o1, _, rfl, ho1, hm1, fun o2 ho2 => ?_⟩⟩⟩
                have hB := of_decide_eq_true e2
                have hup := up_bound hM
                have k1' : clip c1 = c1 := clip_le (by have := hB.2.2.2; omega)
                have k2' : clip c2 = c2 := clip_le (by have := hB.2.1.2; omega)
                rw [k1', k2'] at hB ho2
                obtain ⟨hok, hget⟩ := L.ok.snoc (e := ⟨s, c1, c2⟩) hB hs hlt
                refine ⟨cnt - (E.length + 1), by omega, E ++ [⟨s, c1, c2⟩], _, ?_, ?_, ?_, Bz2.keep (S := fun c => c = mb) (Keep.upd _ (.inl rfl)) (by rintro c rfl; exact ⟨nmb, dmb⟩), hb3.2, ?_, (lastN_snoc E ⟨s, c1, c2⟩).symm, ⟨Lz.blk.keep (S := fun c => c = mb) (Keep.upd _ (.inl rfl)) hne, ⟨o2, Hp.upd_same _ _ _, ?_⟩, hok⟩⟩
                · rw [wid (by omega) (by omega), List.length_append]; rfl
                · rw [List.length_append]; exact g
                · rw [List.length_append]; rfl
                · rw [hb3.1, encE_snoc]
                  unfold encOne
                  simp only [List.append_assoc]
                · have e3 : mapL r p u (E ++ [⟨s, c1, c2⟩]) = mset (mapL r p u E) (.string s) (mkB r p u c1 c2) := by
                    unfold mset
                    rw [hget]
                    unfold mapL
                    rw [List.map_append]; rfl
                  rw [e3]; exact ho2
              · exact number_spec Bz1 H hp1 hl' (fun e => by cases e) (fun z2 Bz2 kz2 => ⟨_, rfl, hJ _ (ky0.trans (kz1.trans kz2)), hJ _ (ky0.trans (kz1.trans kz2)), bad_ _ _ _ Bz2⟩)
              · exact number_spec Bz1 H hp1 hl' (fun e => by cases e) (fun z2 Bz2 kz2 => ⟨_, rfl, hJ _ (ky0.trans (kz1.trans kz2)), bad_ _ _ _ Bz2⟩)
            · refine number_spec B5 H hp1 hl' (fun _ c1 post1 z1 hd1 hc1 Bz1 kz1 => ⟨_, rfl, hJ _ (ky0.trans kz1), ?_⟩) (fun z1 Bz1 kz1 => ⟨_, rfl, hJ _ (ky0.trans kz1), ?_⟩)
              · refine number_spec Bz1 H (take_more hb1.1 hp1 hd1 rfl).2 hl' (fun _ c2 post2 z2 hd2 hc2 Bz2 kz2 => ⟨_, rfl, hJ _ (ky0.trans (kz1.trans kz2)), ?_⟩) (fun z2 Bz2 kz2 => ⟨_, rfl, hJ _ (ky0.trans (kz1.trans kz2)), bad_ _ _ _ Bz2⟩)
                have hb2 := take_more hb1.1 hp1 hd1 rfl
                have hb3 := take_more hb2.1 hb2.2 hd2 rfl
                have kz := ky0.trans (kz1.trans kz2)
                have Lz := L.keep kz (fun hh => hh.elim dlb.1 dlb.2) (fun hh => hh.elim dmb.2.1 dmb.2.2)
                obtain ⟨o1, ho1, hm1⟩ := Lz.map
                refine ⟨_, Bz2.b6.cell' 0 rfl, may_spec _ _ _ _ _ ⟨_, rfl, split_not (fun _ => hBad _ Bz2.sub) fun e2 => ⟨lb, 0, rfl, _, Lz.blk.cell' 4 rfl, mb, o1, _, rfl, ho1, hm1, fun o2 ho2 => ?_⟩⟩⟩
                have hB := of_decide_eq_true e2
                have hup := up_bound hM
                have k1' : clip c1 = c1 := clip_le (by have := hB.2.2.2; omega)
                have k2' : clip c2 = c2 := clip_le (by have := hB.2.1.2; omega)
                rw [k1', k2'] at hB ho2
                obtain ⟨hok, hget⟩ := L.ok.snoc (e := ⟨s, c1, c2⟩) hB hs hlt
                refine ⟨cnt - (E.length + 1), by omega, E ++ [⟨s, c1, c2⟩], _, ?_, ?_, ?_, Bz2.keep (S := fun c => c = mb) (Keep.upd _ (.inl rfl)) (by rintro c rfl; exact ⟨nmb, dmb⟩), hb3.2, ?_, (lastN_snoc E ⟨s, c1, c2⟩).symm, ⟨Lz.blk.keep (S := fun c => c = mb) (Keep.upd _ (.inl rfl)) hne, ⟨o2, Hp.upd_same _ _ _, ?_⟩, hok⟩⟩
                · rw [wid (by omega) (by omega), List.length_append]; rfl
                · rw [List.length_append]; exact g
                · rw [List.length_append]; rfl
                · rw [hb3.1, encE_snoc]
                  unfold encOne
                  simp only [List.append_assoc]
                · have e3 : mapL r p u (E ++ [⟨s, c1, c2⟩]) = mset (mapL r p u E) (.string s) (mkB r p u c1 c2) := by
                    unfold mset
                    rw [hget]
                    unfold mapL
                    rw [List.map_append]; rfl
                  rw [e3]; exact ho2
              · exact number_spec Bz1 H hp1 hl' (fun e => by cases e) (fun z2 Bz2 kz2 => ⟨_, rfl, hJ _ (ky0.trans (kz1.trans kz2)), bad_ _ _ _ Bz2⟩)
          · refine split_cond (fun _ => hBad _ B.sub) fun e3 => ⟨rfl, fun _ => ?_⟩
            have e3 : (Gx.hb (Op.bytesLess s.toList (lastN E).toList) || beqS s (lastN E)) = false := e3
            rw [hb_eq, bytesLess_eq, beqS_val, toList_eq_data, toList_eq_data] at e3
            have e4 := (Bool.or_eq_false_iff.1 e3)
            have e5 := of_decide_eq_false e4.1
            have e6 := of_decide_eq_false e4.2
            exact Std.lt_of_le_of_ne (List.not_lt.1 e5) fun e => e6 (bytes_ext e.symm)
          · have : E.length = 0 := by
              have : ¬ (E.length : Int) > 0 := e1
              omega
            exact absurd (List.eq_nil_of_length_eq_zero this) hE
        · have : E.length = cnt := by
            have : ¬ (E.length : Int) < (cnt : Int) := g
            omega
          subst this
          refine ⟨_, B.b5.cell' 0 rfl, _, _, _, B.b1.cell' 0 rfl, split_ne (fun _ => hBad _ B.sub) fun e => ?_⟩
          have e : (q : Int) = (l.length : Int) := e
          have e : q = l.length := by omega
          rw [e, List.take_length] at hb
          exact hOk x lb mb r p u n E B.sub L hM (by omega) (by omega) hb nlb
      · have e2 : ¬ v4 > v0 := e2
        omega
end Go.Proofs.Ytagglohkipioiaa
