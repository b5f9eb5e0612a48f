/- Pages are allocated and given back. Conditions: the pager stands as it is named. -/
import Derived.Test.YtagglohkipioiaaP8
namespace Go.Proofs.Ytagglohkipioiaa
open Go.Gx
set_option maxRecDepth 100000
set_option linter.unusedVariables false

variable {h : Hp} {pb jb db n : Nat} {S : Nat → Prop} {D : Dk} {P : Pg} {K : Value → Hp → Prop}
theorem PgEx.put {S0 : Nat → Prop} {mb : Nat} {pa : Option Addr} {pc : Nat} {Q : List Pt} (E : PgEx h pb jb db S S0 n D P mb pa pc Q) {h' : Hp} {now' : Hd} {d' : List Ch} (kp : Keep (fun c => c = pb ∨ c = mb) h h')
    (B : Blk h' pb 120 (pgC jb P.good now' mb pa Q.length pc)) (Dm : DAt h' mb d') : PgEx h' pb jb db S S0 n D { P with now := now', d := d' } mb pa pc Q ∧ Step S h S h' := by
  refine ⟨⟨B, E.j.out kp ?_, Dm, E.own.keep kp ?_, fun q hq => (E.ds q hq).keep kp ?_, E.pts, E.n1, E.n2, E.n3, E.n4, E.n5, E.s⟩, kp.mono ?_, fun c hc => .inl hc⟩
  · rintro c hc (rfl | rfl)
    · exact E.n1 hc
    · exact E.n2 hc
  · rintro c hc (rfl | rfl)
    · exact (E.n4 c hc).2 rfl
    · exact E.d.ne_own E.own hc rfl
  · rintro (e | e)
    · exact (E.ds q hq).ne E.blk e
    · have := E.n5
      rw [List.nodup_cons] at this
      exact this.1 (e ▸ List.mem_map.2 ⟨q, hq, rfl⟩)
  · rintro c (rfl | rfl)
    · exact (E.s _).2 (.inl rfl)
    · exact (E.s _).2 (.inr (.inl rfl))
def Pg.alloc (P : Pg) (i : Nat) : Pg := { P with now := { P.now with u := upU P.now.u i true }, d := dset P.d i (zeroB 1024) }
def Pg.give (P : Pg) (i : Nat) : Pg := { P with now := { P.now with u := upU P.now.u i false }, d := ddel P.d i }
theorem upU_same (u : Nat → Bool) (i : Nat) (v : Bool) : upU u i v i = v := if_pos rfl
theorem upU_ne (u : Nat → Bool) {i j : Nat} (v : Bool) (h : j ≠ i) : upU u i v j = u j := if_neg h
theorem HdOk.use {n : Nat} {H : Hd} (O : HdOk n H) {i : Nat} (hi : i < n) : HdOk n { H with u := upU H.u i true } := by
  refine ⟨fun j hj hu => ?_, fun k hk => ⟨(O.roots k hk).1, fun h0 => ?_⟩, ?_, O.ser⟩
  · by_cases e : j = i
    · omega
    · have hu : upU H.u i true j = true := hu
      rw [upU_ne _ _ e] at hu; exact O.below j hj hu
  · show upU H.u i true (H.r k) = true
    by_cases e : H.r k = i
    · rw [e, upU_same]
    · rw [upU_ne _ _ e]; exact (O.roots k hk).2 h0
  · show upU H.u i true 0 = true
    by_cases e : 0 = i
    · rw [← e, upU_same]
    · rw [upU_ne _ _ e]; exact O.zero
theorem HdOk.free {n : Nat} {H : Hd} (O : HdOk n H) {i : Nat} (hi : 1 ≤ i) (hr : ∀ k, k < 4 → H.r k ≠ i) : HdOk n { H with u := upU H.u i false } := by
  refine ⟨fun j hj hu => ?_, fun k hk => ⟨(O.roots k hk).1, fun h0 => ?_⟩, ?_, O.ser⟩
  · have hu : upU H.u i false j = true := hu
    by_cases e : j = i
    · rw [e, upU_same] at hu; cases hu
    · rw [upU_ne _ _ e] at hu; exact O.below j hj hu
  · show upU H.u i false (H.r k) = true
    rw [upU_ne _ _ (hr k hk)]; exact (O.roots k hk).2 h0
  · show upU H.u i false 0 = true
    rw [upU_ne _ _ (by omega)]; exact O.zero
theorem POk.put {P : Pg} (O : POk n P) {now' : Hd} {d' : List Ch} (h1 : HdOk n now') (h2 : DOk n d') : POk n { P with now := now', d := d' } := ⟨O.good, h1, h2, O.pts, O.few⟩
theorem alloc_spec (E : PgAt h pb jb db S n D P) (hF : (∀ j, 1 ≤ j → j < n → P.now.u j = true) → K (.tuple #[.int .i64 0, .int .i64 5]) h)
    (hG : ∀ i, 1 ≤ i → i < n → P.now.u i = false → (∀ j, 1 ≤ j → j < i → P.now.u j = true) → ∀ h', PgAt h' pb jb db S n D (P.alloc i) → Step S h S h' → K (.tuple #[.int .i64 (i : Nat), .int .i64 0]) h') :
    CallsH Try.prog pager_Pager_Alloc.id #[.pointer (some ⟨pb, 0, none⟩)] h K := by
  have hn := E.n2
  apply pager_Pager_Alloc.calls
  unfold pager_Pager_Alloc.W
  refine ⟨fun i x m => ∃ j : Nat, i = (j : Int) ∧ 1 ≤ j ∧ (j ≤ n ∨ j = 1) ∧ m = n + 1 - j ∧ x = h ∧ ∀ k, 1 ≤ k → k < j → P.now.u k = true, ⟨_, 1, rfl, Nat.le_refl _, .inr rfl, rfl, rfl, fun k h1 h2 => by omega⟩, ?_⟩
  rintro i x m ⟨j, rfl, hj1, hj2, rfl, rfl, hall⟩
  refine pages_spec E ⟨_, rfl, split_dec (fun g => ?_) fun g => ?_⟩
  · have g : j < n := by have : (j : Int) < (n : Int) := g; omega
    obtain ⟨S0, mb, pa, pc, Q, e⟩ := E.ex
    have idx : 0 + 134 + 5 + (j : Int).toNat * 1 = 134 + 5 + j := by rw [Int.toNat_natCast]; omega
    rw [idx]
    refine ⟨by omega, by omega, _, e.blk.cell' _ (pgC_used (by omega)), split_not (fun eu => ?_) fun eu => ⟨n + 1 - (j + 1), by omega, j + 1, by rw [wid (by omega) (by omega)]; omega, by omega, by omega, rfl, rfl, fun k h1 h2 => ?_⟩⟩
    · have B2 := e.blk.put (134 + 5 + j) [.bool true]
      rw [pgC_setU _ _ (by omega)] at B2
      have k2 : Keep (fun c => c = pb ∨ c = mb) x (x.put pb (134 + 5 + j) [.bool true]) := Keep.put _ x _ _ (.inl rfl)
      refine ⟨by omega, by omega, e.blk.store (by rw [pgC_len]; show 134 + 5 + j + 1 ≤ 269; omega), _, by rw [Nat.zero_add]; exact B2.cell' _ pgC_map, by decide, by decide, by decide, by decide, fun k11 hk11 => ?_⟩
      have s11 : Sub (x.put pb (134 + 5 + j) [.bool true]) ((x.put pb (134 + 5 + j) [.bool true]).upd k11 (.cells (repV 1024 [.int .u8 0]).toArray 5 (0, 0))) := Sub.upd hk11 _
      obtain ⟨o, ho, hm⟩ := e.d
      have hmpb : mb ≠ pb := e.d.ne e.blk
      have ho2 : (x.put pb (134 + 5 + j) [.bool true]) mb = some o := by rw [put_ne _ _ _ hmpb]; exact ho
      refine ⟨s11, zeroB 1024, zero_slice (Hp.upd_same _ _ _), s11, mb, o, mapD P.d, rfl, s11 _ _ ho2, hm, fun o' hm' => ?_⟩
      rw [mapD_set] at hm'
      have kp : Keep (fun c => c = pb ∨ c = mb) x (((x.put pb (134 + 5 + j) [.bool true]).upd k11 (.cells (repV 1024 [.int .u8 0]).toArray 5 (0, 0))).upd mb o') := (k2.trans (s11.keep _)).trans (Keep.upd o' (.inl (.inr rfl)))
      obtain ⟨e', st⟩ := e.put (now' := { P.now with u := upU P.now.u j true }) (d' := dset P.d j (zeroB 1024)) kp (by
        have := B2.sub s11
        unfold Blk at this ⊢
        rw [Hp.upd_ne _ _ (Ne.symm hmpb)]; exact this) ⟨o', Hp.upd_same _ _ _, hm'⟩
      exact hG j hj1 g eu hall _ ⟨⟨S0, mb, pa, pc, Q, e'⟩, E.ok.put (E.ok.now.use g) (E.ok.d.set g (zeroB_size _)), E.up⟩ st
    · by_cases ek : k = j
      · rw [ek]; exact eu
      · exact hall k h1 (by omega)
  · have g : ¬ j < n := by have : ¬ (j : Int) < (n : Int) := g; omega
    exact hF fun k h1 h2 => hall k h1 (by omega)
theorem contains_spec {a : Option Addr} {r : Nat → Nat} (hr : SliceAt h a 4 (rootV r)) (v : Nat) (hK : ∀ b : Bool, (b = true → ∃ k, k < 4 ∧ r k = v) → (b = false → ∀ k, k < 4 → r k ≠ v) → K (.bool b) h) :
    CallsH Try.prog slices_Contains_int_int_.id #[.slice a 4 4, .int .i64 (v : Nat)] h K := by
  apply slices_Contains_int_int_.calls
  unfold slices_Contains_int_int_.W
  apply slices_Index_int_int_.calls
  unfold slices_Index_int_int_.W
  refine ⟨fun i x m => ∃ j : Nat, i = (j : Int) ∧ j ≤ 4 ∧ m = 4 - j ∧ x = h ∧ ∀ k, k < j → r k ≠ v, ⟨_, 0, rfl, by decide, rfl, rfl, fun k hk => absurd hk (Nat.not_lt_zero _)⟩, ?_⟩
  rintro i x m ⟨j, rfl, hj, rfl, rfl, hall⟩
  refine split_dec (fun g => ?_) fun g => ?_
  · have g : j < 4 := by have : (j : Int) < 4 := g; omega
    obtain ⟨b, o, ea, w, hw, hc⟩ := hr.cell (i := j) g
    rw [rootV_get g] at hw
    cases hw
    refine ⟨by omega, by show (j : Int) < 4; omega, b, o, ea, _, by rw [Int.toNat_natCast, Nat.mul_one]; exact hc, split_eq (fun e => ?_) fun e => ⟨4 - (j + 1), by omega, j + 1, by rw [wid (by omega) (by omega)]; omega, by omega, rfl, rfl, fun k hk => ?_⟩⟩
    · refine ⟨_, rfl, ?_⟩
      rw [hb_eq, decide_eq_true (by omega)]
      exact hK true (fun _ => ⟨j, g, by omega⟩) fun h => by cases h
    · by_cases ek : k = j
      · rw [ek]; omega
      · exact hall k (by omega)
  · have : j = 4 := by
      have : ¬ (j : Int) < 4 := g
      omega
    subst this
    refine ⟨_, rfl, ?_⟩
    rw [hb_eq, decide_eq_false (by decide)]
    exact hK false (fun h => by cases h) fun _ => hall
theorem give_spec (E : PgAt h pb jb db S n D P) (i : Int) (hF : P.why n i ≠ 0 → K (.int .i64 (P.why n i)) h) (hR : ∀ k : Nat, i = (k : Int) → P.why n i = 0 → (∃ t, t < 4 ∧ P.now.r t = k) → K (.int .i64 8) h)
    (hG : ∀ k : Nat, i = (k : Int) → P.why n i = 0 → (∀ t, t < 4 → P.now.r t ≠ k) → ∀ h', PgAt h' pb jb db S n D (P.give k) → Step S h S h' → K (.int .i64 0) h') :
    CallsH Try.prog pager_Pager_Give.id #[.pointer (some ⟨pb, 0, none⟩), .int .i64 i] h K := by
  have hn := E.n2
  apply pager_Pager_Give.calls
  unfold pager_Pager_Give.W
  refine puse_spec E i ⟨_, rfl, split_ne (fun e => hF e) fun e0 => ?_⟩
  have e0 : P.why n i = 0 := e0
  obtain ⟨j, rfl, h1, h2, h3⟩ := why_ok e0
  obtain ⟨S0, mb, pa, pc, Q, e⟩ := E.ex
  refine ⟨pb, 135, rfl, ?_⟩
  have hr : SliceAt h (some ⟨pb, 135, none⟩) 4 (rootV P.now.r) := ⟨rootV_len _, .inr ⟨pb, 135, rfl, e.blk.cellsAt fun t ht => by
    rw [rootV_len] at ht
    rw [show 135 + t = 134 + 1 + t by omega, pgC_root ht, rootV_get ht]⟩⟩
  refine contains_spec (a := some ⟨pb, 135, none⟩) hr j fun b ht hf => ⟨b, rfl, split_cond (fun eb => hR j rfl e0 (ht eb)) fun eb => ?_⟩
  have idx : 0 + 134 + 5 + (j : Int).toNat * 1 = 134 + 5 + j := by rw [Int.toNat_natCast]; omega
  rw [idx]
  have B2 := e.blk.put (134 + 5 + j) [.bool false]
  rw [pgC_setU _ _ (by omega)] at B2
  obtain ⟨o, ho, hm⟩ := e.d
  have hmpb : mb ≠ pb := e.d.ne e.blk
  have ho2 : (h.put pb (134 + 5 + j) [.bool false]) mb = some o := by rw [put_ne _ _ _ hmpb]; exact ho
  refine ⟨by omega, by omega, e.blk.store (by rw [pgC_len]; show 134 + 5 + j + 1 ≤ 269; omega), _, by rw [Nat.zero_add]; exact B2.cell' _ pgC_map, mb, o, mapD P.d, rfl, ho2, hm, fun o' hm' => ?_⟩
  rw [mapD_del] at hm'
  have kp : Keep (fun c => c = pb ∨ c = mb) h ((h.put pb (134 + 5 + j) [.bool false]).upd mb o') := (Keep.put _ h _ _ (.inl rfl)).trans (Keep.upd o' (.inl (.inr rfl)))
  obtain ⟨e', st⟩ := e.put (now' := { P.now with u := upU P.now.u j false }) (d' := ddel P.d j) kp (by
    unfold Blk at B2 ⊢
    rw [Hp.upd_ne _ _ (Ne.symm hmpb)]; exact B2) ⟨o', Hp.upd_same _ _ _, hm'⟩
  exact hG j rfl e0 (hf eb) _ ⟨⟨S0, mb, pa, pc, Q, e'⟩, E.ok.put (E.ok.now.free h1 (hf eb)) (E.ok.d.del j), E.up⟩ st
end Go.Proofs.Ytagglohkipioiaa
