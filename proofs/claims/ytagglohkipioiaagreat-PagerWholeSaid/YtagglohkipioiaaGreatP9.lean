/- Pages are allocated and given back. Conditions: the pager stands as it is named. A new pager; what all of one is; the chapter's example. Conditions: 2 to 10 pages. Texts that are all the same. Condition: the byte is one. -/
import Derived.Test.YtagglohkipioiaaGreatP8
namespace Go.Proofs.YtagglohkipioiaaGreat
open Go.Gx
set_option maxRecDepth 100000
set_option linter.unusedVariables false

variable {h : Hp} {pb jb db n : Nat} {S : Nat → Prop} {D : Dk} {P : Pg} {K : Value → Hp → Prop}
theorem PgEx.put {S0 : Nat → Prop} {mb : Nat} {pa : Option Addr} {pc : Nat} {Q : List Pt} (E : PgEx h pb jb db S S0 n D P mb pa pc Q) {h' : Hp} {now' : Hd} {d' : List Ch} (kp : Keep (fun c => c = pb ∨ c = mb) h h')
    (B : Blk h' pb 87 (pgC jb P.good now' mb pa Q.length pc)) (Dm : DAt h' mb d') : PgEx h' pb jb db S S0 n D { P with now := now', d := d' } mb pa pc Q ∧ Step S h S h' := by
  refine ⟨⟨B, E.j.out kp ?_, Dm, E.own.keep kp ?_, fun q hq => (E.ds q hq).keep kp ?_, E.pts, E.n1, E.n2, E.n3, E.n4, E.n5, E.s⟩, kp.mono ?_, fun c hc => .inl hc⟩
  · rintro c hc (rfl | rfl)
    · exact E.n1 hc
    · exact E.n2 hc
  · rintro c hc (rfl | rfl)
    · exact (E.n4 c hc).2 rfl
    · exact E.d.ne_own E.own hc rfl
  · rintro (e | e)
    · exact (E.ds q hq).ne E.blk e
    · have := E.n5
      rw [List.nodup_cons] at this
      exact this.1 (e ▸ List.mem_map.2 ⟨q, hq, rfl⟩)
  · rintro c (rfl | rfl)
    · exact (E.s _).2 (.inl rfl)
    · exact (E.s _).2 (.inr (.inl rfl))
def Pg.alloc (P : Pg) (i : Nat) : Pg := { P with now := { P.now with u := upU P.now.u i true }, d := dset P.d i (zeroB 1024) }
def Pg.give (P : Pg) (i : Nat) : Pg := { P with now := { P.now with u := upU P.now.u i false }, d := ddel P.d i }
theorem upU_same (u : Nat → Bool) (i : Nat) (v : Bool) : upU u i v i = v := if_pos rfl
theorem upU_ne (u : Nat → Bool) {i j : Nat} (v : Bool) (h : j ≠ i) : upU u i v j = u j := if_neg h
theorem HdOk.use {n : Nat} {H : Hd} (O : HdOk n H) {i : Nat} (hi : i < n) : HdOk n { H with u := upU H.u i true } := by
  refine ⟨fun j hj hu => ?_, fun k hk => ⟨(O.roots k hk).1, fun h0 => ?_⟩, ?_, O.ser⟩
  · by_cases e : j = i
    · omega
    · have hu : upU H.u i true j = true := hu
      rw [upU_ne _ _ e] at hu; exact O.below j hj hu
  · show upU H.u i true (H.r k) = true
    by_cases e : H.r k = i
    · rw [e, upU_same]
    · rw [upU_ne _ _ e]; exact (O.roots k hk).2 h0
  · show upU H.u i true 0 = true
    by_cases e : 0 = i
    · rw [← e, upU_same]
    · rw [upU_ne _ _ e]; exact O.zero
theorem HdOk.free {n : Nat} {H : Hd} (O : HdOk n H) {i : Nat} (hi : 1 ≤ i) (hr : ∀ k, k < 4 → H.r k ≠ i) : HdOk n { H with u := upU H.u i false } := by
  refine ⟨fun j hj hu => ?_, fun k hk => ⟨(O.roots k hk).1, fun h0 => ?_⟩, ?_, O.ser⟩
  · have hu : upU H.u i false j = true := hu
    by_cases e : j = i
    · rw [e, upU_same] at hu; cases hu
    · rw [upU_ne _ _ e] at hu; exact O.below j hj hu
  · show upU H.u i false (H.r k) = true
    rw [upU_ne _ _ (hr k hk)]; exact (O.roots k hk).2 h0
  · show upU H.u i false 0 = true
    rw [upU_ne _ _ (by omega)]; exact O.zero
theorem POk.put {P : Pg} (O : POk n P) {now' : Hd} {d' : List Ch} (h1 : HdOk n now') (h2 : DOk n d') : POk n { P with now := now', d := d' } := ⟨O.good, h1, h2, O.pts, O.few⟩
theorem alloc_spec (E : PgAt h pb jb db S n D P) (hF : (∀ j, 1 ≤ j → j < n → P.now.u j = true) → K (.tuple #[.int .i64 0, .int .i64 5]) h)
    (hG : ∀ i, 1 ≤ i → i < n → P.now.u i = false → (∀ j, 1 ≤ j → j < i → P.now.u j = true) → ∀ h', PgAt h' pb jb db S n D (P.alloc i) → Step S h S h' → K (.tuple #[.int .i64 (i : Nat), .int .i64 0]) h') :
    CallsH Tryz.prog pager_Pager_Alloc.id #[.pointer (some ⟨pb, 0, none⟩)] h K := by
  have hn := E.n2
  apply pager_Pager_Alloc.calls
  unfold pager_Pager_Alloc.W
  refine ⟨fun i x m => ∃ j : Nat, i = (j : Int) ∧ 1 ≤ j ∧ (j ≤ n ∨ j = 1) ∧ m = n + 1 - j ∧ x = h ∧ ∀ k, 1 ≤ k → k < j → P.now.u k = true, ⟨_, 1, rfl, Nat.le_refl _, .inr rfl, rfl, rfl, fun k h1 h2 => by omega⟩, ?_⟩
  rintro i x m ⟨j, rfl, hj1, hj2, rfl, rfl, hall⟩
  refine pages_spec E ⟨_, rfl, split_dec (fun g => ?_) fun g => ?_⟩
  · have g : j < n := by have : (j : Int) < (n : Int) := g; omega
    obtain ⟨S0, mb, pa, pc, Q, e⟩ := E.ex
    have idx : 0 + 134 + 5 + (j : Int).toNat * 1 = 134 + 5 + j := by rw [Int.toNat_natCast]; omega
    rw [idx]
    refine ⟨by omega, by omega, _, e.blk.cell' _ (pgC_used (by omega)), split_not (fun eu => ?_) fun eu => ⟨n + 1 - (j + 1), by omega, j + 1, by rw [wid (by omega) (by omega)]; omega, by omega, by omega, rfl, rfl, fun k h1 h2 => ?_⟩⟩
    · have B2 := e.blk.put (134 + 5 + j) [.bool true]
      rw [pgC_setU _ _ (by omega)] at B2
      have k2 : Keep (fun c => c = pb ∨ c = mb) x (x.put pb (134 + 5 + j) [.bool true]) := Keep.put _ x _ _ (.inl rfl)
      refine ⟨by omega, by omega, e.blk.store (by rw [pgC_len]; show 134 + 5 + j + 1 ≤ 269; omega), _, by rw [Nat.zero_add]; exact B2.cell' _ pgC_map, by decide, by decide, by decide, by decide, fun k11 hk11 => ?_⟩
      have s11 : Sub (x.put pb (134 + 5 + j) [.bool true]) ((x.put pb (134 + 5 + j) [.bool true]).upd k11 (.cells (repV 1024 [.int .u8 0]).toArray 5 (0, 0))) := Sub.upd hk11 _
      obtain ⟨o, ho, hm⟩ := e.d
      have hmpb : mb ≠ pb := e.d.ne e.blk
      have ho2 : (x.put pb (134 + 5 + j) [.bool true]) mb = some o := by rw [put_ne _ _ _ hmpb]; exact ho
      refine ⟨s11, zeroB 1024, zero_slice (Hp.upd_same _ _ _), s11, mb, o, mapD P.d, rfl, s11 _ _ ho2, hm, fun o' hm' => ?_⟩
      rw [mapD_set] at hm'
      have kp : Keep (fun c => c = pb ∨ c = mb) x (((x.put pb (134 + 5 + j) [.bool true]).upd k11 (.cells (repV 1024 [.int .u8 0]).toArray 5 (0, 0))).upd mb o') := (k2.trans (s11.keep _)).trans (Keep.upd o' (.inl (.inr rfl)))
      obtain ⟨e', st⟩ := e.put (now' := { P.now with u := upU P.now.u j true }) (d' := dset P.d j (zeroB 1024)) kp (by
        have := B2.sub s11
        unfold Blk at this ⊢
        rw [Hp.upd_ne _ _ (Ne.symm hmpb)]; exact this) ⟨o', Hp.upd_same _ _ _, hm'⟩
      exact hG j hj1 g eu hall _ ⟨⟨S0, mb, pa, pc, Q, e'⟩, E.ok.put (E.ok.now.use g) (E.ok.d.set hj1 g (zeroB_size _)), E.up⟩ st
    · by_cases ek : k = j
      · rw [ek]; exact eu
      · exact hall k h1 (by omega)
  · have g : ¬ j < n := by have : ¬ (j : Int) < (n : Int) := g; omega
    exact hF fun k h1 h2 => hall k h1 (by omega)
theorem contains_spec {a : Option Addr} {r : Nat → Nat} (hr : SliceAt h a 4 (rootV r)) (v : Nat) (hK : ∀ b : Bool, (b = true → ∃ k, k < 4 ∧ r k = v) → (b = false → ∀ k, k < 4 → r k ≠ v) → K (.bool b) h) :
    CallsH Tryz.prog slices_Contains_int_int_.id #[.slice a 4 4, .int .i64 (v : Nat)] h K := by
  apply slices_Contains_int_int_.calls
  unfold slices_Contains_int_int_.W
  apply slices_Index_int_int_.calls
  unfold slices_Index_int_int_.W
  refine ⟨fun i x m => ∃ j : Nat, i = (j : Int) ∧ j ≤ 4 ∧ m = 4 - j ∧ x = h ∧ ∀ k, k < j → r k ≠ v, ⟨_, 0, rfl, by decide, rfl, rfl, fun k hk => absurd hk (Nat.not_lt_zero _)⟩, ?_⟩
  rintro i x m ⟨j, rfl, hj, rfl, rfl, hall⟩
  refine split_dec (fun g => ?_) fun g => ?_
  · have g : j < 4 := by have : (j : Int) < 4 := g; omega
    obtain ⟨b, o, ea, w, hw, hc⟩ := hr.cell (i := j) g
    rw [rootV_get g] at hw
    cases hw
    refine ⟨by omega, by show (j : Int) < 4; omega, b, o, ea, _, by rw [Int.toNat_natCast, Nat.mul_one]; exact hc, split_eq (fun e => ?_) fun e => ⟨4 - (j + 1), by omega, j + 1, by rw [wid (by omega) (by omega)]; omega, by omega, rfl, rfl, fun k hk => ?_⟩⟩
    · refine ⟨_, rfl, ?_⟩
      rw [hb_eq, decide_eq_true (by omega)]
      exact hK true (fun _ => ⟨j, g, by omega⟩) fun h => by cases h
    · by_cases ek : k = j
      · rw [ek]; omega
      · exact hall k (by omega)
  · have : j = 4 := by
      have : ¬ (j : Int) < 4 := g
      omega
    subst this
    refine ⟨_, rfl, ?_⟩
    rw [hb_eq, decide_eq_false (by decide)]
    exact hK false (fun h => by cases h) fun _ => hall
theorem give_spec (E : PgAt h pb jb db S n D P) (i : Int) (hF : P.why n i ≠ 0 → K (.int .i64 (P.why n i)) h) (hR : ∀ k : Nat, i = (k : Int) → P.why n i = 0 → (∃ t, t < 4 ∧ P.now.r t = k) → K (.int .i64 8) h)
    (hG : ∀ k : Nat, i = (k : Int) → P.why n i = 0 → (∀ t, t < 4 → P.now.r t ≠ k) → ∀ h', PgAt h' pb jb db S n D (P.give k) → Step S h S h' → K (.int .i64 0) h') :
    CallsH Tryz.prog pager_Pager_Give.id #[.pointer (some ⟨pb, 0, none⟩), .int .i64 i] h K := by
  have hn := E.n2
  apply pager_Pager_Give.calls
  unfold pager_Pager_Give.W
  refine puse_spec E i ⟨_, rfl, split_ne (fun e => hF e) fun e0 => ?_⟩
  have e0 : P.why n i = 0 := e0
  obtain ⟨j, rfl, h1, h2, h3⟩ := why_ok e0
  obtain ⟨S0, mb, pa, pc, Q, e⟩ := E.ex
  refine ⟨pb, 135, rfl, ?_⟩
  have hr : SliceAt h (some ⟨pb, 135, none⟩) 4 (rootV P.now.r) := ⟨rootV_len _, .inr ⟨pb, 135, rfl, e.blk.cellsAt fun t ht => by
    rw [rootV_len] at ht
    rw [show 135 + t = 134 + 1 + t by omega, pgC_root ht, rootV_get ht]⟩⟩
  refine contains_spec (a := some ⟨pb, 135, none⟩) hr j fun b ht hf => ⟨b, rfl, split_cond (fun eb => hR j rfl e0 (ht eb)) fun eb => ?_⟩
  have idx : 0 + 134 + 5 + (j : Int).toNat * 1 = 134 + 5 + j := by rw [Int.toNat_natCast]; omega
  rw [idx]
  have B2 := e.blk.put (134 + 5 + j) [.bool false]
  rw [pgC_setU _ _ (by omega)] at B2
  obtain ⟨o, ho, hm⟩ := e.d
  have hmpb : mb ≠ pb := e.d.ne e.blk
  have ho2 : (h.put pb (134 + 5 + j) [.bool false]) mb = some o := by rw [put_ne _ _ _ hmpb]; exact ho
  refine ⟨by omega, by omega, e.blk.store (by rw [pgC_len]; show 134 + 5 + j + 1 ≤ 269; omega), _, by rw [Nat.zero_add]; exact B2.cell' _ pgC_map, mb, o, mapD P.d, rfl, ho2, hm, fun o' hm' => ?_⟩
  rw [mapD_del] at hm'
  have kp : Keep (fun c => c = pb ∨ c = mb) h ((h.put pb (134 + 5 + j) [.bool false]).upd mb o') := (Keep.put _ h _ _ (.inl rfl)).trans (Keep.upd o' (.inl (.inr rfl)))
  obtain ⟨e', st⟩ := e.put (now' := { P.now with u := upU P.now.u j false }) (d' := ddel P.d j) kp (by
    unfold Blk at B2 ⊢
    rw [Hp.upd_ne _ _ (Ne.symm hmpb)]; exact B2) ⟨o', Hp.upd_same _ _ _, hm'⟩
  exact hG j rfl e0 (hf eb) _ ⟨⟨S0, mb, pa, pc, Q, e'⟩, E.ok.put (E.ok.now.free h1 (hf eb)) (E.ok.d.del j), E.up⟩ st
end Go.Proofs.YtagglohkipioiaaGreat
namespace Go.Proofs.YtagglohkipioiaaGreat
open Go.Gx
set_option maxRecDepth 100000
set_option linter.unusedVariables false

theorem new_own (m n i : Nat) (h : 1 + 4 * (n + i) + 4 ≤ m) : (Dk.new m).own n i = zeroB 1024 := by
  unfold Dk.own
  rw [page_L rfl]
  unfold pageL secs
  have g : ∀ k, k < 4 → (Dk.new m).l.getD (1 + 4 * (n + i) + k) (bytesL []) = zeroB 256 := fun k hk => getD_of (by
    show (List.replicate m (zeroB 256))[1 + 4 * (n + i) + k]? = _
    rw [List.getElem?_replicate, if_pos (by omega)])
  have g0 := g 0 (by decide)
  rw [Nat.add_zero] at g0
  rw [g0, g 1 (by decide), g 2 (by decide), g 3 (by decide)]
  rfl
theorem new_read (m : Nat) (h : 1 ≤ m) : (Dk.new m).read 0 = zeroB 256 := by
  unfold Dk.read
  exact getD_of (by show (List.replicate m (zeroB 256))[0]? = _; rw [List.getElem?_replicate, if_pos (by omega)])
def newPg : Pg := ⟨zeroHd, zeroHd, [], []⟩
variable {h : Hp} {K : Value → Hp → Prop}
theorem opened_spec (n : Nat) (h1 : 2 ≤ n) (h2 : n ≤ 10) (hK : ∀ h' pb jb db S, Sub h h' → PgAt h' pb jb db S n (Dk.new (8 * n + 1)) newPg → (∀ c, S c → h c = none) → K (.tuple #[.pointer (some ⟨db, 0, none⟩), .pointer (some ⟨jb, 0, none⟩), .pointer (some ⟨pb, 0, none⟩)]) h') :
    CallsH Tryz.prog law14_opened.id #[.int .i64 (n : Nat)] h K := by
  apply law14_opened.calls
  unfold law14_opened.W
  refine split_dec (fun e => by omega) fun _ => split_dec (fun e => by omega) fun _ => ?_
  have e1 : IntKind.i64.wrap (IntKind.i64.wrap (8 * (n : Int)) + 1) = ((8 * n + 1 : Nat) : Int) := by rw [wid (x := 8 * (n : Int)) (by omega) (by omega), wid (by omega) (by omega)]; omega
  rw [e1]
  refine dnew_spec (8 * n + 1) (by omega) (by omega) fun h3 db S3 D3 s3 f3 => ⟨_, _, rfl, ?_⟩
  refine jopen_spec D3 rfl n (by omega) (by omega) (by show _ ≤ (List.replicate _ _).length; rw [List.length_replicate]; exact Nat.le_refl _) (new_read _ (by omega)) fun h4 jb S4 J4 s4 f4 => ⟨_, _, rfl, ?_⟩
  have hz := new_own (8 * n + 1) n 0 (by omega)
  refine popen_spec J4 rfl h1 (fun e => absurd hz e) fun H hH h5 pb S5 n5 st5 E => ⟨_, _, rfl, ?_⟩
  rcases hH with ⟨_, rfl⟩ | ⟨e, _⟩
  · have fr : ∀ c, S5 c → h c = none := fun c hc => by
      rcases st5.2 c hc with h' | h'
      · rcases f4 c h' with h' | h'
        · exact f3 c h'
        · exact s3.none h'
      · exact s3.none (s4.none h')
    refine hK h5 pb jb db S5 ?_ E fr
    exact st5.1.sub (s3.trans s4) fun c hc => by
      rcases f4 c hc with h' | h'
      · exact f3 c h'
      · exact s3.none h'
  · exact absurd hz e
theorem opened_bad (pages : Int) (hp : pages < 2 ∨ pages > 10) (hK : K (.tuple #[.pointer none, .pointer none, .pointer none]) h) : CallsH Tryz.prog law14_opened.id #[.int .i64 pages] h K := by
  apply law14_opened.calls
  unfold law14_opened.W
  exact split_dec (fun _ => hK) fun e => split_dec (fun _ => hK) fun e2 => by omega
theorem why_i {P : Pg} {n i : Nat} (h1 : 1 ≤ i) (h2 : i < n) (hu : P.now.u i = true) : P.why n (i : Nat) = 0 := by
  unfold Pg.why
  rw [if_neg (by omega), Int.toNat_natCast, if_pos hu]
theorem lives_spec (hK : ∀ h', Sub h h' → K (.bool true) h') : CallsH Tryz.prog law14_lives.id #[] h K := by
  apply law14_lives.calls
  unfold law14_lives.W
  refine opened_spec 3 (by decide) (by decide) fun h2 pb jb db S s2 E2 f2 => ⟨_, _, _, rfl, split_cond (fun e => by cases e) fun _ => ?_⟩
  have z : ∀ j, zeroHd.u j = (j == 0) := fun j => rfl
  refine alloc_spec E2 (fun hall => by have := hall 1 (by decide) (by decide); cases this) fun i i1 i2 iu iall h7 E7 st7 => ⟨_, _, rfl, ?_⟩
  have : i = 1 := by
    by_cases e : i = 1
    · exact e
    · have := iall 1 (by decide) (by omega); cases this
  subst this
  refine alloc_spec E7 (fun hall => by have := hall 2 (by decide) (by decide); cases this) fun i i1 i2 iu iall h11 E11 st11 => ⟨_, _, rfl, ?_⟩
  have : i = 2 := by
    by_cases e : i = 1
    · rw [e] at iu; cases iu
    · omega
  subst this
  refine alloc_spec E11 (fun _ => ⟨_, _, rfl, ?_⟩) fun i i1 i2 iu iall h15 E15 st15 => ?_
  rotate_left
  · rcases (by omega : i = 1 ∨ i = 2) with rfl | rfl <;> cases iu
  have w1 : Pg.why ((newPg.alloc 1).alloc 2) 3 1 = 0 := by decide
  refine give_spec E11 1 (fun e => absurd w1 e) (fun k ek _ ⟨t, ht, hr⟩ => ?_) fun k ek _ _ h19 E19 st19 => ⟨_, rfl, ?_⟩
  · have hr : 0 = k := hr
    omega
  have : k = 1 := by omega
  subst this
  refine alloc_spec E19 (fun hall => by have := hall 1 (by decide) (by decide); cases this) fun i i1 i2 iu iall h22 E22 st22 => ⟨_, _, rfl, ?_⟩
  have : i = 1 := by
    by_cases e : i = 1
    · exact e
    · have := iall 1 (by decide) (by omega); cases this
  subst this
  have sub : Sub h h22 := (((st7.trans st11).trans st19).trans st22).1.sub s2 f2
  refine split_eq (fun _ => split_eq (fun _ => split_eq (fun _ => split_eq (fun _ => split_eq (fun _ => ?_) fun e => absurd rfl e) fun e => absurd rfl e) fun e => absurd rfl e) fun e => absurd rfl e) fun e => absurd rfl e
  rw [hb_eq]
  exact hK _ sub
/-! ### all of a pager -/
def Pg.stD (P : Pg) (D : Dk) (n i : Nat) : ByteArray := if P.why n (i : Nat) = 0 then P.page D n i else bytesL []
set_option maxHeartbeats 1000000 in
theorem state_spec {pb jb db n : Nat} {S : Nat → Prop} {D : Dk} {P : Pg} (E : PgAt h pb jb db S n D P)
    (hK : ∀ h' ua uc da dc, Sub h h' → OwnR boolC 1 h' 4 ua uc ((List.range n).map P.now.u) → OwnR strC 1 h' 9 da dc ((List.range n).map (P.stD D n)) → (∀ c, blkOf ua c → h c = none) → (∀ c, blkOf da c → h c = none) →
      K (.agg (stC ua n uc da n dc P.now.r P.now.s).toArray) h') : CallsH Tryz.prog law14_state.id #[.pointer (some ⟨pb, 0, none⟩)] h K := by
  have hn := E.n2
  apply law14_state.calls
  unfold law14_state.W
  refine serial_spec E ⟨_, rfl, fun k4 hk4 => ?_⟩
  have C0 : Blk (h.upd k4 (.cells (stC none 0 0 none 0 0 (fun _ => 0) 0).toArray 36 (0, 0))) k4 36 (stC none 0 0 none 0 0 (fun _ => 0) 0) := Blk.new _ _ _ _
  have C1 := C0.put 0 (stC none 0 0 none 0 0 (fun _ => 0) P.now.s)
  rw [setL_all (by rw [stC_len, stC_len])] at C1
  have new : ∀ {x : Hp} (sx : Sub h x) (o' : Nat) (us : List Value), Sub h (x.put k4 o' us) := fun {x} sx o' us => (Keep.put (fun c => c = k4) x o' us rfl).sub sx fun c e => by rw [e]; exact hk4
  have t1 := new (Sub.upd hk4 (.cells (stC none 0 0 none 0 0 (fun _ => 0) 0).toArray 36 (0, 0))) 0 (stC none 0 0 none 0 0 (fun _ => 0) P.now.s)
  have stp : ∀ {m j : Nat}, j < m → m ≤ 1000 → IntKind.i64.wrap ((j : Int) + 1) = ((j + 1 : Nat) : Int) := fun {m j} _ _ => by rw [wid (by omega) (by omega)]; omega
  refine ⟨C0.store (by decide), fun i x m => ∃ j : Nat, i = (j : Int) ∧ j ≤ 4 ∧ m = 4 - j ∧ Sub h x ∧ Blk x k4 36 (stC none 0 0 none 0 0 (fun k => if k < j then P.now.r k else 0) P.now.s), ⟨_, 0, rfl, by decide, rfl, t1, C1⟩, ?_⟩
  clear C0 C1 t1
  rintro i x m ⟨j, rfl, hj, rfl, sx, B⟩
  refine split_dec (fun g => ?_) fun g => ?_
  · have g : j < 4 := by have : (j : Int) < 4 := g; omega
    have idx : 2 + (j : Int).toNat * 1 = 2 + j := by rw [Int.toNat_natCast]; omega
    refine root_spec (E.sub sx) g ⟨_, rfl, by omega, by omega, ?_⟩
    rw [idx]
    refine ⟨B.store (by rw [stC_len]; omega), 4 - (j + 1), by omega, j + 1, stp g (by decide), by omega, rfl, new sx _ _, ?_⟩
    have := B.put (2 + j) [.int .i64 ((P.now.r j : Nat) : Int)]
    rw [stC_setR _ g] at this
    rw [stC_congr (r' := upR (fun k => if k < j then P.now.r k else 0) j (P.now.r j)) fun k _ => ?_]
    · exact this
    · show (if k < j + 1 then P.now.r k else 0) = if k = j then P.now.r j else if k < j then P.now.r k else 0
      by_cases e : k = j
      · rw [if_pos e, if_pos (by omega), e]
      · rw [if_neg e]
        by_cases e2 : k < j
        · rw [if_pos e2, if_pos (by omega)]
        · rw [if_neg e2, if_neg (by omega)]
  have : j = 4 := by
    have : ¬ (j : Int) < 4 := g
    omega
  subst this
  clear g
  rw [stC_congr (r' := P.now.r) fun k hk => if_pos hk] at B
  refine ⟨fun i x m => ∃ (j : Nat) (ua : Option Addr) (uc : Nat) (da : Option Addr) (dc : Nat), i = (j : Int) ∧ j ≤ n ∧ m = n - j ∧ Sub h x ∧ Blk x k4 36 (stC ua j uc da j dc P.now.r P.now.s) ∧ OwnR boolC 1 x 4 ua uc ((List.range j).map P.now.u) ∧ OwnR strC 1 x 9 da dc ((List.range j).map (P.stD D n)) ∧
    (∀ c, blkOf ua c → c ≠ k4 ∧ h c = none ∧ ¬ blkOf da c) ∧ ∀ c, blkOf da c → c ≠ k4 ∧ h c = none, ⟨_, 0, none, 0, none, 0, rfl, Nat.zero_le _, rfl, sx, B, OwnR.nil _ _, OwnR.nil _ _, (by rintro c ⟨o, s, e⟩; cases e), by rintro c ⟨o, s, e⟩; cases e⟩, ?_⟩
  clear B sx
  rintro i x m ⟨j, ua, uc, da, dc, rfl, hj, rfl, sx, B, O, O2, hua, hda⟩
  refine pages_spec (E.sub sx) ⟨_, rfl, split_dec (fun g => ?_) fun g => ?_⟩
  · have g : j < n := by have : (j : Int) < (n : Int) := g; omega
    have rd : ∀ K' : Value → Hp → Prop, (∀ y e, Sub x y → K' (.tuple #[.string (P.stD D n j), .int .i64 e]) y) → CallsH Tryz.prog pager_Pager_Read.id #[.pointer (some ⟨pb, 0, none⟩), .int .i64 (j : Nat)] x K' := fun K' hK' => by
      unfold Pg.stD at hK'
      by_cases e : P.why n (j : Nat) = 0
      · rw [if_pos e] at hK'
        exact pgread_spec (E.sub sx) e fun y sy => hK' y 0 sy
      · rw [if_neg e] at hK'
        exact pgread_bad (E.sub sx) _ e (hK' x _ (Sub.refl x))
    refine rd _ fun y e sy => ⟨_, _, rfl, ?_⟩
    have By := B.sub sy
    have sxy := sx.trans sy
    refine ⟨_, _, _, By.cell' 0 rfl, used_spec (E.sub sxy) _ ⟨_, rfl, Sub.refl _, fun k32 hk32 => ?_⟩⟩
    have eu : P.used n (j : Nat) = P.now.u j := by
      unfold Pg.used
      rw [decide_eq_true (show (0 : Int) ≤ (j : Nat) by omega), decide_eq_true (show ((j : Nat) : Int) < (n : Nat) by omega), Int.toNat_natCast]; rfl
    rw [eu]
    have s32 : Sub y (y.upd k32 (.cells #[.bool (P.now.u j)] 4 (0, 0))) := Sub.upd hk32 _
    refine ⟨s32, _, (Blk.new y k32 4 (boolC (P.now.u j))).slice rfl, fun a' c' z => OwnR boolC 1 z 4 a' c' ((List.range (j + 1)).map P.now.u) ∧ Keep (blkOf ua) y z ∧ ∀ c, blkOf a' c → blkOf ua c ∨ y c = none, ?_, ?_⟩
    rotate_left
    · refine append_ownR appTBool boolC_len boolC_plain (M := [P.now.u j]) ((O.sub sy).sub s32) (by simp) rfl (rowC_one _).symm (by simp; omega) fun a' c' z o k' nw => ⟨?_, fun c o' hc hn => k' c o' (s32 c o' hc) hn, fun c hc => ?_⟩
      · rw [List.range_succ, List.map_append]; exact o
      · rcases nw c hc with h' | h'
        · exact .inl h'
        · exact .inr (s32.none h')
    rintro a' c' z ⟨o, kz, nz⟩
    have Bz := By.keep kz fun hc => (hua _ hc).1 rfl
    have sz : Sub h z := kz.sub sxy fun c hc => (hua c hc).2.1
    have a'4 : ∀ c, blkOf a' c → c ≠ k4 ∧ h c = none ∧ ¬ blkOf da c := fun c hc => by
      rcases nz c hc with h' | h'
      · exact hua c h'
      · exact ⟨fun e => by rw [e] at h'; exact By.ne h' rfl, sxy.none h', fun hd => Own.in_heap O2 hd (sy.none h')⟩
    have O2z : OwnR strC 1 z 9 da dc ((List.range j).map (P.stD D n)) := (O2.sub sy).keep kz fun c hc hu => (hua c hu).2.2 hc
    have P1 := Bz.put 0 [.slice a' (j + 1) c']
    have kput := Keep.put (fun c => c = k4) z 0 [.slice a' (j + 1) c'] rfl
    refine ⟨Bz.store (by rw [stC_len]; decide), _, _, _, P1.cell' 1 rfl, fun k41 hk41 => ?_⟩
    have oz := o.keep kput fun c hc => (a'4 c hc).1
    have O2p := O2z.keep kput fun c hc => (hda c hc).1
    have sp := new sz 0 [.slice a' (j + 1) c']
    generalize z.put k4 0 [.slice a' (j + 1) c'] = w at P1 hk41 oz O2p sp ⊢
    have s41 : Sub w (w.upd k41 (.cells #[.string (P.stD D n j)] 9 (0, 0))) := Sub.upd hk41 _
    refine ⟨_, (Blk.new w k41 9 (strC (P.stD D n j))).slice rfl, fun a2 c2 v => OwnR strC 1 v 9 a2 c2 ((List.range (j + 1)).map (P.stD D n)) ∧ Keep (blkOf da) w v ∧ ∀ c, blkOf a2 c → blkOf da c ∨ w c = none, ?_, ?_⟩
    rotate_left
    · refine append_ownR appTStr strC_len strC_plain (M := [P.stD D n j]) (O2p.sub s41) (by simp) rfl (rowC_one _).symm (by simp; omega) fun a' c' z o k' nw => ⟨?_, fun c o' hc hn => k' c o' (s41 c o' hc) hn, fun c hc => ?_⟩
      · rw [List.range_succ, List.map_append]; exact o
      · rcases nw c hc with h' | h'
        · exact .inl h'
        · exact .inr (s41.none h')
    rintro a2 c2 v ⟨o2, kv, nv⟩
    have Pv := P1.keep kv fun hc => (hda _ hc).1 rfl
    have sv : Sub h v := kv.sub sp fun c hc => (hda c hc).2
    have a24 : ∀ c, blkOf a2 c → c ≠ k4 ∧ h c = none := fun c hc => by
      rcases nv c hc with h' | h'
      · exact hda c h'
      · exact ⟨fun e => by rw [e] at h'; exact P1.ne h' rfl, sp.none h'⟩
    have ov := oz.keep kv fun c hc hd => (a'4 c hc).2.2 hd
    have kput2 := Keep.put (fun c => c = k4) v 1 [.slice a2 (j + 1) c2] rfl
    have elj : ((List.range j).map (P.stD D n)).length = j := by simp
    refine ⟨Pv.store (by rw [setL_len, stC_len]; decide), n - (j + 1), by omega, j + 1, a', c', a2, c2, stp g (by omega), by omega, rfl, new sv _ _, Pv.put 1 [.slice a2 (j + 1) c2], ov.keep kput2 fun c hc => (a'4 c hc).1, o2.keep kput2 fun c hc => (a24 c hc).1, fun c hc => ⟨(a'4 c hc).1, (a'4 c hc).2.1, fun hd => ?_⟩, a24⟩
    rcases nv c hd with h' | h'
    · exact (a'4 c hc).2.2 h'
    · exact Own.in_heap oz hc h'
  · have : j = n := by
      have : ¬ (j : Int) < (n : Int) := g
      omega
    subst this
    refine ⟨_, _, _, B.cell' 0 rfl, _, _, _, B.cell' 1 rfl, _, B.cell' 2 rfl, _, B.cell' 3 rfl, _, B.cell' 4 rfl, _, B.cell' 5 rfl, _, B.cell' 6 rfl, ?_⟩
    exact hK x ua uc da dc sx O O2 (fun c hc => (hua c hc).2.1) fun c hc => (hda c hc).2
end Go.Proofs.YtagglohkipioiaaGreat
namespace Go.Proofs.YtagglohkipioiaaGreat
open Go.Gx
set_option maxRecDepth 100000
set_option linter.unusedVariables false

/-! ### texts that are all the same -/
def longOf (x : Int) : Nat := if x = 0 then 1024 else if x < 0 ∨ x > 3000 then 1 else x.toNat
theorem longOf_le (x : Int) : longOf x ≤ 3000 := by
  unfold longOf
  split
  · decide
  · split
    · decide
    · omega
def fillB (x f : Int) : ByteArray := ⟨(List.replicate (longOf x) (UInt8.ofNat f.toNat)).toArray⟩
theorem fillB_size (x f : Int) : (fillB x f).size = longOf x := by rw [← size_len]; exact List.length_replicate
theorem fillB_bytes (x f : Int) (h0 : 0 ≤ f) (h1 : f < 256) : bytesV (fillB x f) = List.replicate (longOf x) (.int .u8 f) := by
  unfold bytesV fillB
  show (List.replicate (longOf x) (UInt8.ofNat f.toNat)).map _ = _
  rw [List.map_replicate]
  have : (UInt8.ofNat f.toNat).toNat = f.toNat := by simp; omega
  rw [this, show ((f.toNat : Nat) : Int) = f by omega]
theorem repV_one (n : Nat) (v : Value) : repV n [v] = List.replicate n v := by
  unfold repV
  induction n with
  | zero => rfl
  | succ n ih => rw [List.replicate_succ, List.flatten_cons, List.replicate_succ, ih]; rfl
theorem filled_spec {h : Hp} {K : Value → Hp → Prop} (a b c x f : Int) (h0 : 0 ≤ f) (h1 : f < 256) (hK : ∀ h', Sub h h' → K (.string (fillB x f)) h') : CallsH Tryz.prog law14_filled.id #[.agg #[.int .i64 a, .int .i64 b, .int .i64 c, .int .i64 x, .int .u8 f]] h K := by
  have hle := longOf_le x
  apply law14_filled.calls
  unfold law14_filled.W
  refine ⟨fun i y => y = h ∧ i = (if x = 0 then 1024 else x), ?_, split_eq (fun e => ⟨rfl, by rw [if_pos e]⟩) fun e => ⟨rfl, by rw [if_neg e]⟩⟩
  rintro i y ⟨rfl, rfl⟩
  refine ⟨fun i z => z = y ∧ i = ((longOf x : Nat) : Int), ?_, split_dec (fun e => ⟨rfl, ?_⟩) fun e => split_dec (fun e2 => ⟨rfl, ?_⟩) fun e2 => ⟨rfl, ?_⟩⟩
  rotate_left
  · unfold longOf
    by_cases e0 : x = 0
    · rw [if_pos e0] at e; omega
    · rw [if_neg e0] at e; rw [if_neg e0, if_pos (.inl e)]; rfl
  · unfold longOf
    by_cases e0 : x = 0
    · rw [if_pos e0] at e2; omega
    · rw [if_neg e0] at e2; rw [if_neg e0, if_pos (.inr e2)]; rfl
  · unfold longOf
    by_cases e0 : x = 0
    · rw [if_pos e0, if_pos e0]; rfl
    · rw [if_neg e0] at e e2
      rw [if_neg e0, if_neg e0, if_neg (by omega)]; omega
  rintro i z ⟨rfl, rfl⟩
  have hfb := fillB_bytes x f h0 h1
  have hfs := fillB_size x f
  generalize longOf x = n at hle hfb hfs ⊢
  refine ⟨by omega, by omega, by omega, by omega, fun k7 hk7 => ?_⟩
  rw [Int.toNat_natCast]
  have er := repV_one n (.int .u8 0)
  have B0 : Blk (z.upd k7 (.cells (repV n [.int .u8 0]).toArray 5 (0, 0))) k7 5 (List.replicate n (.int .u8 0)) := by rw [← er]; exact Blk.new _ _ _ _
  have s0 : Sub z (z.upd k7 (.cells (repV n [.int .u8 0]).toArray 5 (0, 0))) := Sub.upd hk7 _
  refine ⟨fun i x m => ∃ j : Nat, i = (j : Int) ∧ j ≤ n ∧ m = n - j ∧ Sub z x ∧ Blk x k7 5 (List.replicate j (.int .u8 f) ++ List.replicate (n - j) (.int .u8 0)), ⟨_, 0, rfl, Nat.zero_le _, rfl, s0, B0⟩, ?_⟩
  rintro i w m ⟨j, rfl, hj, rfl, sw, B⟩
  refine split_dec (fun g => ?_) fun g => ?_
  · have g : j < n := by omega
    have idx : 0 + (j : Int).toNat * 1 = j := by rw [Int.toNat_natCast]; omega
    refine ⟨by omega, by show (j : Int) < (n : Int); omega, k7, 0, rfl, ?_, n - (j + 1), by omega, j + 1, by rw [wid (by omega) (by omega)]; omega, by omega, rfl, (Keep.put (fun c => c = k7) w _ _ rfl).sub sw fun c e => by rw [e]; exact hk7, ?_⟩
    · rw [idx]; exact B.store (by rw [List.length_append, List.length_replicate, List.length_replicate]; omega)
    · rw [idx]
      have := B.put j [.int .u8 f]
      rw [@setL_append (List.replicate j (.int .u8 f)) (List.replicate (n - j) (.int .u8 0)) [.int .u8 f] j List.length_replicate (by rw [List.length_replicate]; show 1 ≤ n - j; omega), List.drop_replicate] at this
      rw [List.replicate_succ', show n - (j + 1) = n - j - [Value.int .u8 f].length from rfl]
      exact this
  · have : j = n := by omega
    subst this
    refine ⟨fillB x f, ?_, hK w sw⟩
    rw [hfb]
    rw [Nat.sub_self, List.replicate_zero, List.append_nil] at B
    exact B.slice List.length_replicate
end Go.Proofs.YtagglohkipioiaaGreat
