/- Pages are allocated and given back; a new disk. Conditions: the pager stands as it is named. A map's copy, and its keys in order, over heaps. Conditions: the map's pages are few. When two heads are one; which pages are others. Conditions: numbers that fit. Free pages, writing, pointing, savepoints, going back, aborting. Conditions: the pager stands as it is named. Which pages a commit would change. Conditions: the pager stands as it is named. A commit of a pager. Conditions: the pager stands as it is named, nothing waits on the disk. What a commit leaves when the power fails amid it, and what is recovered of it. Conditions: nothing waits ahead of it, the mark tells nothing. What the mark tells, and what is recovered behind a failure. Conditions: right changes, one of a page, in the pages' order. A journal is opened behind a failure. Conditions: the power is on, no failure is set, nothing waits. The formulas of functions of the program, as the executor computes them, and that a call does what its formula says. Printed by a tool of ours (wip/tool). The formulas of functions of the program, as the executor computes them, and that a call does what its formula says. Printed by a tool of ours (wip/tool). -/
import Derived.Test.YthbogjbcecmopaaGreatDoorPw03
import Derived.Test.YthbogjbcecmopaaGreatDoorProg
import Derived.KernelRfl
namespace Go.Proofs.YthbogjbcecmopaaGreatDoor
open Go.Gx
set_option maxRecDepth 100000
set_option linter.unusedVariables false

variable {h : Hp} {pb jb db n : Nat} {S : Nat → Prop} {D : Dk} {P : Pg} {K : Value → Hp → Prop}
theorem PgEx.put {S0 : Nat → Prop} {mb : Nat} {pa : Option Addr} {pc : Nat} {Q : List Pt} (E : PgEx h pb jb db S S0 n D P mb pa pc Q) {h' : Hp} {now' : Hd} {d' : List Ch} (kp : Keep (fun c => c = pb ∨ c = mb) h h')
    (B : Blk h' pb 87 (pgC jb P.good now' mb pa Q.length pc)) (Dm : DAt h' mb d') : PgEx h' pb jb db S S0 n D { P with now := now', d := d' } mb pa pc Q ∧ Step S h S h' := by
  refine ⟨⟨B, E.j.out kp ?_, Dm, E.own.keep kp ?_, fun q hq => (E.ds q hq).keep kp ?_, E.pts, E.n1, E.n2, E.n3, E.n4, E.n5, E.s⟩, kp.mono ?_, fun c hc => .inl hc⟩
  · rintro c hc (rfl | rfl)
    · exact E.n1 hc
    · exact E.n2 hc
  · rintro c hc (rfl | rfl)
    · exact (E.n4 c hc).2 rfl
    · exact E.d.ne_own E.own hc rfl
  · rintro (e | e)
    · exact (E.ds q hq).ne E.blk e
    · have := E.n5
      rw [List.nodup_cons] at this
      exact this.1 (e ▸ List.mem_map.2 ⟨q, hq, rfl⟩)
  · rintro c (rfl | rfl)
    · exact (E.s _).2 (.inl rfl)
    · exact (E.s _).2 (.inr (.inl rfl))
def Pg.alloc (P : Pg) (i : Nat) : Pg := { P with now := { P.now with u := upU P.now.u i true }, d := dset P.d i (zeroB 1024) }
def Pg.give (P : Pg) (i : Nat) : Pg := { P with now := { P.now with u := upU P.now.u i false }, d := ddel P.d i }
theorem upU_same (u : Nat → Bool) (i : Nat) (v : Bool) : upU u i v i = v := if_pos rfl
theorem upU_ne (u : Nat → Bool) {i j : Nat} (v : Bool) (h : j ≠ i) : upU u i v j = u j := if_neg h
theorem HdOk.use {n : Nat} {H : Hd} (O : HdOk n H) {i : Nat} (hi : i < n) : HdOk n { H with u := upU H.u i true } := by
  refine ⟨fun j hj hu => ?_, fun k hk => ⟨(O.roots k hk).1, fun h0 => ?_⟩, ?_, O.ser⟩
  · by_cases e : j = i
    · omega
    · have hu : upU H.u i true j = true := hu
      rw [upU_ne _ _ e] at hu; exact O.below j hj hu
  · show upU H.u i true (H.r k) = true
    by_cases e : H.r k = i
    · rw [e, upU_same]
    · rw [upU_ne _ _ e]; exact (O.roots k hk).2 h0
  · show upU H.u i true 0 = true
    by_cases e : 0 = i
    · rw [← e, upU_same]
    · rw [upU_ne _ _ e]; exact O.zero
theorem HdOk.free {n : Nat} {H : Hd} (O : HdOk n H) {i : Nat} (hi : 1 ≤ i) (hr : ∀ k, k < 4 → H.r k ≠ i) : HdOk n { H with u := upU H.u i false } := by
  refine ⟨fun j hj hu => ?_, fun k hk => ⟨(O.roots k hk).1, fun h0 => ?_⟩, ?_, O.ser⟩
  · have hu : upU H.u i false j = true := hu
    by_cases e : j = i
    · rw [e, upU_same] at hu; cases hu
    · rw [upU_ne _ _ e] at hu; exact O.below j hj hu
  · show upU H.u i false (H.r k) = true
    rw [upU_ne _ _ (hr k hk)]; exact (O.roots k hk).2 h0
  · show upU H.u i false 0 = true
    rw [upU_ne _ _ (by omega)]; exact O.zero
theorem POk.put {P : Pg} (O : POk n P) {now' : Hd} {d' : List Ch} (h1 : HdOk n now') (h2 : DOk n d') : POk n { P with now := now', d := d' } := ⟨O.good, h1, h2, O.pts, O.few⟩
theorem alloc_spec (E : PgAt h pb jb db S n D P) (hF : (∀ j, 1 ≤ j → j < n → P.now.u j = true) → K (.tuple #[.int .i64 0, .int .i64 5]) h)
    (hG : ∀ i, 1 ≤ i → i < n → P.now.u i = false → (∀ j, 1 ≤ j → j < i → P.now.u j = true) → ∀ h', PgAt h' pb jb db S n D (P.alloc i) → Step S h S h' → K (.tuple #[.int .i64 (i : Nat), .int .i64 0]) h') :
    CallsH Tryz.prog pager_Pager_Alloc.id #[.pointer (some ⟨pb, 0, none⟩)] h K := by
  have hn := E.n2
  apply pager_Pager_Alloc.calls
  unfold pager_Pager_Alloc.W
  refine ⟨fun i x m => ∃ j : Nat, i = (j : Int) ∧ 1 ≤ j ∧ (j ≤ n ∨ j = 1) ∧ m = n + 1 - j ∧ x = h ∧ ∀ k, 1 ≤ k → k < j → P.now.u k = true, ⟨_, 1, rfl, Nat.le_refl _, .inr rfl, rfl, rfl, fun k h1 h2 => by omega⟩, ?_⟩
  rintro i x m ⟨j, rfl, hj1, hj2, rfl, rfl, hall⟩
  refine pages_spec E ⟨_, rfl, split_dec (fun g => ?_) fun g => ?_⟩
  · have g : j < n := by have : (j : Int) < (n : Int) := g; omega
    obtain ⟨S0, mb, pa, pc, Q, e⟩ := E.ex
    have idx : 0 + 134 + 5 + (j : Int).toNat * 1 = 134 + 5 + j := by rw [Int.toNat_natCast]; omega
    rw [idx]
    refine ⟨by omega, by omega, _, e.blk.cell' _ (pgC_used (by omega)), split_not (fun eu => ?_) fun eu => ⟨n + 1 - (j + 1), by omega, j + 1, by rw [wid (by omega) (by omega)]; omega, by omega, by omega, rfl, rfl, fun k h1 h2 => ?_⟩⟩
    · have B2 := e.blk.put (134 + 5 + j) [.bool true]
      rw [pgC_setU _ _ (by omega)] at B2
      have k2 : Keep (fun c => c = pb ∨ c = mb) x (x.put pb (134 + 5 + j) [.bool true]) := Keep.put _ x _ _ (.inl rfl)
      refine ⟨by omega, by omega, e.blk.store (by rw [pgC_len]; show 134 + 5 + j + 1 ≤ 269; omega), _, by rw [Nat.zero_add]; exact B2.cell' _ pgC_map, by decide, by decide, by decide, by decide, fun k11 hk11 => ?_⟩
      have s11 : Sub (x.put pb (134 + 5 + j) [.bool true]) ((x.put pb (134 + 5 + j) [.bool true]).upd k11 (.cells (repV 1024 [.int .u8 0]).toArray 5 (0, 0))) := Sub.upd hk11 _
      obtain ⟨o, ho, hm⟩ := e.d
      have hmpb : mb ≠ pb := e.d.ne e.blk
      have ho2 : (x.put pb (134 + 5 + j) [.bool true]) mb = some o := by rw [put_ne _ _ _ hmpb]; exact ho
      refine ⟨s11, zeroB 1024, zero_slice (Hp.upd_same _ _ _), s11, mb, o, mapD P.d, rfl, s11 _ _ ho2, hm, fun o' hm' => ?_⟩
      rw [mapD_set] at hm'
      have kp : Keep (fun c => c = pb ∨ c = mb) x (((x.put pb (134 + 5 + j) [.bool true]).upd k11 (.cells (repV 1024 [.int .u8 0]).toArray 5 (0, 0))).upd mb o') := (k2.trans (s11.keep _)).trans (Keep.upd o' (.inl (.inr rfl)))
      obtain ⟨e', st⟩ := e.put (now' := { P.now with u := upU P.now.u j true }) (d' := dset P.d j (zeroB 1024)) kp (by
        have := B2.sub s11
        unfold Blk at this ⊢
        rw [Hp.upd_ne _ _ (Ne.symm hmpb)]; exact this) ⟨o', Hp.upd_same _ _ _, hm'⟩
      exact hG j hj1 g eu hall _ ⟨⟨S0, mb, pa, pc, Q, e'⟩, E.ok.put (E.ok.now.use g) (E.ok.d.set hj1 g (zeroB_size _)), E.up⟩ st
    · by_cases ek : k = j
      · rw [ek]; exact eu
      · exact hall k h1 (by omega)
  · have g : ¬ j < n := by have : ¬ (j : Int) < (n : Int) := g; omega
    exact hF fun k h1 h2 => hall k h1 (by omega)
theorem contains_spec {a : Option Addr} {r : Nat → Nat} (hr : SliceAt h a 4 (rootV r)) (v : Nat) (hK : ∀ b : Bool, (b = true → ∃ k, k < 4 ∧ r k = v) → (b = false → ∀ k, k < 4 → r k ≠ v) → K (.bool b) h) :
    CallsH Tryz.prog slices_Contains_int_int_.id #[.slice a 4 4, .int .i64 (v : Nat)] h K := by
  apply slices_Contains_int_int_.calls
  unfold slices_Contains_int_int_.W
  apply slices_Index_int_int_.calls
  unfold slices_Index_int_int_.W
  refine ⟨fun i x m => ∃ j : Nat, i = (j : Int) ∧ j ≤ 4 ∧ m = 4 - j ∧ x = h ∧ ∀ k, k < j → r k ≠ v, ⟨_, 0, rfl, by decide, rfl, rfl, fun k hk => absurd hk (Nat.not_lt_zero _)⟩, ?_⟩
  rintro i x m ⟨j, rfl, hj, rfl, rfl, hall⟩
  refine split_dec (fun g => ?_) fun g => ?_
  · have g : j < 4 := by have : (j : Int) < 4 := g; omega
    obtain ⟨b, o, ea, w, hw, hc⟩ := hr.cell (i := j) g
    rw [rootV_get g] at hw
    cases hw
    refine ⟨by omega, by show (j : Int) < 4; omega, b, o, ea, _, by rw [Int.toNat_natCast, Nat.mul_one]; exact hc, split_eq (fun e => ?_) fun e => ⟨4 - (j + 1), by omega, j + 1, by rw [wid (by omega) (by omega)]; omega, by omega, rfl, rfl, fun k hk => ?_⟩⟩
    · refine ⟨_, rfl, ?_⟩
      rw [hb_eq, decide_eq_true (by omega)]
      exact hK true (fun _ => ⟨j, g, by omega⟩) fun h => by cases h
    · by_cases ek : k = j
      · rw [ek]; omega
      · exact hall k (by omega)
  · have : j = 4 := by
      have : ¬ (j : Int) < 4 := g
      omega
    subst this
    refine ⟨_, rfl, ?_⟩
    rw [hb_eq, decide_eq_false (by decide)]
    exact hK false (fun h => by cases h) fun _ => hall
theorem give_spec (E : PgAt h pb jb db S n D P) (i : Int) (hF : P.why n i ≠ 0 → K (.int .i64 (P.why n i)) h) (hR : ∀ k : Nat, i = (k : Int) → P.why n i = 0 → (∃ t, t < 4 ∧ P.now.r t = k) → K (.int .i64 8) h)
    (hG : ∀ k : Nat, i = (k : Int) → P.why n i = 0 → (∀ t, t < 4 → P.now.r t ≠ k) → ∀ h', PgAt h' pb jb db S n D (P.give k) → Step S h S h' → K (.int .i64 0) h') :
    CallsH Tryz.prog pager_Pager_Give.id #[.pointer (some ⟨pb, 0, none⟩), .int .i64 i] h K := by
  have hn := E.n2
  apply pager_Pager_Give.calls
  unfold pager_Pager_Give.W
  refine puse_spec E i ⟨_, rfl, split_ne (fun e => hF e) fun e0 => ?_⟩
  have e0 : P.why n i = 0 := e0
  obtain ⟨j, rfl, h1, h2, h3⟩ := why_ok e0
  obtain ⟨S0, mb, pa, pc, Q, e⟩ := E.ex
  refine ⟨pb, 135, rfl, ?_⟩
  have hr : SliceAt h (some ⟨pb, 135, none⟩) 4 (rootV P.now.r) := ⟨rootV_len _, .inr ⟨pb, 135, rfl, e.blk.cellsAt fun t ht => by
    rw [rootV_len] at ht
    rw [show 135 + t = 134 + 1 + t by omega, pgC_root ht, rootV_get ht]⟩⟩
  refine contains_spec (a := some ⟨pb, 135, none⟩) hr j fun b ht hf => ⟨b, rfl, split_cond (fun eb => hR j rfl e0 (ht eb)) fun eb => ?_⟩
  have idx : 0 + 134 + 5 + (j : Int).toNat * 1 = 134 + 5 + j := by rw [Int.toNat_natCast]; omega
  rw [idx]
  have B2 := e.blk.put (134 + 5 + j) [.bool false]
  rw [pgC_setU _ _ (by omega)] at B2
  obtain ⟨o, ho, hm⟩ := e.d
  have hmpb : mb ≠ pb := e.d.ne e.blk
  have ho2 : (h.put pb (134 + 5 + j) [.bool false]) mb = some o := by rw [put_ne _ _ _ hmpb]; exact ho
  refine ⟨by omega, by omega, e.blk.store (by rw [pgC_len]; show 134 + 5 + j + 1 ≤ 269; omega), _, by rw [Nat.zero_add]; exact B2.cell' _ pgC_map, mb, o, mapD P.d, rfl, ho2, hm, fun o' hm' => ?_⟩
  rw [mapD_del] at hm'
  have kp : Keep (fun c => c = pb ∨ c = mb) h ((h.put pb (134 + 5 + j) [.bool false]).upd mb o') := (Keep.put _ h _ _ (.inl rfl)).trans (Keep.upd o' (.inl (.inr rfl)))
  obtain ⟨e', st⟩ := e.put (now' := { P.now with u := upU P.now.u j false }) (d' := ddel P.d j) kp (by
    unfold Blk at B2 ⊢
    rw [Hp.upd_ne _ _ (Ne.symm hmpb)]; exact B2) ⟨o', Hp.upd_same _ _ _, hm'⟩
  exact hG j rfl e0 (hf eb) _ ⟨⟨S0, mb, pa, pc, Q, e'⟩, E.ok.put (E.ok.now.free h1 (hf eb)) (E.ok.d.del j), E.up⟩ st
theorem new_own (m n i : Nat) (h : 1 + 4 * (n + i) + 4 ≤ m) : (Dk.new m).own n i = zeroB 1024 := by
  unfold Dk.own
  rw [page_L rfl]
  unfold pageL secs
  have g : ∀ k, k < 4 → (Dk.new m).l.getD (1 + 4 * (n + i) + k) (bytesL []) = zeroB 256 := fun k hk => getD_of (by
    show (List.replicate m (zeroB 256))[1 + 4 * (n + i) + k]? = _
    rw [List.getElem?_replicate, if_pos (by omega)])
  have g0 := g 0 (by decide)
  rw [Nat.add_zero] at g0
  rw [g0, g 1 (by decide), g 2 (by decide), g 3 (by decide)]
  rfl
theorem new_read (m : Nat) (h : 1 ≤ m) : (Dk.new m).read 0 = zeroB 256 := by
  unfold Dk.read
  exact getD_of (by show (List.replicate m (zeroB 256))[0]? = _; rw [List.getElem?_replicate, if_pos (by omega)])
def newPg : Pg := ⟨zeroHd, zeroHd, [], []⟩
theorem why_i {P : Pg} {n i : Nat} (h1 : 1 ≤ i) (h2 : i < n) (hu : P.now.u i = true) : P.why n (i : Nat) = 0 := by
  unfold Pg.why
  rw [if_neg (by omega), Int.toNat_natCast, if_pos hu]
end Go.Proofs.YthbogjbcecmopaaGreatDoor
namespace Go.Proofs.YthbogjbcecmopaaGreatDoor
open Go.Gx Go.Proofs Go.RowKit Go.Maps Go.Sort Go.Shelf
set_option maxRecDepth 100000
set_option linter.unusedVariables false

theorem holds_alloc {h : Hp} {W : World} (hW : Holds h W) : h W.heap.size = none := by
  cases hh : h W.heap.size with
  | none => rfl
  | some o => have := (Array.getElem?_eq_some_iff.1 (hW _ o hh)).1; omega
theorem clone_spec {h : Hp} {K : Value → Hp → Prop} {b : Nat} {L : List Ch} (H : DAt h b L) (hK : ∀ k o, h k = none → DAt (h.upd k o) k L → K (.map (some k)) (h.upd k o)) :
    CallsH Tryz.prog 86 #[.map (some b)] h K := by
  obtain ⟨o, hb, M⟩ := H
  intro W hW
  have hn := holds_alloc hW
  have M' := M
  obtain ⟨es, clock, rfl, hm2, hst, hok⟩ := M
  refine (AnyW.maps_Clone Tryz.clone67 b es clock W (hW b _ hb)).mono fun e w' ⟨he, hw⟩ => ?_
  subst hw
  refine ⟨_, h.upd W.heap.size (.map es clock), he, hK _ _ hn ⟨_, Hp.upd_same _ _ _, M'⟩, fun c o hc => ?_, ?_⟩
  · by_cases e : c = W.heap.size
    · rw [e, Hp.upd_same] at hc; cases hc; rw [e]; exact (MapKept.heap_alloc W _).1
    · rw [Hp.upd_ne _ _ e] at hc
      have := hW c o hc
      have hlt := (Array.getElem?_eq_some_iff.1 this).1
      exact (Go.RowKit.Below.heap_alloc _ _ c hlt).trans this
  · refine ⟨rfl, rfl, rfl, by show W.heap.size ≤ (W.heap.push _).size; rw [Array.size_push]; omega, fun c o hc hc2 => ?_⟩
    have hlt := (Array.getElem?_eq_some_iff.1 hc).1
    exact ⟨(Go.RowKit.Below.heap_alloc _ _ c hlt).trans hc, by rw [Hp.upd_ne _ _ (by omega)]; exact hc2⟩
theorem mkeys_spec {h : Hp} {K : Value → Hp → Prop} {b : Nat} (hK : ∀ k, h k = none → K (.func (.func 127) #[] #[.pointer (some ⟨k, 0, none⟩)]) (h.upd k (.cells #[.map (some b)] 84 (0, 0)))) : CallsH Tryz.prog 106 #[.map (some b)] h K := by
  intro W hW
  have hn := holds_alloc hW
  refine (callsIn_wide.1 (AnyZI.keys_in Tryz.keys69 Fence.wide 5 trivial rfl (some b) W)).mono fun e w' ⟨he, hw⟩ => ?_
  subst hw
  refine ⟨_, h.upd W.heap.size (.cells #[.map (some b)] 84 (0, 0)), he, hK _ hn, fun c o hc => ?_, rfl, rfl, rfl, by show W.heap.size ≤ (W.heap.push _).size; rw [Array.size_push]; omega, fun c o hc hc2 => ?_⟩
  · by_cases e : c = W.heap.size
    · rw [e, Hp.upd_same] at hc; cases hc; rw [e]; exact (MapKept.heap_alloc W _).1
    · rw [Hp.upd_ne _ _ e] at hc
      have := hW c o hc
      have hlt := (Array.getElem?_eq_some_iff.1 this).1
      exact (Go.RowKit.Below.heap_alloc _ _ c hlt).trans this
  · have hlt := (Array.getElem?_eq_some_iff.1 hc).1
    exact ⟨(Go.RowKit.Below.heap_alloc _ _ c hlt).trans hc, by rw [Hp.upd_ne _ _ (by omega)]; exact hc2⟩
def keyC (i : Nat) : List Value := [.int .i64 (i : Nat)]
theorem keyC_len (i : Nat) : (keyC i).length = 1 := rfl
theorem keyC_plain (i : Nat) : plainP (keyC i) := plainP_of rfl
theorem sorts68 (m : Nat) : AnyZI.SortsIn Tryz.prog Tryz.sorted68_ren Fence.wide m :=
  ⟨fun blk off cap ss W hH hblk hsz => callsIn_wide.2 (AnyM.slices_Sort_int Tryz.sort94 blk off cap ss W hH hblk hsz),
   fun p cap W => callsIn_wide.2 (AnyM.slices_Sort_int_none Tryz.sort94 p cap W)⟩
theorem sortedAt {H : Type} {R : Value → Option (DataW H × List MemPlace)} (k b nn : Nat) (D0 : DataW H) (W : World) (hlt : k < W.heap.size) (hk : W.cell? ⟨k, 0, none⟩ = some (.map (some b))) (hown : W.ownsMap Tryz.prog 3 R b nn D0) (hmax : Maps.size D0 ≤ maxLen) (hbytes : Maps.size D0 * 8 ≤ 140737488355328) :
    CallsIn Fence.wide 5 Tryz.prog 105 #[.func (.func 127) #[] #[.pointer (some ⟨k, 0, none⟩)]] W fun e w' => ∃ (v : Value) (ss : List Int), e = .returned v ∧ ss.Perm (intKeys D0) ∧
      w'.ownsRow W.heap.size 3 1 v ss.length ((ss.mergeSort (fun x y => decide (x ≤ y))).map encZ) ∧ (v = .slice none 0 0 ↔ ss = []) ∧ Go.RowKit.Below W.heap.size W w' := by
  have hseq : SeqGives Fence.wide 2 Tryz.prog 127 #[.pointer (some ⟨k, 0, none⟩)] encZ (fun ss => ss.Perm (intKeys D0)) (Maps.size D0) W :=
    AnyZI.keys_gives (ρ := Tryz.keys69_ren) { Tryz.keys69 with } Fence.wide _ trivial rfl (by omega) k b nn D0 W hlt hk hown
  exact AnyZI.sorted_in Tryz.sorted68 Fence.wide 5 trivial trivial trivial trivial rfl (by omega) (sorts68 _) (enters_of Tryz.func126 (by kernel_rfl) rfl) 127 #[.pointer (some ⟨k, 0, none⟩)] trivial (enters_of Tryz.func127 (by kernel_rfl) rfl) _ _ hmax hbytes _ hseq
theorem sortedk_spec {h : Hp} {K : Value → Hp → Prop} {k b n : Nat} {L : List Ch} (hk : h.cell k 0 = some (.map (some b))) (H : DAt h b L) (ok : DOk n L) (hn : n ≤ 128)
    (hK : ∀ h' a c rs, rs.Perm (L.map (·.1)) → rs.Pairwise (fun x y => x ≤ y) → NewR keyC 1 3 h h' a c rs → K (.slice a rs.length c) h') :
    CallsH Tryz.prog 105 #[.func (.func 127) #[] #[.pointer (some ⟨k, 0, none⟩)]] h K := by
  intro W hW
  obtain ⟨o, hb, M⟩ := H
  obtain ⟨es, clock, rfl, hm2, hst, hok⟩ := M
  have hbW := hW b _ hb
  have hkeys : es.toList.map (·.key) = (L.map (·.1)).map fun i : Nat => Value.int .i64 (i : Nat) := by
    have e1 : es.toList.map (·.key) = (mapD L).map (·.1) := by rw [← hm2, List.map_map]; rfl
    rw [e1]
    unfold mapD
    rw [List.map_map, List.map_map]; rfl
  have hesl : es.size = L.length := by
    have := congrArg List.length hkeys
    simpa using this
  have hlen : L.length ≤ 128 := Nat.le_trans ok.len hn
  have hu : Tryz.prog.underlying 3 = some (.int .i64) := Tryz.underlying3
  have rdk : ∀ x ∈ es.toList, ∃ i : Nat, i < n ∧ x.key = .int .i64 (i : Nat) ∧ WideElems.rd (H := Unit) Tryz.prog 3 (fun _ => some (.nil, [])) x = some (.int .i64 (i : Nat), .nil) := by
    intro x hx
    have : x.key ∈ (L.map (·.1)).map fun i : Nat => Value.int .i64 (i : Nat) := by rw [← hkeys]; exact List.mem_map.2 ⟨x, hx, rfl⟩
    obtain ⟨i, hi, e⟩ := List.mem_map.1 this
    obtain ⟨c, hc, rfl⟩ := List.mem_map.1 hi
    have hin := (ok.mem c hc).1
    refine ⟨c.1, hin, e.symm, ?_⟩
    unfold WideElems.rd
    have hw : (Lit.int .i64 ((c.1 : Nat) : Int)).wf = true := by
      show (decide (IntKind.i64.min ≤ ((c.1 : Nat) : Int)) && decide (((c.1 : Nat) : Int) ≤ IntKind.i64.max)) = true
      have e3 : IntKind.i64.min = -9223372036854775808 := by decide
      have e4 : IntKind.i64.max = 9223372036854775807 := by decide
      rw [decide_eq_true (by omega), decide_eq_true (by omega)]; rfl
    rw [← e, keyOf_int_mk hu hw]; rfl
  have hown : W.ownsMap Tryz.prog 3 (fun _ => some ((.nil : DataW Unit), [])) b es.size (.map ((es.toList.map (WideElems.rg Tryz.prog 3 (fun _ => some (.nil, [])))).foldr DataW.insert [])) :=
    ⟨es, clock, hbW, ⟨by have : (128 : Nat) ≤ maxLen := by decide
                         omega, hst, fun x hx => by obtain ⟨i, _, _, e⟩ := rdk x hx; exact ⟨_, e⟩⟩, Nat.le_refl _, rfl⟩
  have hsk : (intKeys (H := Unit) (.map ((es.toList.map (WideElems.rg Tryz.prog 3 (fun _ => some (.nil, [])))).foldr DataW.insert []))).Perm ((L.map (·.1)).map fun i : Nat => ((i : Nat) : Int)) := by
    refine ((WideShapes.sorted_perm _).map _).trans ?_
    rw [List.map_map]
    have : es.toList.map ((fun p => Go.intOf p.1) ∘ WideElems.rg (H := Unit) Tryz.prog 3 (fun _ => some (.nil, []))) = (L.map (·.1)).map fun i : Nat => ((i : Nat) : Int) := by
      have h2 : es.toList.map ((fun p => Go.intOf p.1) ∘ WideElems.rg (H := Unit) Tryz.prog 3 (fun _ => some (.nil, []))) = (es.toList.map (·.key)).map fun v => match v with
          | .int _ s => s
          | _ => 0 := by
        rw [List.map_map]
        refine List.map_congr_left fun x hx => ?_
        obtain ⟨i, _, e1, e2⟩ := rdk x hx
        show Go.intOf (WideElems.rg Tryz.prog 3 (fun _ => some (.nil, [])) x).1 = _
        unfold WideElems.rg
        rw [e2]
        show ((i : Nat) : Int) = _
        simp only [Function.comp, e1]
      rw [h2, hkeys, List.map_map]; rfl
    rw [this]
  have hlt : k < W.heap.size := by
    unfold Hp.cell at hk
    cases hkk : h k with
    | none => rw [hkk] at hk; cases hk
    | some ob => exact (Array.getElem?_eq_some_iff.1 (hW k ob hkk)).1
  have hcell : W.cell? ⟨k, 0, none⟩ = some (.map (some b)) := by
    unfold Hp.cell at hk
    cases hkk : h k with
    | none => rw [hkk] at hk; cases hk
    | some ob =>
      rw [hkk] at hk
      cases ob with
      | cells c t f =>
        simp only [] at hk
        unfold World.cell?
        simp [hW k _ hkk, hk]
      | _ => cases hk
  have hsize : Maps.size (H := Unit) (.map ((es.toList.map (WideElems.rg Tryz.prog 3 (fun _ => some (.nil, [])))).foldr DataW.insert [])) = L.length := by
    rw [Maps.size_eq, (WideShapes.sorted_perm _).length_eq, List.length_map, Array.length_toList, hesl]
  have hmx : (128 : Nat) * 8 ≤ maxLen := by decide
  refine (callsIn_wide.1 (sortedAt k b _ _ W hlt hcell hown (by rw [hsize]; omega) (by rw [hsize]; omega))).mono fun e w' ⟨v, ss, he, hp, hrow, hnil, bel⟩ => ?_
  have hp' := hp.trans hsk
  have hlen' : ss.length = L.length := by rw [hp'.length_eq, List.length_map, List.length_map]
  have hid : ∀ l : List Nat, (l.map fun i : Nat => ((i : Nat) : Int)).map Int.toNat = l := fun l => by
    rw [List.map_map]
    have : (Int.toNat ∘ fun i : Nat => ((i : Nat) : Int)) = id := funext fun i => by show Int.toNat ((i : Nat) : Int) = i; exact Int.toNat_natCast i
    rw [this, List.map_id]
  have hperm : ((ss.mergeSort (fun x y => decide (x ≤ y))).map Int.toNat).Perm (L.map (·.1)) := by
    have h1 := ((List.mergeSort_perm ss (fun x y => decide (x ≤ y))).trans hp').map Int.toNat
    rw [hid] at h1; exact h1
  have hpos : ∀ x ∈ ss.mergeSort (fun x y => decide (x ≤ y)), 0 ≤ x := fun x hx => by
    have h1 := ((List.mergeSort_perm ss (fun x y => decide (x ≤ y))).trans hp').mem_iff.1 hx
    obtain ⟨i, _, rfl⟩ := List.mem_map.1 h1
    omega
  have hpw : (ss.mergeSort (fun x y => decide (x ≤ y))).Pairwise (fun x y => x ≤ y) := by
    have := List.pairwise_mergeSort (le := fun (x y : Int) => decide (x ≤ y)) (fun a b c h1 h2 => decide_eq_true (Int.le_trans (of_decide_eq_true h1) (of_decide_eq_true h2)))
      (fun a b => by rcases Int.le_total a b with h | h <;> simp [h]) ss
    exact this.imp fun h => of_decide_eq_true h
  have hpw2 : ((ss.mergeSort (fun x y => decide (x ≤ y))).map Int.toNat).Pairwise (fun x y => x ≤ y) := by
    rw [List.pairwise_map]
    exact hpw.imp fun h => by omega
  have hxs : (ss.mergeSort (fun x y => decide (x ≤ y))).map encZ = rowC keyC ((ss.mergeSort (fun x y => decide (x ≤ y))).map Int.toNat) := by
    unfold rowC keyC
    rw [List.flatMap_map]
    generalize ss.mergeSort (fun x y => decide (x ≤ y)) = l at hpos
    induction l with
    | nil => rfl
    | cons x l ih =>
      rw [List.map_cons, List.flatMap_cons, ih fun y hy => hpos y (List.mem_cons_of_mem _ hy)]
      have := hpos x List.mem_cons_self
      show Value.int .i64 x :: _ = [Value.int .i64 ((x.toNat : Nat) : Int)] ++ _
      rw [show ((x.toNat : Nat) : Int) = x by omega]; rfl
  have hml : (ss.mergeSort (fun x y => decide (x ≤ y))).length = ss.length := (List.mergeSort_perm ss _).length_eq
  have hhn : ∀ c, W.heap.size ≤ c → h c = none := fun c hc => by
    cases hh : h c with
    | none => rfl
    | some o => have := (Array.getElem?_eq_some_iff.1 (hW c o hh)).1; omega
  have hWk : ∀ b o, W.heap[b]? = some o → w'.heap[b]? = some o := fun b o e => (bel.block b (Array.getElem?_eq_some_iff.1 e).1).trans e
  obtain ⟨_, ⟨e1, e2⟩ | ⟨g, cap, cur, e1, hg, hcur, hnc, hcm, hcs, htk⟩⟩ := hrow
  · have hss : ss = [] := List.eq_nil_of_length_eq_zero e2
    refine ⟨v, h, he, ?_, fun c o hc => hWk c o (hW c o hc), ⟨bel.os, bel.tape, bel.output, bel.size, fun c o e e' => ⟨hWk c o e, e'⟩⟩⟩
    have := hK h none 0 _ hperm hpw2 (by rw [hss, List.mergeSort_nil]; exact NewR.nil _ _)
    rw [List.length_map, hml, e2] at this
    rw [e1]; exact this
  · have hgn := hhn g hg
    refine ⟨v, h.upd g (.cells cur 3 (0, 0)), he, ?_, fun c o hc => ?_, ⟨bel.os, bel.tape, bel.output, bel.size, fun c o e e' => ⟨hWk c o e, ?_⟩⟩⟩
    · have := hK (h.upd g (.cells cur 3 (0, 0))) (some ⟨g, 0, none⟩) cap _ hperm hpw2 ⟨Sub.upd hgn _, (by rintro b ⟨o, s, e⟩; cases e; exact hgn), by
        refine ⟨by rw [← hxs]; simp [hml], by rw [List.length_map, hml]; exact hnc, .inr ⟨g, cur.toList.drop (ss.length * 1), rfl, ?_, ?_⟩⟩
        · unfold Blk
          rw [Hp.upd_same, ← hxs, ← htk, List.take_append_drop]
        · rw [List.length_drop, List.length_map, hml, Array.length_toList, hcs, Nat.mul_one, Nat.mul_one, Nat.mul_one]⟩
      rw [List.length_map, hml] at this
      rw [e1]; exact this
    · by_cases hcg : c = g
      · subst hcg; rw [Hp.upd_same] at hc; cases hc; exact hcur
      · rw [Hp.upd_ne _ _ hcg] at hc; exact hWk c o (hW c o hc)
    · by_cases hcg : c = g
      · subst hcg; have := (Array.getElem?_eq_some_iff.1 e).1; omega
      · rw [Hp.upd_ne _ _ hcg]; exact e'
end Go.Proofs.YthbogjbcecmopaaGreatDoor
namespace Go.Proofs.YthbogjbcecmopaaGreatDoor
open Go.Gx
set_option maxRecDepth 100000
set_option linter.unusedVariables false

theorem mapM_some {α β : Type} {f : α → Option β} {g : α → β} : ∀ {l : List α}, (∀ x ∈ l, f x = some (g x)) → l.mapM f = some (l.map g)
  | [], _ => rfl
  | x :: l, h => by
    rw [List.mapM_cons, h x List.mem_cons_self, mapM_some fun y hy => h y (List.mem_cons_of_mem _ hy)]; rfl
def headL (s : Nat) (r : Nat → Nat) (u : Nat → Bool) : List Lit := .int .u64 (s : Nat) :: ((List.range 4).map (fun k => Lit.int .i64 (r k : Nat)) ++ (List.range 128).map fun i => Lit.bool (u i))
theorem rowLits {d e n : Nat} {t : TypeId} {cs : List Value} {g : Nat → Lit} (hu : Tryz.prog.underlying t = some (.array n e)) (hl : cs.length = n) (hc : Tryz.prog.cellsOf t = n) (he : Tryz.prog.cellsOf e = 1)
    (hg : ∀ i, i < n → Tryz.prog.keyLits d e ((cs.drop i).take 1) = some [g i]) : Tryz.prog.keyLits (d + 1) t cs = some ((List.range n).map g) := by
  have h1 : (List.range n).mapM (fun i => Tryz.prog.keyLits d e ((cs.drop (i * Tryz.prog.cellsOf e)).take (Tryz.prog.cellsOf e))) = some ((List.range n).map fun i => [g i]) :=
    mapM_some fun i hi => by rw [he, Nat.mul_one]; exact hg i (List.mem_range.1 hi)
  unfold Program.keyLits
  rw [hu]
  simp only [hl, hc, if_true]
  rw [h1]
  show some _ = some _
  congr 1
  induction List.range n with
  | nil => rfl
  | cons x l ih => rw [List.map_cons, List.flatten_cons, ih]; rfl
theorem drop_take_one {cs : List Value} {i : Nat} {v : Value} (h : cs[i]? = some v) : (cs.drop i).take 1 = [v] := by
  rw [List.drop_eq_getElem_cons (List.getElem?_eq_some_iff.1 h).1, (List.getElem?_eq_some_iff.1 h).2]; rfl
theorem head_lits (s : Nat) (r : Nat → Nat) (u : Nat → Bool) (hs : s < 18446744073709551616) (hr : ∀ k, k < 4 → r k < 9223372036854775808) : LitsAre Tryz.prog 83 (headC s r u) (headL s r u) := by
  refine ⟨by rw [headC_len]; kernel_rfl, 3, ?_⟩
  have w64 : (Lit.int .u64 ((s : Nat) : Int)).wf = true := by
    show (decide (IntKind.u64.min ≤ ((s : Nat) : Int)) && decide (((s : Nat) : Int) ≤ IntKind.u64.max)) = true
    have e3 : IntKind.u64.min = 0 := by decide
    have e4 : IntKind.u64.max = 18446744073709551615 := by decide
    rw [decide_eq_true (by omega), decide_eq_true (by omega)]; rfl
  have wr : ∀ k, k < 4 → (Lit.int .i64 ((r k : Nat) : Int)).wf = true := fun k hk => by
    have := hr k hk
    show (decide (IntKind.i64.min ≤ ((r k : Nat) : Int)) && decide (((r k : Nat) : Int) ≤ IntKind.i64.max)) = true
    have e3 : IntKind.i64.min = -9223372036854775808 := by decide
    have e4 : IntKind.i64.max = 9223372036854775807 := by decide
    rw [decide_eq_true (by omega), decide_eq_true (by omega)]; rfl
  have g1 : Tryz.prog.keyLits 2 79 [.int .u64 (s : Nat)] = some [.int .u64 (s : Nat)] := by
    unfold Program.keyLits
    rw [Tryz.underlying79]
    simp only [w64, and_self, if_true]
  have g2 : Tryz.prog.keyLits 2 80 (rootV r) = some ((List.range 4).map fun k => Lit.int .i64 (r k : Nat)) :=
    rowLits (d := 1) (e := 3) Tryz.underlying80 (rootV_len r) (by kernel_rfl) (by kernel_rfl) fun i hi => by
      rw [drop_take_one (rootV_get hi)]
      unfold Program.keyLits
      rw [Tryz.underlying3]
      simp only [wr i hi, and_self, if_true]
  have g3 : Tryz.prog.keyLits 2 81 (usedV u) = some ((List.range 128).map fun i => Lit.bool (u i)) :=
    rowLits (d := 1) (e := 4) Tryz.underlying81 (usedV_len u) (by kernel_rfl) (by kernel_rfl) fun i hi => by
      rw [drop_take_one (usedV_get hi)]
      unfold Program.keyLits
      rw [Tryz.underlying4]
  have c1 : Tryz.prog.cellsOf 79 = 1 := by kernel_rfl
  have c2 : Tryz.prog.cellsOf 80 = 4 := by kernel_rfl
  have c3 : Tryz.prog.cellsOf 81 = 128 := by kernel_rfl
  have c0 : Tryz.prog.cellsOf 83 = 133 := by kernel_rfl
  have d1 : ((headC s r u).drop 0).take 1 = [.int .u64 (s : Nat)] := rfl
  have d2 : ((headC s r u).drop 1).take 4 = rootV r := by
    show (rootV r ++ usedV u).take 4 = _
    rw [List.take_append_of_le_length (by rw [rootV_len]; exact Nat.le_refl _), List.take_of_length_le (by rw [rootV_len]; exact Nat.le_refl _)]
  have d3 : ((headC s r u).drop 5).take 128 = usedV u := by
    show ((rootV r ++ usedV u).drop 4).take 128 = _
    rw [List.drop_append_of_le_length (by rw [rootV_len]; exact Nat.le_refl _), List.drop_of_length_le (by rw [rootV_len]; exact Nat.le_refl _), List.nil_append, List.take_of_length_le (by rw [usedV_len]; exact Nat.le_refl _)]
  unfold Program.keyLits
  rw [Tryz.underlying83]
  simp only [headC_len, c0, true_and]
  rw [if_pos (by kernel_rfl)]
  simp only [List.mapM_cons, List.mapM_nil, c1, c2, c3, d1, d2, d3, g1, g2, g3]
  rfl
def Hd.lits (H : Hd) : List Lit := headL H.s H.r H.u
theorem HdOk.lits {n : Nat} {H : Hd} (O : HdOk n H) : LitsAre Tryz.prog 83 H.c H.lits := head_lits _ _ _ (by have := O.ser; omega) fun k hk => by have := (O.roots k hk).1; omega
def Hd.same (A B : Hd) : Bool := Nat.beq A.s B.s && ((List.range 4).all (fun k => Nat.beq (A.r k) (B.r k)) && (List.range 128).all fun i => A.u i == B.u i)
theorem Hd.same_eq {A B : Hd} : A.same B = true ↔ A.s = B.s ∧ (∀ k, k < 4 → A.r k = B.r k) ∧ ∀ i, i < 128 → A.u i = B.u i := by
  unfold Hd.same
  rw [Bool.and_eq_true, Bool.and_eq_true, List.all_eq_true, List.all_eq_true]
  constructor
  · rintro ⟨h1, h2, h3⟩
    exact ⟨Nat.eq_of_beq_eq_true h1, fun k hk => Nat.eq_of_beq_eq_true (h2 k (List.mem_range.2 hk)), fun i hi => by simpa using h3 i (List.mem_range.2 hi)⟩
  · rintro ⟨h1, h2, h3⟩
    exact ⟨by rw [h1]; exact Nat.beq_refl _, fun k hk => by rw [h2 k (List.mem_range.1 hk)]; exact Nat.beq_refl _, fun i hi => by rw [h3 i (List.mem_range.1 hi)]; simp⟩
theorem Hd.same_lits {A B : Hd} : A.same B = true ↔ A.lits = B.lits := by
  rw [Hd.same_eq]
  unfold Hd.lits headL
  constructor
  · rintro ⟨h1, h2, h3⟩
    rw [h1, List.map_congr_left fun k hk => by rw [h2 k (List.mem_range.1 hk)], List.map_congr_left (l := List.range 128) fun i hi => by rw [h3 i (List.mem_range.1 hi)]]
  · intro h
    rw [List.cons.injEq] at h
    obtain ⟨h1, h2⟩ := h
    obtain ⟨h2, h3⟩ := List.append_inj h2 (by rw [List.length_map, List.length_map])
    rw [List.map_inj_left] at h2 h3
    refine ⟨?_, fun k hk => ?_, fun i hi => ?_⟩
    · cases A; cases B; simp at h1 ⊢; omega
    · have := h2 k (List.mem_range.2 hk); simp at this; omega
    · have := h3 i (List.mem_range.2 hi); simpa using this
theorem Hd.leq {A B : Hd} : leqL A.lits B.lits = A.same B := by
  unfold leqL
  rw [hb_eq]
  cases h : A.same B with
  | true => exact @decide_eq_true _ (Classical.propDecidable _) (Hd.same_lits.1 h)
  | false => exact @decide_eq_false _ (Classical.propDecidable _) fun e => by rw [Hd.same_lits.2 e] at h; cases h
def Pg.diff (P : Pg) (D : Dk) (n i : Nat) : Bool := match dget P.d i with
  | some s => !decide (D.own n i = s)
  | none => false
def Pg.chg (P : Pg) (D : Dk) (n : Nat) : List Nat := (if P.now.same P.good then [] else [0]) ++ (List.range n).filter (P.diff D n)
theorem keys_eq {n : Nat} {L : List Ch} (ok : DOk n L) {rs : List Nat} (hp : rs.Perm (L.map (·.1))) (hs : rs.Pairwise (fun x y => x ≤ y)) : rs = (List.range n).filter fun i => (dget L i).isSome := by
  have hnd : rs.Nodup := hp.nodup_iff.2 ok.nd
  have h1 : ((List.range n).filter fun i => (dget L i).isSome).Pairwise (fun x y => x ≤ y) := (List.pairwise_lt_range.imp fun h => Nat.le_of_lt h).sublist List.filter_sublist
  refine List.Perm.eq_of_pairwise (le := fun x y => x ≤ y) (fun a b _ _ h1 h2 => Nat.le_antisymm h1 h2) hs h1 ?_
  refine (List.perm_ext_iff_of_nodup hnd (List.nodup_range.sublist List.filter_sublist)).2 fun a => ?_
  rw [hp.mem_iff, List.mem_filter, List.mem_range]
  constructor
  · intro h
    obtain ⟨e, he, rfl⟩ := List.mem_map.1 h
    exact ⟨(ok.mem e he).1, by rw [mem_dget ok.nd (i := e.1) (s := e.2) he]; rfl⟩
  · rintro ⟨_, h⟩
    obtain ⟨s, hs⟩ := Option.isSome_iff_exists.1 h
    exact List.mem_map.2 ⟨_, dget_mem hs, rfl⟩
theorem diff_some {P : Pg} {D : Dk} {n i : Nat} (h : P.diff D n i = true) : ∃ s, dget P.d i = some s ∧ D.own n i ≠ s := by
  unfold Pg.diff at h
  cases e : dget P.d i with
  | none => rw [e] at h; cases h
  | some s => rw [e] at h; exact ⟨s, rfl, by simpa using h⟩
theorem filter_keys {P : Pg} {D : Dk} {n : Nat} : ((List.range n).filter fun i => (dget P.d i).isSome).filter (P.diff D n) = (List.range n).filter (P.diff D n) := by
  rw [List.filter_filter]
  refine List.filter_congr fun i _ => ?_
  cases h : P.diff D n i with
  | false => rfl
  | true => obtain ⟨s, hs, _⟩ := diff_some h; rw [hs]; rfl
end Go.Proofs.YthbogjbcecmopaaGreatDoor
namespace Go.Proofs.YthbogjbcecmopaaGreatDoor
open Go.Gx
set_option maxRecDepth 100000
set_option linter.unusedVariables false

variable {h : Hp} {pb jb db n : Nat} {S : Nat → Prop} {D : Dk} {P : Pg} {K : Value → Hp → Prop}
def Pg.write (P : Pg) (i : Nat) (s : ByteArray) : Pg := { P with d := dset P.d i s }
def Pg.point (P : Pg) (k i : Nat) : Pg := { P with now := { P.now with r := upR P.now.r k i } }
def Pg.back (P : Pg) (k : Nat) (q : Hd × List Ch) : Pg := { P with now := q.1, d := q.2, pts := P.pts.take k }
def Pg.reset (g : Hd) : Pg := ⟨g, g, [], []⟩
def Pg.freeN (P : Pg) (j : Nat) : Nat := ((List.range j).filter fun i => !P.now.u i).length
theorem freeN_step (P : Pg) (j : Nat) : P.freeN (j + 1) = P.freeN j + (if P.now.u j then 0 else 1) := by
  unfold Pg.freeN
  rw [List.range_succ, List.filter_append, List.length_append]
  cases h : P.now.u j
  · rw [List.filter_cons_of_pos (by rw [h]; rfl)]; rfl
  · rw [List.filter_cons_of_neg (by rw [h]; simp)]; rfl
theorem freeN_le (P : Pg) (j : Nat) : P.freeN j ≤ j := by
  unfold Pg.freeN
  exact Nat.le_trans (List.length_filter_le _ _) (by rw [List.length_range]; exact Nat.le_refl _)
theorem free_spec (E : PgAt h pb jb db S n D P) (hK : K (.int .i64 (P.freeN n : Nat)) h) : CallsH Tryz.prog pager_Pager_Free.id #[.pointer (some ⟨pb, 0, none⟩)] h K := by
  have hn := E.n2
  apply pager_Pager_Free.calls
  unfold pager_Pager_Free.W
  refine pages_spec E ⟨_, rfl, fun c i x m => ∃ j : Nat, i = (j : Int) ∧ j ≤ n ∧ m = n - j ∧ x = h ∧ c = (P.freeN j : Nat), ⟨_, 0, rfl, Nat.zero_le _, rfl, rfl, rfl⟩, ?_⟩
  rintro c i x m ⟨j, rfl, hj, rfl, rfl, rfl⟩
  have hle := freeN_le P j
  refine split_dec (fun g => ?_) fun g => ?_
  · have g : j < n := by have : (j : Int) < (n : Int) := g; omega
    have idx : 0 + 134 + 5 + (j : Int).toNat * 1 = 134 + 5 + j := by rw [Int.toNat_natCast]; omega
    obtain ⟨S0, mb, pa, pc, Q, e⟩ := E.ex
    have hs := freeN_step P j
    refine ⟨by omega, by omega, _, by rw [idx]; exact e.blk.cell' _ (pgC_used (by omega)), split_not (fun eu => ⟨n - (j + 1), by omega, j + 1, ?_, by omega, rfl, rfl, ?_⟩) fun eu => ⟨n - (j + 1), by omega, j + 1, ?_, by omega, rfl, rfl, ?_⟩⟩
    · rw [wid (by omega) (by omega)]; omega
    · rw [hs, eu, wid (by omega) (by omega)]
      show ((P.freeN j : Nat) : Int) + 1 = ((P.freeN j + 1 : Nat) : Int)
      omega
    · rw [wid (by omega) (by omega)]; omega
    · rw [hs, eu]; rfl
  · have : j = n := by
      have : ¬ (j : Int) < (n : Int) := g
      omega
    subst this
    exact hK
theorem pwrite_spec (E : PgAt h pb jb db S n D P) (i : Int) (s : ByteArray) (hF : P.why n i ≠ 0 → K (.int .i64 (P.why n i)) h) (hL : P.why n i = 0 → s.size ≠ 1024 → K (.int .i64 1) h)
    (hG : ∀ k : Nat, i = (k : Int) → P.why n i = 0 → s.size = 1024 → ∀ h', PgAt h' pb jb db S n D (P.write k s) → Step S h S h' → K (.int .i64 0) h') :
    CallsH Tryz.prog pager_Pager_Write.id #[.pointer (some ⟨pb, 0, none⟩), .int .i64 i, .string s] h K := by
  apply pager_Pager_Write.calls
  unfold pager_Pager_Write.W
  refine puse_spec E i ⟨_, rfl, split_ne (fun e => hF e) fun e0 => split_ne (fun e => hL e0 fun e' => e (by show (s.size : Int) = 1024; omega)) fun e => ?_⟩
  have hs : s.size = 1024 := by
    have : (s.size : Int) = 1024 := e
    omega
  obtain ⟨j, rfl, h1, h2, h3⟩ := why_ok e0
  obtain ⟨S0, mb, pa, pc, Q, e⟩ := E.ex
  obtain ⟨o, ho, hm⟩ := e.d
  have hmpb : mb ≠ pb := e.d.ne e.blk
  refine ⟨_, by rw [Nat.zero_add]; exact e.blk.cell' _ pgC_map, mb, o, mapD P.d, rfl, ho, hm, fun o' hm' => ?_⟩
  rw [mapD_set] at hm'
  obtain ⟨e', st⟩ := e.put (now' := P.now) (d' := dset P.d j s) (Keep.upd o' (.inl (.inr rfl))) (by
    have := e.blk
    unfold Blk at this ⊢
    rw [Hp.upd_ne _ _ (Ne.symm hmpb)]; exact this) ⟨o', Hp.upd_same _ _ _, hm'⟩
  exact hG j rfl e0 hs _ ⟨⟨S0, mb, pa, pc, Q, e'⟩, E.ok.put E.ok.now (E.ok.d.set h1 h2 hs), E.up⟩ st
theorem HdOk.point {n : Nat} {H : Hd} (O : HdOk n H) {k i : Nat} (hi : i < 128) (hu : i ≠ 0 → H.u i = true) : HdOk n { H with r := upR H.r k i } := by
  refine ⟨O.below, fun t ht => ?_, O.zero, O.ser⟩
  show upR H.r k i t < 128 ∧ (upR H.r k i t ≠ 0 → H.u (upR H.r k i t) = true)
  unfold upR
  by_cases e : t = k
  · rw [if_pos e]; exact ⟨hi, hu⟩
  · rw [if_neg e]; exact O.roots t ht
theorem PgEx.fresh {S0 : Nat → Prop} {mb : Nat} {pa : Option Addr} {pc : Nat} {Q : List Pt} (E : PgEx h pb jb db S S0 n D P mb pa pc Q) {h' : Hp} {k : Nat} {g n' : Hd} (hk : h k = none) (kp : Keep (fun c => c = pb) h h')
    (B : Blk h' pb 87 (pgC jb g n' k none 0 0)) (Dm : DAt h' k []) :
    PgEx h' pb jb db (fun c => c = pb ∨ c = k ∨ S0 c) S0 n D ⟨g, n', [], []⟩ k none 0 [] ∧ Step S h (fun c => c = pb ∨ c = k ∨ S0 c) h' := by
  refine ⟨⟨B, E.j.out kp fun c hc e => E.n1 (e ▸ hc), Dm, OwnR.nil _ _, (fun q hq => by cases hq), rfl, E.n1, fun hc => E.j.in_heap hc hk, (fun q hq => by cases hq), (fun c hc => by obtain ⟨o, s, e⟩ := hc; cases e), by simp, fun c => ⟨?_, ?_⟩⟩, kp.mono fun c e => (E.s c).2 (.inl e), ?_⟩
  · rintro (h' | h' | h')
    · exact .inl h'
    · exact .inr (.inl h')
    · exact .inr (.inr (.inl h'))
  · rintro (h' | h' | h' | ⟨o, s, e⟩ | ⟨q, hq, _⟩)
    · exact .inl h'
    · exact .inr (.inl h')
    · exact .inr (.inr h')
    · cases e
    · cases hq
  · rintro c (rfl | rfl | hc)
    · exact .inl ((E.s _).2 (.inl rfl))
    · exact .inr hk
    · exact .inl ((E.s _).2 (.inr (.inr (.inl hc))))
theorem POk.reset {g : Hd} (h : HdOk n g) : POk n (Pg.reset g) := ⟨h, h, DOk.nil n, (fun q hq => by cases hq), Nat.zero_le _⟩
theorem slA_zero (m s : Nat) (a : Option Addr) : slA m 0 s a = a := by
  unfold slA
  split
  · rfl
  · cases a with
    | none => rfl
    | some a => obtain ⟨b, o, sp⟩ := a; rw [Nat.zero_mul]; rfl
end Go.Proofs.YthbogjbcecmopaaGreatDoor
namespace Go.Proofs.YthbogjbcecmopaaGreatDoor
open Go.Gx
set_option maxRecDepth 100000
set_option linter.unusedVariables false

variable {h : Hp} {pb jb db n : Nat} {S : Nat → Prop} {D : Dk} {P : Pg} {K : Value → Hp → Prop}
theorem appTInt : AppT Tryz.prog 3 1 8 := AppT.of (by kernel_rfl)
def Pg.hd0 (P : Pg) : List Nat := if P.now.same P.good then [] else [0]
set_option maxHeartbeats 1000000 in
theorem changed_spec (E : PgAt h pb jb db S n D P) (hK : ∀ h' a c, NewR keyC 1 3 h h' a c (P.chg D n) → K (.slice a (P.chg D n).length c) h') :
    CallsH Tryz.prog pager_Pager_Changed.id #[.pointer (some ⟨pb, 0, none⟩)] h K := by
  have hn := E.n2
  apply pager_Pager_Changed.calls
  unfold pager_Pager_Changed.W
  obtain ⟨S0, mb, pa, pc, Q, e⟩ := E.ex
  have hl0 : P.hd0.length ≤ 1 := by unfold Pg.hd0; split <;> decide
  refine ⟨fun a l c x => NewR keyC 1 3 h x a c P.hd0 ∧ l = P.hd0.length, ?_, P.now.c, P.now.len, e.blk.cellsAt fun i hi => by rw [Nat.zero_add]; exact pgC_now (by rw [P.now.len] at hi; exact hi), P.good.c, P.good.len, e.blk.cellsAt fun i hi => by rw [Nat.zero_add]; exact pgC_good (by rw [P.good.len] at hi; exact hi), P.now.lits, P.good.lits, E.ok.now.lits, E.ok.good.lits, ?_⟩
  rotate_left
  · rw [Hd.leq]
    refine split_not (fun es => fun k hk => ?_) fun es => ?_
    · have es : P.now.same P.good = false := es
      have B := Blk.new h k 3 (keyC 0)
      have s1 := Sub.upd hk (.cells (keyC 0).toArray 3 (0, 0))
      exact ⟨_, B.slice rfl, fun a' c' y => NewR keyC 1 3 h y a' c' P.hd0, fun a' c' y N => ⟨N, by unfold Pg.hd0; rw [es]; rfl⟩, append_row appTInt keyC_len keyC_plain (M := [0]) ((NewR.nil 3 h).upd s1) rfl rfl rfl (by decide) fun a' c' y N => by unfold Pg.hd0; rw [es]; exact N⟩
    · have es : P.now.same P.good = true := es
      exact ⟨by unfold Pg.hd0; rw [es]; exact NewR.nil 3 h, by unfold Pg.hd0; rw [es]; rfl⟩
  rintro a l c x ⟨N, rfl⟩
  have ex := e.sub N.sub
  refine ⟨_, by rw [Nat.zero_add]; exact ex.blk.cell' _ pgC_map, mkeys_spec fun k hk => ⟨_, rfl, ?_⟩⟩
  have s8 := Sub.upd hk (.cells #[.map (some mb)] 84 (0, 0))
  have N8 := N.upd s8
  have e8 := ex.sub s8
  refine sortedk_spec ((Blk.new x k 84 [.map (some mb)]).cell' 0 rfl) e8.d E.ok.d hn fun h11 ka kc ks hp hs NK => ?_
  have hks := keys_eq E.ok.d hp hs
  have hkl : ks.length ≤ 128 := by
    rw [hp.length_eq, List.length_map]
    exact Nat.le_trans E.ok.d.len hn
  have NB := N8.upd NK.sub
  have eB := e8.sub NK.sub
  refine ⟨_, _, _, rfl, fun a l c i y m => ∃ j : Nat, i = (j : Int) ∧ j ≤ ks.length ∧ m = ks.length - j ∧ (OwnR keyC 1 y 3 ka kc ks ∧ ∀ b, blkOf ka b → ¬ blkOf a b) ∧ NewR keyC 1 3 h y a c (P.hd0 ++ (ks.take j).filter (P.diff D n)) ∧ l = (P.hd0 ++ (ks.take j).filter (P.diff D n)).length, ⟨_, 0, rfl, Nat.zero_le _, rfl, ⟨NK.own, fun b hb hb' => ?_⟩, ?_, ?_⟩, ?_⟩
  · exact Own.in_heap N8.own hb' (NK.new b hb)
  · rw [List.take_zero, List.filter_nil, List.append_nil]; exact NB
  · rw [List.take_zero, List.filter_nil, List.append_nil]
  rintro a l c i y m ⟨j, rfl, hj, rfl, ⟨OK, dj⟩, Ny, rfl⟩
  have ey := e.sub Ny.sub
  refine split_dec (fun g => ?_) fun g => ?_
  · have g : j < ks.length := by have : (j : Int) < (ks.length : Int) := g; omega
    obtain ⟨p, hpj⟩ : ∃ p, ks[j]? = some p := ⟨_, List.getElem?_eq_getElem g⟩
    have hpm : p ∈ ks := List.mem_of_getElem? hpj
    have hpn : p < n ∧ (dget P.d p).isSome = true := by
      rw [hks, List.mem_filter, List.mem_range] at hpm; exact hpm
    obtain ⟨s, hsd⟩ := Option.isSome_iff_exists.1 hpn.2
    obtain ⟨kb, ko, ea, hcell⟩ := OK.row.get keyC_len (by decide) hpj
    have htk : ks.take (j + 1) = ks.take j ++ [p] := by rw [List.take_add_one, hpj]; rfl
    have hlen : (P.hd0 ++ (ks.take j).filter (P.diff D n)).length ≤ 129 := by
      rw [List.length_append]
      have := List.length_filter_le (P.diff D n) (ks.take j)
      rw [List.length_take] at this
      omega
    refine ⟨by omega, by show (j : Int) < (ks.length : Int); omega, kb, ko, ea, _, by rw [Int.toNat_natCast]; exact hcell 0 _ rfl, _, ey.blk.cell' 0 pgC_0, jread_spec ey.j hpn.1 E.up fun h28 s28 => ⟨_, _, rfl, split_ne (fun e => absurd rfl e) fun _ => ?_⟩⟩
    have e28 := ey.sub s28
    obtain ⟨o, ho, hm⟩ := e28.d
    have hg := mapD_get P.d p
    rw [hsd] at hg
    refine ⟨_, by rw [Nat.zero_add]; exact e28.blk.cell' _ pgC_map, mb, o, _, rfl, ho, hm, s, true, .inl ⟨rfl, hg⟩, ?_⟩
    rw [beqS_val]
    have next : ((j : Nat) : Int) + 1 = ((j + 1 : Nat) : Int) := by omega
    by_cases hd : D.own n p = s
    · have hdf : P.diff D n p = false := by unfold Pg.diff; rw [hsd, hd]; simp
      rw [decide_eq_true hd]
      refine ⟨ks.length - (j + 1), by omega, j + 1, by rw [wid (by omega) (by omega)]; omega, by omega, rfl, ⟨OK.sub s28, dj⟩, ?_, ?_⟩
      · rw [htk, List.filter_append, List.filter_cons_of_neg (by rw [hdf]; simp), List.filter_nil, List.append_nil]; exact Ny.upd s28
      · rw [htk, List.filter_append, List.filter_cons_of_neg (by rw [hdf]; simp), List.filter_nil, List.append_nil]
    · have hdt : P.diff D n p = true := by unfold Pg.diff; rw [hsd]; simp [hd]
      rw [decide_eq_false hd]
      intro k44 hk44
      have s44 := Sub.upd hk44 (.cells (keyC p).toArray 3 (0, 0))
      have B44 := Blk.new h28 k44 3 (keyC p)
      have fl : (ks.take (j + 1)).filter (P.diff D n) = (ks.take j).filter (P.diff D n) ++ [p] := by
        rw [htk, List.filter_append, List.filter_cons_of_pos hdt, List.filter_nil]
      have Nz := (Ny.upd s28).upd s44
      have Oz := (OK.sub s28).sub s44
      refine ⟨_, B44.slice rfl, fun a' c' z => NewR keyC 1 3 h z a' c' (P.hd0 ++ (ks.take (j + 1)).filter (P.diff D n)) ∧ OwnR keyC 1 z 3 ka kc ks ∧ ∀ b, blkOf ka b → ¬ blkOf a' b, fun a' c' z hz => ⟨ks.length - (j + 1), by omega, j + 1, by rw [wid (by omega) (by omega)]; omega, by omega, rfl, hz.2, hz.1, ?_⟩, ?_⟩
      · rw [fl, ← List.append_assoc, List.length_append (bs := [p])]; rfl
      · refine append_ownR appTInt keyC_len keyC_plain (M := [p]) Nz.own rfl rfl (rowC_one _).symm ?_ fun a' c' z o1 o2 o3 => ⟨⟨o2.sub Nz.sub Nz.new, fun b hb => (o3 b hb).elim (Nz.new b) fun hn => Nz.sub.none hn, ?_⟩, Oz.keep o2 dj, fun b hb hb' => ?_⟩
        · show (2 * ((P.hd0 ++ (ks.take j).filter (P.diff D n)).length + 1) + 768) * 8 ≤ _
          omega
        · rw [fl, ← List.append_assoc]; exact o1
        · exact (o3 b hb').elim (dj b hb) fun hn => Own.in_heap Oz hb hn
  · have : j = ks.length := by
      have : ¬ (j : Int) < (ks.length : Int) := g
      omega
    subst this
    have ec : P.hd0 ++ (ks.take ks.length).filter (P.diff D n) = P.chg D n := by
      rw [List.take_length, hks, filter_keys]; rfl
    rw [ec] at Ny ⊢
    exact hK y a c Ny
end Go.Proofs.YthbogjbcecmopaaGreatDoor
namespace Go.Proofs.YthbogjbcecmopaaGreatDoor
open Go.Gx
set_option maxRecDepth 100000
set_option linter.unusedVariables false

variable {h : Hp} {pb jb db n : Nat} {S : Nat → Prop} {D : Dk} {P : Pg} {K : Value → Hp → Prop}
theorem PgEx.jstep {S0 S0' : Nat → Prop} {mb : Nat} {pa : Option Addr} {pc : Nat} {Q : List Pt} (E : PgEx h pb jb db S S0 n D P mb pa pc Q) {h' : Hp} {D' : Dk} (J : JAt h' jb db S0' n D') (st : Step S0 h S0' h') :
    ∃ S', PgEx h' pb jb db S' S0' n D' P mb pa pc Q ∧ Step S h S' h' := by
  have dn : ∀ {c : Nat} {L : List Ch}, DAt h c L → ¬ S0 c → ¬ S0' c := fun H hn => by obtain ⟨o, ho, _⟩ := H; exact (st.out ho hn).2
  refine ⟨fun c => c = pb ∨ c = mb ∨ S0' c ∨ blkOf pa c ∨ ∃ q ∈ Q, q.m = c, ⟨E.blk.keep st.1 E.n1, J, E.d.keep st.1 E.n2, E.own.keep st.1 fun c hc => (E.n4 c hc).1, fun q hq => (E.ds q hq).keep st.1 (E.n3 q hq), E.pts, (st.out E.blk E.n1).2, dn E.d E.n2, fun q hq => dn (E.ds q hq) (E.n3 q hq), fun c hc => ⟨?_, (E.n4 c hc).2⟩, E.n5, fun c => Iff.rfl⟩, st.1.mono fun c hc => (E.s c).2 (.inr (.inr (.inl hc))), ?_⟩
  · intro hS
    rcases st.2 c hS with h' | h'
    · exact (E.n4 c hc).1 h'
    · exact Own.in_heap E.own hc h'
  · rintro c (h' | h' | h' | h' | h')
    · exact .inl ((E.s c).2 (.inl h'))
    · exact .inl ((E.s c).2 (.inr (.inl h')))
    · exact (st.2 c h').imp (fun h2 => (E.s c).2 (.inr (.inr (.inl h2)))) id
    · exact .inl ((E.s c).2 (.inr (.inr (.inr (.inl h')))))
    · exact .inl ((E.s c).2 (.inr (.inr (.inr (.inr h')))))
def Hd.up (H : Hd) : Hd := { H with s := H.s + 1 }
def Hd.bytes (H : Hd) : ByteArray := tabB (encN H.s H.r H.u 128)
def Pg.pair (P : Pg) (i : Nat) : Ch := (i, (dget P.d i).getD (bytesL []))
def Pg.cs (P : Pg) (D : Dk) (n : Nat) : List Ch := (0, P.now.up.bytes) :: ((P.chg D n).filter fun i => i != 0).map P.pair
theorem diff_pos {P : Pg} {D : Dk} {n i : Nat} (ok : DOk n P.d) (h : P.diff D n i = true) : 1 ≤ i ∧ i < n ∧ ∃ s, dget P.d i = some s ∧ s.size = 1024 ∧ D.own n i ≠ s := by
  obtain ⟨s, hs, hne⟩ := diff_some h
  have hm := dget_mem hs
  exact ⟨ok.pos _ hm, (ok.mem _ hm).1, s, hs, (ok.mem _ hm).2, hne⟩
theorem chg_mem {P : Pg} {D : Dk} {n i : Nat} (hi : i ≠ 0) : i ∈ P.chg D n ↔ i < n ∧ P.diff D n i = true := by
  unfold Pg.chg
  rw [List.mem_append, List.mem_filter, List.mem_range]
  constructor
  · rintro (h | h)
    · exfalso
      split at h
      · cases h
      · exact hi (List.mem_singleton.1 h)
    · exact h
  · exact .inr
theorem chg_filter {P : Pg} {D : Dk} {n : Nat} (ok : DOk n P.d) : ((P.chg D n).filter fun i => i != 0) = (List.range n).filter (P.diff D n) := by
  unfold Pg.chg
  rw [List.filter_append, List.filter_filter]
  have e1 : (if P.now.same P.good then ([] : List Nat) else [0]).filter (fun i => i != 0) = [] := by
    split <;> rfl
  rw [e1, List.nil_append]
  refine List.filter_congr fun i _ => ?_
  cases hd : P.diff D n i with
  | false => rw [Bool.and_false]
  | true =>
    have := (diff_pos ok hd).1
    rw [Bool.and_true]
    simpa using (by omega : ¬ i = 0)
theorem chg_len {P : Pg} {D : Dk} {n : Nat} : (P.chg D n).length ≤ n + 1 := by
  unfold Pg.chg
  rw [List.length_append]
  have h1 := List.length_filter_le (P.diff D n) (List.range n)
  rw [List.length_range] at h1
  have h2 : (if P.now.same P.good then ([] : List Nat) else [0]).length ≤ 1 := by split <;> decide
  omega
theorem cs_map {P : Pg} {D : Dk} {n : Nat} (ok : DOk n P.d) : (P.cs D n).map (·.1) = 0 :: (List.range n).filter (P.diff D n) := by
  unfold Pg.cs
  rw [List.map_cons, chg_filter ok, List.map_map]
  congr 1
  exact List.map_id _
theorem cs_pos {P : Pg} {D : Dk} {n : Nat} (ok : DOk n P.d) : (0 :: (List.range n).filter (P.diff D n)).Pairwise (fun a b => a < b) := by
  refine List.pairwise_cons.2 ⟨fun i hi => (diff_pos ok (List.mem_filter.1 hi).2).1, List.pairwise_lt_range.sublist List.filter_sublist⟩
theorem cs_ok {P : Pg} {D : Dk} {n : Nat} (ok : DOk n P.d) (hn : 1 ≤ n) : (∀ c ∈ P.cs D n, c.1 < n ∧ c.2.size = 1024) ∧ ((P.cs D n).map (·.1)).Nodup ∧ (P.cs D n).length ≤ n ∧ (P.cs D n).Pairwise (fun a b => a.1 < b.1) := by
  have hp := cs_pos (D := D) ok
  rw [← cs_map ok, List.pairwise_map] at hp
  have h1 : ∀ c ∈ P.cs D n, c.1 < n ∧ c.2.size = 1024 := fun c hc => by
    rcases List.mem_cons.1 hc with rfl | hc
    · exact ⟨hn, tabB_size _⟩
    · rw [chg_filter ok] at hc
      obtain ⟨i, hi, rfl⟩ := List.mem_map.1 hc
      obtain ⟨a1, a2, s, a3, a4, _⟩ := diff_pos ok (List.mem_filter.1 hi).2
      refine ⟨a2, ?_⟩
      show ((dget P.d i).getD (bytesL [])).size = 1024
      rw [a3]; exact a4
  have h2 : ((P.cs D n).map (·.1)).Nodup := by
    rw [List.nodup_iff_pairwise_ne, List.pairwise_map]
    exact hp.imp fun h => Nat.ne_of_lt h
  refine ⟨h1, h2, ?_, hp⟩
  have := nodup_below n _ h2 fun x hx => by
    obtain ⟨e, he, rfl⟩ := List.mem_map.1 hx
    exact (h1 e he).1
  rw [List.length_map] at this; exact this
theorem andD_ok {r : Dk × Int} {f : Dk → Dk × Int} (h : (andD r f).2 = 0) : r.2 = 0 ∧ (f r.1).2 = 0 ∧ andD r f = f r.1 := by
  unfold andD at h ⊢
  by_cases e : r.2 = 0
  · rw [if_pos e] at h ⊢; exact ⟨e, h, rfl⟩
  · rw [if_neg e] at h; exact absurd h e
theorem flD_up {r : Dk × Int} (h : (flD r).2 = 0) : (flD r).1.down = false := by
  unfold flD at h ⊢
  by_cases h1 : r.2 ≠ 0
  · rw [if_pos h1] at h; exact absurd h h1
  · rw [if_neg h1] at h ⊢
    cases hd : r.1.down with
    | true => rw [hd] at h; cases h
    | false => rw [if_neg (by simp)]; exact hd
theorem commit_up {D : Dk} {n : Nat} {ds : List Ch} (h : (commitD n D ds).2 = 0) : (commitD n D ds).1.down = false := by
  unfold commitD at h ⊢
  obtain ⟨_, h1, e1⟩ := andD_ok h
  rw [e1]
  obtain ⟨_, h2, e2⟩ := andD_ok h1
  show (andD _ _).1.down = false
  rw [e2]
  obtain ⟨_, h3, e3⟩ := andD_ok h2
  show (andD _ _).1.down = false
  rw [e3]
  exact flD_up h3
theorem HdOk.up {n : Nat} {H : Hd} (O : HdOk n H) (h : H.s < 9223372036854775807) : HdOk n H.up := ⟨O.below, O.roots, O.zero, by show H.s + 1 ≤ _; omega⟩
set_option maxHeartbeats 2000000 in
theorem pcommit_spec (E : PgAt h pb jb db S n D P) (hws : D.ws = []) (hL : P.chg D n ≠ [] → P.now.s = 9223372036854775807 → ∀ h', Sub h h' → K (.int .i64 5) h')
    (hN : P.chg D n = [] → ∀ h' S', PgAt h' pb jb db S' n D (Pg.reset P.now) → Step S h S' h' → K (.int .i64 0) h')
    (hE : P.chg D n ≠ [] → P.now.s < 9223372036854775807 → (commitD n D (P.cs D n)).2 ≠ 0 → ∀ h' S', JAt h' jb db S' n (commitD n D (P.cs D n)).1 → Step S h S' h' → K (.int .i64 (commitD n D (P.cs D n)).2) h')
    (hC : P.chg D n ≠ [] → P.now.s < 9223372036854775807 → (commitD n D (P.cs D n)).2 = 0 → ∀ h' S', PgAt h' pb jb db S' n (commitD n D (P.cs D n)).1 (Pg.reset P.now.up) → Step S h S' h' → K (.int .i64 0) h') :
    CallsH Tryz.prog pager_Pager_Commit.id #[.pointer (some ⟨pb, 0, none⟩)] h K := by
  have hn := E.n2
  apply pager_Pager_Commit.calls
  unfold pager_Pager_Commit.W
  obtain ⟨S0, mb, pa, pc, Q, e⟩ := E.ex
  have hn1 := e.j.n1
  refine ⟨_, e.blk.cell' 0 pgC_0, jread_spec (i := 0) e.j (by omega) E.up fun h3 s3 => ⟨_, _, rfl, split_ne (fun e => absurd rfl e) fun _ => ?_⟩⟩
  refine changed_spec (E.sub s3) fun h7 la lc NL => ⟨_, _, _, rfl, ?_⟩
  have s7 := s3.trans NL.sub
  have e7 := e.sub s7
  have hcl := chg_len (P := P) (D := D) (n := n)
  refine ⟨fun x => ∃ (S1 S01 : Nat → Prop) (D' : Dk) (H : Hd), PgEx x pb jb db S1 S01 n D' { P with now := H } mb pa pc Q ∧ Step S h S1 x ∧ HdOk n H ∧ D'.down = false ∧ ∀ h' S', PgAt h' pb jb db S' n D' (Pg.reset H) → Step S h S' h' → K (.int .i64 0) h', ?_, split_dec (fun g => ?_) fun g => ?_⟩
  · rintro x ⟨S1, S01, D', H, e1, st1, okH, up1, hK⟩
    refine ⟨H.c, H.len, e1.blk.cellsAt fun i hi => by rw [Nat.zero_add]; exact pgC_now (by rw [H.len] at hi; exact hi), fun k14 hk14 o15 m15 => ⟨H.len, H.plain, ?_⟩⟩
    have s14 := Sub.upd hk14 o15
    have B0 := e1.blk.sub s14
    have B1 := B0.put 1 H.c
    rw [pgC_setGood] at B1
    have B2 := B1.put 267 [.map (some k14)]
    rw [pgC_setMap] at B2
    have B3 := B2.put 268 [.slice none 0 0]
    rw [pgC_setPts] at B3
    have hne : k14 ≠ pb := fun e' => by have := e1.blk; unfold Blk at this; rw [← e', hk14] at this; cases this
    have kp : ∀ (z : Hp) (o : Nat) (vs : List Value), Keep (fun c => c = pb) z (z.put pb o vs) := fun z o vs => Keep.put _ z o vs rfl
    have k3 := ((s14.keep (fun c => c = pb)).trans (kp _ 1 H.c)).trans ((kp _ 267 [.map (some k14)]).trans (kp _ 268 [.slice none 0 0]))
    obtain ⟨e', st⟩ := e1.fresh hk14 k3 B3 ⟨o15, by rw [put_ne _ _ _ hne, put_ne _ _ _ hne, put_ne _ _ _ hne, Hp.upd_same], m15⟩
    refine ⟨?_, ?_, ?_, hK _ _ ⟨⟨S01, k14, none, 0, [], e'⟩, POk.reset okH, up1⟩ (st1.trans st)⟩
    · rw [H.len]; exact B0.store (by rw [pgC_len]; decide)
    · exact B1.store (by rw [pgC_len]; decide)
    · exact B2.store (by rw [pgC_len]; decide)
  rotate_left
  · have g : P.chg D n = [] := by
      have : ¬ ((P.chg D n).length : Int) > 0 := g
      exact List.eq_nil_of_length_eq_zero (by omega)
    exact ⟨S, S0, D, P.now, e7, Step.sub s7, E.ok.now, E.up, hN g⟩
  have g : P.chg D n ≠ [] := by
    have : ((P.chg D n).length : Int) > 0 := g
    intro e'; rw [e'] at this; exact absurd this (by decide)
  refine ⟨_, by rw [Nat.zero_add]; exact e7.blk.cell' _ pgC_ser, split_eq (fun es => hL g (by omega) h7 s7) fun es => ?_⟩
  have hser : P.now.s < 9223372036854775807 := by have := E.ok.now.ser; omega
  refine ⟨P.now.c, P.now.len, e7.blk.cellsAt fun i hi => by rw [Nat.zero_add]; exact pgC_now (by rw [P.now.len] at hi; exact hi), fun k18 hk18 => ⟨P.now.len, P.now.plain, ?_⟩⟩
  have B18 := Blk.new h7 k18 83 (zeroL Tryz.prog 83)
  have s18 := Sub.upd hk18 (.cells (zeroL Tryz.prog 83).toArray 83 (0, 0))
  have l0 : (zeroL Tryz.prog 83).length = 133 := by rw [z114]; exact headC_len _ _ _
  have B18a := B18.put 0 P.now.c
  rw [setL_all (by rw [P.now.len, l0])] at B18a
  have ew : IntKind.u64.wrap (((P.now.s : Nat) : Int) + 1) = ((P.now.s + 1 : Nat) : Int) := by rw [wrap64]; omega
  have B18b := B18a.put 0 [.int .u64 ((P.now.s + 1 : Nat) : Int)]
  have eup : setL P.now.c 0 [.int .u64 ((P.now.s + 1 : Nat) : Int)] = P.now.up.c := headC_setS _ _ _ _
  rw [eup] at B18b
  have new18 : ∀ {z : Hp} (sz : Sub h7 z) (o : Nat) (us : List Value), Sub h7 (z.put k18 o us) := fun {z} sz o us => (Keep.put (fun c => c = k18) z o us rfl).sub sz fun c e => by rw [e]; exact hk18
  have t18 := new18 (new18 s18 0 P.now.c) 0 [.int .u64 ((P.now.s + 1 : Nat) : Int)]
  refine ⟨by rw [P.now.len]; exact B18.store (by rw [l0]; decide), _, B18a.cell' 0 (headC_0 _ _ _), B18a.store (by rw [P.now.len]; decide), ?_⟩
  rw [ew]
  generalize ((h7.upd k18 (.cells (zeroL Tryz.prog 83).toArray 83 (0, 0))).put k18 0 P.now.c).put k18 0 [.int .u64 ((P.now.s + 1 : Nat) : Int)] = y at B18b t18
  refine bytes_spec (s := P.now.s + 1) (r := P.now.r) (u := P.now.u) (B18b.cellsAt fun i hi => by rw [Nat.zero_add]; rfl) fun h21 s21 => ⟨_, rfl, fun k23 hk23 => ?_⟩
  have t21 := t18.trans s21
  have B21 := B18b.sub s21
  have s23 := Sub.upd hk23 (.cells #[.int .i64 0, .string (tabB (encN (P.now.s + 1) P.now.r P.now.u 128))] 122 (0, 0))
  have O23 : NewR wrC 2 122 h21 (h21.upd k23 (.cells #[.int .i64 0, .string (tabB (encN (P.now.s + 1) P.now.r P.now.u 128))] 122 (0, 0))) (some ⟨k23, 0, none⟩) 1 [(0, P.now.up.bytes)] :=
    ⟨s23, (fun b hb => by obtain ⟨o, s, e⟩ := hb; cases e; exact hk23), ⟨rfl, Nat.le_refl _, .inr ⟨k23, [], rfl, Blk.new _ _ _ _, rfl⟩⟩⟩
  refine ⟨fun a l c i x m => ∃ j : Nat, i = (j : Int) ∧ j ≤ (P.chg D n).length ∧ m = (P.chg D n).length - j ∧ NewR wrC 2 122 h21 x a c ((0, P.now.up.bytes) :: (((P.chg D n).take j).filter fun i => i != 0).map P.pair) ∧ l = ((0, P.now.up.bytes) :: (((P.chg D n).take j).filter fun i => i != 0).map P.pair).length, ⟨_, 0, rfl, Nat.zero_le _, rfl, O23, rfl⟩, ?_⟩
  rintro a l c i x m ⟨j, rfl, hj, rfl, N, rfl⟩
  have ex := e7.sub (t21.trans N.sub)
  refine split_dec (fun gj => ?_) fun gj => ?_
  · have gj : j < (P.chg D n).length := by have : (j : Int) < ((P.chg D n).length : Int) := gj; omega
    obtain ⟨p, hpj⟩ : ∃ p, (P.chg D n)[j]? = some p := ⟨_, List.getElem?_eq_getElem gj⟩
    obtain ⟨kb, ko, ea, hcell⟩ := (NL.own.row.sub (t21.trans N.sub)).get keyC_len (by decide) hpj
    have htk : (P.chg D n).take (j + 1) = (P.chg D n).take j ++ [p] := by rw [List.take_add_one, hpj]; rfl
    refine ⟨by omega, by show (j : Int) < ((P.chg D n).length : Int); omega, kb, ko, ea, _, by rw [Int.toNat_natCast]; exact hcell 0 _ rfl, split_ne (fun ep => ?_) fun ep => ?_⟩
    · have hp0 : p ≠ 0 := by omega
      obtain ⟨_, hdf⟩ := (chg_mem hp0).1 (List.mem_of_getElem? hpj)
      obtain ⟨_, _, s, hsd, _⟩ := diff_pos E.ok.d hdf
      obtain ⟨o, ho, hm⟩ := ex.d
      have hg := mapD_get P.d p
      rw [hsd] at hg
      have hpr : P.pair p = (p, s) := by unfold Pg.pair; rw [hsd]; rfl
      refine ⟨_, by rw [Nat.zero_add]; exact ex.blk.cell' _ pgC_map, mb, o, _, rfl, ho, hm, s, true, .inl ⟨rfl, hg⟩, fun k41 hk41 => ?_⟩
      have B41 := Blk.new x k41 122 (wrC (p, s))
      have fl : (((P.chg D n).take (j + 1)).filter fun i => i != 0).map P.pair = (((P.chg D n).take j).filter fun i => i != 0).map P.pair ++ [(p, s)] := by
        rw [htk, List.filter_append, List.filter_cons_of_pos (by simpa using hp0), List.filter_nil, List.map_append]
        show _ ++ [P.pair p] = _
        rw [hpr]
      have Nx := N.upd (Sub.upd hk41 (.cells (wrC (p, s)).toArray 122 (0, 0)))
      refine ⟨_, B41.slice rfl, fun a' c' z => NewR wrC 2 122 h21 z a' c' ((0, P.now.up.bytes) :: (((P.chg D n).take (j + 1)).filter fun i => i != 0).map P.pair), fun a' c' z hz => ⟨(P.chg D n).length - (j + 1), by omega, j + 1, by rw [wid (by omega) (by omega)]; omega, by omega, rfl, hz, ?_⟩, ?_⟩
      · rw [fl, ← List.cons_append, List.length_append (bs := [(p, s)])]; rfl
      · refine append_row appTCh wrC_len wrC_plain (M := [(p, s)]) Nx rfl rfl (rowC_one _).symm ?_ fun a' c' z hz => by rw [fl, ← List.cons_append]; exact hz
        have h1 := List.length_filter_le (fun i => i != 0) ((P.chg D n).take j)
        rw [List.length_take] at h1
        show (2 * (((((P.chg D n).take j).filter fun i => i != 0).map P.pair).length + 1 + 1) + 768) * 24 ≤ _
        rw [List.length_map]
        omega
    · have hp0 : p = 0 := by omega
      refine ⟨(P.chg D n).length - (j + 1), by omega, j + 1, by rw [wid (by omega) (by omega)]; omega, by omega, rfl, ?_, ?_⟩
      · rw [htk, List.filter_append, hp0, List.filter_cons_of_neg (by simp), List.filter_nil, List.append_nil]; exact N
      · rw [htk, List.filter_append, hp0, List.filter_cons_of_neg (by simp), List.filter_nil, List.append_nil]
  · have : j = (P.chg D n).length := by
      have : ¬ (j : Int) < ((P.chg D n).length : Int) := gj
      omega
    subst this
    rw [List.take_length] at N
    have hcs : (0, P.now.up.bytes) :: ((P.chg D n).filter fun i => i != 0).map P.pair = P.cs D n := rfl
    rw [List.take_length]
    rw [hcs] at N ⊢
    obtain ⟨c1, c2, c3, c4⟩ := cs_ok (P := P) (D := D) E.ok.d hn1
    have sx := s7.trans (t21.trans N.sub)
    refine ⟨_, ex.blk.cell' 0 pgC_0, jcommit_spec ex.j E.up hws N.own.row (by omega) (by unfold Pg.cs; simp) (fun c hc hS => e.j.in_heap hS ((s7.trans t21).none (N.new c hc))) c1 c2 fun h51 S01 ds hperm hsort J51 st51 => ?_⟩
    have hds : ds = P.cs D n := by
      refine List.Perm.eq_of_pairwise (le := fun a b => a.1 ≤ b.1) (fun a b ha hb h1 h2 => ?_) hsort (c4.imp fun h => Nat.le_of_lt h) hperm
      have hab : a.1 = b.1 := Nat.le_antisymm h1 h2
      have ha' := hperm.mem_iff.1 ha
      obtain ⟨a1, a2⟩ := a
      obtain ⟨b1, b2⟩ := b
      have e1 := mem_dget c2 ha'
      have e2 := mem_dget c2 hb
      have hab : a1 = b1 := hab
      subst hab
      rw [e1] at e2; cases e2; rfl
    subst hds
    refine ⟨_, rfl, split_ne (fun ee => hE g hser ee h51 S01 J51 ?_) fun ee => ?_⟩
    · refine ⟨fun c o hc hnS => st51.1 c o (sx c o hc) fun hS => hnS ((e.s c).2 (.inr (.inr (.inl hS)))), fun c hc => (st51.2 c hc).imp (fun hS => (e.s c).2 (.inr (.inr (.inl hS)))) fun hn => sx.none hn⟩
    · obtain ⟨S1, e51, st1⟩ := ex.jstep J51 st51
      have B51 : Blk h51 k18 83 P.now.up.c := (B21.sub N.sub).keep st51.1 fun hS => e.j.in_heap hS (s7.none hk18)
      have Bp := e51.blk.put 134 P.now.up.c
      rw [pgC_setNow] at Bp
      have kp : Keep (fun c => c = pb ∨ c = mb) h51 (h51.put pb 134 P.now.up.c) := Keep.put _ h51 _ _ (.inl rfl)
      have hmpb : mb ≠ pb := e.d.ne e.blk
      obtain ⟨ef, stf⟩ := e51.put (now' := P.now.up) (d' := P.d) kp Bp (e51.d.keep (Keep.put (fun c => c = pb) h51 _ _ rfl) hmpb)
      refine ⟨P.now.up.c, P.now.up.len, B51.cellsAt fun i hi => by rw [Nat.zero_add], P.now.up.len, P.now.up.plain, ?_, S1, S01, _, P.now.up, ef, (Step.sub sx).trans (st1.trans stf), E.ok.now.up hser, commit_up ee, hC g hser ee⟩
      rw [P.now.up.len]
      exact e51.blk.store (by rw [pgC_len]; decide)
end Go.Proofs.YthbogjbcecmopaaGreatDoor
namespace Go.Proofs.YthbogjbcecmopaaGreatDoor
open Go.Gx
set_option maxRecDepth 100000
set_option linter.unusedVariables false

theorem wrs_cut : ∀ (W : List (Nat × ByteArray)) (D : Dk), D.down = false → (D.fuse = 0 ∨ W.length < D.fuse) → wrs D W = ({ D with ws := D.ws ++ W, fuse := D.fuse - W.length }, 0)
  | [], D, _, _ => by show (D, (0 : Int)) = _; rw [List.append_nil]; rfl
  | w :: W, D, hd, hf => by
    have e : D.write w.1 w.2 = { D with ws := D.ws ++ [w], fuse := D.fuse - 1 } := by
      unfold Dk.write
      rw [hd]
      by_cases h0 : D.fuse > 0
      · have : ¬ D.fuse = 1 := by
          rcases hf with h | h
          · omega
          · rw [List.length_cons] at h; omega
        rw [if_pos h0, decide_eq_false this]
      · rw [if_neg h0]
    rw [wrs_cons, if_neg (by rw [hd]; decide), e, wrs_cut W { D with ws := D.ws ++ [w], fuse := D.fuse - 1 } (by exact hd) (by
      rcases hf with h | h
      · exact .inl (by show D.fuse - 1 = 0; omega)
      · exact .inr (by show W.length < D.fuse - 1; rw [List.length_cons] at h; omega))]
    show ({ D with ws := D.ws ++ [w] ++ W, fuse := D.fuse - 1 - W.length }, (0 : Int)) = _
    rw [List.append_assoc, List.length_cons, Nat.sub_sub, Nat.add_comm 1]; rfl
theorem wrs_trip : ∀ (W : List (Nat × ByteArray)) (D : Dk), D.down = false → 1 ≤ D.fuse → D.fuse ≤ W.length → (wrs D W).1 = { D with ws := D.ws ++ W.take D.fuse, fuse := 0, down := true }
  | [], D, _, h1, h2 => by simp at h2; omega
  | w :: W, D, hd, h1, h2 => by
    rw [wrs_cons, if_neg (by rw [hd]; decide)]
    by_cases hf : D.fuse = 1
    · have e : D.write w.1 w.2 = { D with ws := D.ws ++ [w], fuse := 0, down := true } := by
        unfold Dk.write
        rw [hf, if_pos (by decide)]; rfl
      rw [e, hf]
      cases W with
      | nil => rfl
      | cons v W => rw [wrs_cons, if_pos rfl]; rfl
    · have e : D.write w.1 w.2 = { D with ws := D.ws ++ [w], fuse := D.fuse - 1 } := by
        unfold Dk.write
        rw [if_pos (by omega), decide_eq_false hf, hd]
      rw [e, wrs_trip W { D with ws := D.ws ++ [w], fuse := D.fuse - 1 } (by exact hd) (by show 1 ≤ D.fuse - 1; omega) (by show D.fuse - 1 ≤ W.length; rw [List.length_cons] at h2; omega)]
      show { D with ws := D.ws ++ [w] ++ W.take (D.fuse - 1), fuse := 0, down := true } = _
      have : D.fuse = (D.fuse - 1) + 1 := by omega
      conv => rhs; rw [this, List.take_succ_cons]
      rw [List.append_assoc]; rfl
theorem phase {D : Dk} (hd : D.down = false) (hw : D.ws = []) (W : List (Nat × ByteArray)) : (∃ f, flD (wrs D W) = (⟨settleL D.l W, [], f, false⟩, 0)) ∨ ∃ k, (flD (wrs D W)).1 = ⟨D.l, W.take k, 0, true⟩ ∧ (flD (wrs D W)).2 ≠ 0 ∧ 1 ≤ k := by
  by_cases h : D.fuse = 0 ∨ W.length < D.fuse
  · left
    rw [wrs_cut W D hd h, flD_on (by exact hd)]
    unfold Dk.flush
    simp only [hw, hd, List.nil_append]
    exact ⟨_, rfl⟩
  · right
    have h1 : 1 ≤ D.fuse ∧ D.fuse ≤ W.length := by omega
    have e := wrs_trip W D hd h1.1 h1.2
    refine ⟨D.fuse, ?_⟩
    unfold flD
    by_cases h2 : (wrs D W).2 ≠ 0
    · rw [if_pos h2]
      exact ⟨by rw [e, hw, List.nil_append], h2, h1.1⟩
    · rw [if_neg h2, if_pos (by rw [e])]
      exact ⟨by rw [e, hw, List.nil_append], by show (10 : Int) ≠ 0; decide, h1.1⟩
inductive Ends (n : Nat) (l : List ByteArray) (ds : List Ch) : Dk → Int → Prop
  | log (k : Nat) (e : Int) (he : e ≠ 0) : Ends n l ds ⟨l, (logW ds).take k, 0, true⟩ e
  | mark (e : Int) (he : e ≠ 0) : Ends n l ds ⟨settleL l (logW ds), [(0, markB ds)], 0, true⟩ e
  | own (k : Nat) (e : Int) (he : e ≠ 0) : Ends n l ds ⟨settleL (settleL l (logW ds)) [(0, markB ds)], (ownW n ds).take k, 0, true⟩ e
  | done (e : Int) (he : e ≠ 0) : Ends n l ds ⟨settleL (settleL (settleL l (logW ds)) [(0, markB ds)]) (ownW n ds), [(0, zeroB 256)], 0, true⟩ e
  | all (f : Nat) : Ends n l ds ⟨settleL (settleL (settleL (settleL l (logW ds)) [(0, markB ds)]) (ownW n ds)) [(0, zeroB 256)], [], f, false⟩ 0
theorem take_one {w : Nat × ByteArray} {k : Nat} (h : 1 ≤ k) : [w].take k = [w] := List.take_of_length_le h
theorem commit_ends {D : Dk} (hd : D.down = false) (hw : D.ws = []) (n : Nat) (ds : List Ch) : Ends n D.l ds (commitD n D ds).1 (commitD n D ds).2 := by
  have stop : ∀ {r : Dk × Int} {f : Dk → Dk × Int}, r.2 ≠ 0 → andD r f = r := fun h => if_neg h
  have on : ∀ {r : Dk × Int} {f : Dk → Dk × Int}, r.2 = 0 → andD r f = f r.1 := fun h => if_pos h
  unfold commitD
  rcases phase hd hw (logW ds) with ⟨f1, e1⟩ | ⟨k, e1, he, hk⟩
  · rw [e1, on rfl]
    dsimp only
    rcases phase (D := ⟨settleL D.l (logW ds), [], f1, false⟩) rfl rfl [(0, markB ds)] with ⟨f2, e2⟩ | ⟨k, e2, he, hk⟩
    · rw [e2, on rfl]
      dsimp only
      rcases phase (D := ⟨settleL (settleL D.l (logW ds)) [(0, markB ds)], [], f2, false⟩) rfl rfl (ownW n ds) with ⟨f3, e3⟩ | ⟨k, e3, he, hk⟩
      · rw [e3, on rfl]
        dsimp only
        rcases phase (D := ⟨settleL (settleL (settleL D.l (logW ds)) [(0, markB ds)]) (ownW n ds), [], f3, false⟩) rfl rfl [(0, zeroB 256)] with ⟨f4, e4⟩ | ⟨k, e4, he, hk⟩
        · rw [e4]; exact Ends.all f4
        · rw [e4, take_one hk]; exact Ends.done _ he
      · rw [stop he, e3]; exact Ends.own k _ he
    · rw [stop he, e2, take_one hk]; exact Ends.mark _ he
  · rw [stop he, e1]; exact Ends.log k _ he
theorem step_rest2 (S : Nat → Prop) (x : Hp) : ∃ hl, Sub hl x ∧ (∀ S' x', Step S x S' x' → Sub hl x') ∧ Keep S x hl := by
  refine ⟨fun c => @ite _ (S c) (Classical.propDecidable _) none (x c), fun c o e => ?_, fun S' x' st c o e => ?_, fun c o e hn => ?_⟩
  · by_cases hs : S c
    · simp only [hs, if_true] at e; cases e
    · simp only [hs, if_false] at e; exact e
  · by_cases hs : S c
    · simp only [hs, if_true] at e; cases e
    · simp only [hs, if_false] at e; exact st.1 c o e hs
  · simp only [hn, if_false]; exact e
end Go.Proofs.YthbogjbcecmopaaGreatDoor
namespace Go.Proofs.YthbogjbcecmopaaGreatDoor
open Go.Gx
set_option maxRecDepth 100000
set_option linter.unusedVariables false

theorem orBit_nat (b : UInt8) {k : Nat} (hk : k < 8) : (orBit b k).toNat = b.toNat ||| 2 ^ k := by
  have hb : b.toNat < 256 := UInt8.toNat_lt b
  have hp : 2 ^ k < 256 := by have := pow_lt8 hk; omega
  have e1 : IntKind.u8.wrap (ishl IntKind.u8 1 ((k : Nat) : Int)) = ((2 ^ k : Nat) : Int) := shl1 ⟨k, hk⟩
  have e2 : ior IntKind.u8 ((b.toNat : Nat) : Int) ((2 ^ k : Nat) : Int) = ((b.toNat ||| 2 ^ k : Nat) : Int) := by
    show (((BitVec.ofInt 8 ((b.toNat : Nat) : Int) ||| BitVec.ofInt 8 ((2 ^ k : Nat) : Int)).toNat : Nat) : Int) = _
    rw [BitVec.ofInt_natCast, BitVec.ofInt_natCast, BitVec.toNat_or, BitVec.toNat_ofNat, BitVec.toNat_ofNat, Nat.mod_eq_of_lt hb, Nat.mod_eq_of_lt hp]
  have hor : b.toNat ||| 2 ^ k < 256 := Nat.or_lt_two_pow (n := 8) hb hp
  unfold orBit
  rw [e1, e2, u8c, Int.toNat_natCast, Nat.mod_eq_of_lt hor]
  generalize b.toNat ||| 2 ^ k = m at hor ⊢
  simp; omega
def bitL (L : List UInt8) (i : Nat) : Bool := (L.getD (i / 8) 0).toNat.testBit (i % 8)
theorem bit_set {L : List UInt8} {p : Nat} (hp : p / 8 < L.length) (i : Nat) : bitL (setBit L p) i = (decide (i = p) || bitL L i) := by
  unfold bitL setBit
  rw [List.getD_eq_getElem?_getD, List.getD_eq_getElem?_getD]
  by_cases e : i / 8 = p / 8
  · rw [e, List.getElem?_set_self hp]
    show (orBit (L.getD (p / 8) 0) (p % 8)).toNat.testBit (i % 8) = _
    rw [orBit_nat _ (Nat.mod_lt _ (by decide)), Nat.testBit_or, Nat.testBit_two_pow, List.getD_eq_getElem?_getD, Bool.or_comm]
    congr 1
    by_cases h : i = p
    · rw [decide_eq_true h, decide_eq_true (by rw [h])]
    · rw [decide_eq_false h, decide_eq_false (by omega)]
  · rw [List.getElem?_set_ne (Ne.symm e), decide_eq_false (fun h => e (by rw [h])), Bool.false_or, List.getD_eq_getElem?_getD]
theorem bit_fold : ∀ (ds : List Ch) (L : List UInt8), L.length = 256 → (∀ c ∈ ds, c.1 < 2048) → ∀ i, bitL (ds.foldl (fun L c => setBit L c.1) L) i = (bitL L i || ds.any fun c => c.1 == i)
  | [], L, _, _, i => by rw [List.foldl_nil, List.any_nil, Bool.or_false]
  | c :: ds, L, hl, hc, i => by
    have h1 := hc c List.mem_cons_self
    rw [List.foldl_cons, bit_fold ds (setBit L c.1) (by rw [setBit_len]; exact hl) (fun d hd => hc d (List.mem_cons_of_mem _ hd)) i, bit_set (by omega), List.any_cons]
    have : (c.1 == i) = decide (i = c.1) := by
      by_cases h : i = c.1
      · rw [decide_eq_true h, h]; simp
      · rw [decide_eq_false h]; simpa using fun e => h e.symm
    rw [this]
    cases decide (i = c.1) <;> cases bitL L i <;> simp
theorem bitT_nat (s : ByteArray) (i : Nat) : bitT s i = (byteN s (i / 8)).testBit (i % 8) := by
  unfold bitT
  have hb := byteN_lt s (i / 8)
  rw [byteAt_N, shrN _ _ _ (by show i % 8 ≤ 8; omega), and1 _ (Nat.lt_of_le_of_lt (Nat.div_le_self _ _) hb), u8c, Nat.testBit_eq_decide_div_mod_eq]
  generalize byteN s (i / 8) / 2 ^ (i % 8) = m
  rcases Nat.mod_two_eq_zero_or_one m with h | h <;> rw [h] <;> rfl
theorem bit_mark {ds : List Ch} (hc : ∀ c ∈ ds, c.1 < 128) (i : Nat) : bitT (markB ds) i = ds.any fun c => c.1 == i := by
  rw [bitT_nat]
  have e : (byteN (markB ds) (i / 8)).testBit (i % 8) = bitL (markL ds) i := by
    unfold bitL byteN
    rw [List.getD_eq_getElem?_getD]; rfl
  rw [e]
  unfold markL
  rw [bit_fold ds _ (List.length_replicate ..) (fun c h => by have := hc c h; omega) i]
  have : bitL (List.replicate 256 0) i = false := by
    unfold bitL
    rw [List.getD_eq_getElem?_getD, List.getElem?_replicate]
    split <;> simp
  rw [this, Bool.false_or]
theorem told_mark {n : Nat} {ds : List Ch} (hn : n ≤ 128) (hc : ∀ c ∈ ds, c.1 < n) (hs : ds.Pairwise fun a b => a.1 < b.1) : (bitsOf (markB ds)).filter (fun i => decide (i < n)) = ds.map (·.1) := by
  have h1 : ((bitsOf (markB ds)).filter fun i => decide (i < n)).Pairwise (fun x y => x < y) := (List.pairwise_lt_range.sublist List.filter_sublist).sublist List.filter_sublist
  have h2 : (ds.map (·.1)).Pairwise (fun x y => x < y) := by rw [List.pairwise_map]; exact hs
  have nd : ∀ {l : List Nat}, l.Pairwise (fun x y => x < y) → l.Nodup := fun h => by rw [List.nodup_iff_pairwise_ne]; exact h.imp fun h => Nat.ne_of_lt h
  refine List.Perm.eq_of_pairwise (le := fun x y => x < y) (fun a b _ _ h1 h2 => absurd h1 (Nat.lt_asymm h2)) h1 h2 ?_
  refine (List.perm_ext_iff_of_nodup (nd h1) (nd h2)).2 fun a => ?_
  unfold bitsOf
  rw [List.mem_filter, List.mem_filter, List.mem_range, bit_mark fun c h => by have := hc c h; omega]
  rw [List.any_eq_true, List.mem_map]
  constructor
  · rintro ⟨⟨_, c, hc1, hc2⟩, _⟩
    exact ⟨c, hc1, by simpa using hc2⟩
  · rintro ⟨c, hc1, rfl⟩
    have := hc c hc1
    exact ⟨⟨by omega, c, hc1, by simp⟩, decide_eq_true this⟩
def logC (D : Dk) (is : List Nat) : List Ch := is.map fun i => (i, D.page (1 + 4 * i))
def told (n : Nat) (D : Dk) : List Nat := (bitsOf (D.read 0)).filter fun i => decide (i < n)
def recov (n : Nat) (D : Dk) : Dk := if told n D = [] then D else ⟨settleL (settleL D.l (ownW n (logC D (told n D)))) [(0, zeroB 256)], [], 0, false⟩
theorem page_log (p : Nat) : ∀ (ds : List Ch) (l : List ByteArray), (∀ c ∈ ds, c.2.size = 1024 ∧ 1 + 4 * c.1 + 4 ≤ l.length) → pageL (settleL l (logW ds)) (1 + 4 * p) = updP ds p (pageL l (1 + 4 * p))
  | [], _, _ => rfl
  | c :: ds, l, h => by
    obtain ⟨hc1, hc2⟩ := h c List.mem_cons_self
    have e : settleL l (logW (c :: ds)) = settleL (settleL l (parts (1 + 4 * c.1) c.2)) (logW ds) := by
      show settleL l (parts (1 + 4 * c.1) c.2 ++ logW ds) = _
      exact settle_append _ _ _
    rw [e, page_log p ds _ (fun d hd => ⟨(h d (List.mem_cons_of_mem _ hd)).1, by rw [settleL_len]; exact (h d (List.mem_cons_of_mem _ hd)).2⟩)]
    show updP ds p _ = updP ds p (if c.1 = p then c.2 else _)
    by_cases ec : c.1 = p
    · rw [if_pos ec, ← ec, page_parts hc1 hc2]
    · rw [if_neg ec, page_other fun w hw => by have := parts_mem hw; omega]
theorem read_L {D : Dk} (hw : D.ws = []) (i : Nat) : D.read i = D.l.getD i (bytesL []) := by unfold Dk.read; rw [hw]; rfl
structure Chs (n : Nat) (l : List ByteArray) (ds : List Ch) : Prop where
  ok : ∀ c ∈ ds, c.1 < n ∧ c.2.size = 1024
  nd : (ds.map (·.1)).Nodup
  inc : ds.Pairwise fun a b => a.1 < b.1
  ne : ds ≠ []
  n1 : n ≤ 128
  len : 8 * n + 1 ≤ l.length
  mark : l.getD 0 (bytesL []) = zeroB 256
variable {n : Nat} {l : List ByteArray} {ds : List Ch}
theorem recov_mark (C : Chs n l ds) {W : List (Nat × ByteArray)} (hW : ∀ w ∈ W, w ∈ ownW n ds) (f : Nat) (d : Bool) (p : Nat) :
    (recov n ⟨settleL (settleL (settleL l (logW ds)) [(0, markB ds)]) W, [], f, d⟩).own n p = updP ds p (pageL l (1 + 4 * (n + p))) := by
  have n1 := C.n1
  have len := C.len
  have hge : ∀ w ∈ W, 1 + 4 * n ≤ w.1 := fun w hw => own_mem (hW w hw)
  have hrd : (Dk.mk (settleL (settleL (settleL l (logW ds)) [(0, markB ds)]) W) [] f d).read 0 = markB ds := by
    rw [read_L rfl]
    apply getD_of
    show (settleL (settleL (settleL l (logW ds)) [(0, markB ds)]) W)[0]? = _
    rw [settle_other W _ 0 fun w hw => by have := hge w hw; omega]
    show (List.set _ 0 _)[0]? = _
    rw [List.getElem?_set_self]
    rw [settleL_len]; omega
  have ht : told n ⟨settleL (settleL (settleL l (logW ds)) [(0, markB ds)]) W, [], f, d⟩ = ds.map (·.1) := by
    unfold told
    rw [hrd]
    exact told_mark n1 (fun c hc => (C.ok c hc).1) C.inc
  have hne : ds.map (·.1) ≠ [] := by simpa using C.ne
  unfold recov
  rw [ht, if_neg hne]
  have hlog : logC ⟨settleL (settleL (settleL l (logW ds)) [(0, markB ds)]) W, [], f, d⟩ (ds.map (·.1)) = ds := by
    unfold logC
    rw [List.map_map]
    conv => rhs; rw [← List.map_id ds]
    refine List.map_congr_left fun c hc => ?_
    show (c.1, Dk.page _ (1 + 4 * c.1)) = c
    have hc1 := (C.ok c hc).1
    rw [page_L rfl]
    show (c.1, pageL (settleL (settleL (settleL l (logW ds)) [(0, markB ds)]) W) (1 + 4 * c.1)) = c
    rw [page_other fun w hw => by have := hge w hw; omega, page_other fun w hw => by rw [List.mem_singleton.1 hw]; show 0 < _ ∨ _; omega,
      page_log c.1 ds l fun e he => ⟨(C.ok e he).2, by have := (C.ok e he).1; omega⟩, updP_mem (s := c.2) hc C.nd]
  rw [hlog]
  unfold Dk.own
  rw [page_L rfl]
  show pageL (settleL (settleL (settleL (settleL (settleL l (logW ds)) [(0, markB ds)]) W) (ownW n ds)) [(0, zeroB 256)]) (1 + 4 * (n + p)) = _
  rw [page_other fun w hw => by rw [List.mem_singleton.1 hw]; show 0 < _ ∨ _; omega, page_own n p ds _ (fun c hc => ⟨(C.ok c hc).2, (C.ok c hc).1⟩) (by simp only [settleL_len]; exact len)]
  by_cases hp : ∃ s, (p, s) ∈ ds
  · obtain ⟨s, hs⟩ := hp
    rw [updP_mem hs C.nd, updP_mem hs C.nd]
  · have hno : ∀ c ∈ ds, c.1 ≠ p := fun c hc e => hp ⟨c.2, by rw [← e]; exact hc⟩
    rw [updP_none hno, updP_none hno]
    have hoth : ∀ w ∈ W, w.1 < 1 + 4 * (n + p) ∨ 1 + 4 * (n + p) + 4 ≤ w.1 := fun w hw => by
      have h1 := hW w hw
      unfold ownW at h1
      obtain ⟨c, hc, hw2⟩ := List.mem_flatMap.1 h1
      have := parts_mem hw2
      have := hno c hc
      omega
    rw [page_other hoth, page_other fun w hw => by rw [List.mem_singleton.1 hw]; show 0 < _ ∨ _; omega, page_other fun w hw => by have := log_mem (fun c hc => (C.ok c hc).1) hw; omega]
theorem recov_none {l2 : List ByteArray} (hm : l2.getD 0 (bytesL []) = zeroB 256) (f : Nat) (d : Bool) : recov n ⟨l2, [], f, d⟩ = ⟨l2, [], f, d⟩ := by
  unfold recov
  rw [if_pos]
  unfold told
  rw [read_L rfl]
  show (bitsOf (l2.getD 0 (bytesL []))).filter _ = []
  rw [hm, bits_zero]; rfl
theorem sub_one {α : Type} {w : α} {W : List α} (h : W.Sublist [w]) : W = [] ∨ W = [w] := by
  cases W with
  | nil => exact .inl rfl
  | cons v W =>
    have := h.length_le
    have h2 : W = [] := List.eq_nil_of_length_eq_zero (by simp at this ⊢; omega)
    subst h2
    have h3 := h.subset List.mem_cons_self
    rw [List.mem_singleton.1 h3]; exact .inr rfl
theorem torn (C : Chs n l ds) {D' : Dk} {e : Int} (E : Ends n l ds D' e) {W : List (Nat × ByteArray)} (hW : W.Sublist D'.ws) (f : Nat) (d : Bool) :
    (∀ p, (recov n ⟨settleL D'.l W, [], f, d⟩).own n p = updP ds p (pageL l (1 + 4 * (n + p)))) ∨ (e ≠ 0 ∧ ∀ p, (recov n ⟨settleL D'.l W, [], f, d⟩).own n p = pageL l (1 + 4 * (n + p))) := by
  have len := C.len
  have n1 := C.n1
  have own : ∀ {l2 : List ByteArray} {p : Nat}, (Dk.mk l2 [] f d).own n p = pageL l2 (1 + 4 * (n + p)) := fun {l2 p} => page_L rfl _
  have lgm : ∀ {w : Nat × ByteArray}, w ∈ logW ds → 1 ≤ w.1 ∧ w.1 < 1 + 4 * n := fun hw => log_mem (fun c hc => (C.ok c hc).1) hw
  cases E with
  | log k _ he =>
    have hs : ∀ w ∈ W, 1 ≤ w.1 ∧ w.1 < 1 + 4 * n := fun w hw => lgm (List.mem_of_mem_take (hW.subset hw))
    right
    refine ⟨he, fun p => ?_⟩
    show (recov n ⟨settleL l W, [], f, d⟩).own n p = _
    rw [recov_none (by rw [getD_eq (settle_other W l 0 fun w hw => by have := hs w hw; omega)]; exact C.mark), own, page_other fun w hw => by have := hs w hw; omega]
  | mark _ he =>
    have hW : W.Sublist [(0, markB ds)] := hW
    rcases sub_one hW with rfl | rfl
    · right
      refine ⟨he, fun p => ?_⟩
      show (recov n ⟨settleL l (logW ds), [], f, d⟩).own n p = _
      rw [recov_none (by rw [getD_eq (settle_other (logW ds) l 0 fun w hw => by have := lgm hw; omega)]; exact C.mark), own, page_other fun w hw => by have := lgm hw; omega]
    · left
      exact fun p => recov_mark C (W := []) (fun w hw => by cases hw) f d p
  | own k _ he =>
    left
    exact fun p => recov_mark C (fun w hw => List.mem_of_mem_take (hW.subset hw)) f d p
  | done _ he =>
    have hW : W.Sublist [(0, zeroB 256)] := hW
    left
    rcases sub_one hW with rfl | rfl
    · exact fun p => recov_mark C (W := ownW n ds) (fun w hw => hw) f d p
    · intro p
      show (recov n ⟨settleL (settleL (settleL (settleL l (logW ds)) [(0, markB ds)]) (ownW n ds)) [(0, zeroB 256)], [], f, d⟩).own n p = _
      rw [recov_none (by
        apply getD_of
        show (List.set _ 0 _)[0]? = _
        rw [List.getElem?_set_self]
        simp only [settleL_len]; omega), own]
      rw [page_other fun w hw => by rw [List.mem_singleton.1 hw]; show 0 < _ ∨ _; omega, page_own n p ds _ (fun c hc => ⟨(C.ok c hc).2, (C.ok c hc).1⟩) (by simp only [settleL_len]; exact len),
        page_other fun w hw => by rw [List.mem_singleton.1 hw]; show 0 < _ ∨ _; omega, page_other fun w hw => by have := lgm hw; omega]
  | all g =>
    have hW : W.Sublist [] := hW
    have := List.sublist_nil.1 hW
    subst this
    left
    intro p
    show (recov n ⟨settleL (settleL (settleL (settleL l (logW ds)) [(0, markB ds)]) (ownW n ds)) [(0, zeroB 256)], [], f, d⟩).own n p = _
    rw [recov_none (by
      apply getD_of
      show (List.set _ 0 _)[0]? = _
      rw [List.getElem?_set_self]
      simp only [settleL_len]; omega), own]
    rw [page_other fun w hw => by rw [List.mem_singleton.1 hw]; show 0 < _ ∨ _; omega, page_own n p ds _ (fun c hc => ⟨(C.ok c hc).2, (C.ok c hc).1⟩) (by simp only [settleL_len]; exact len),
      page_other fun w hw => by rw [List.mem_singleton.1 hw]; show 0 < _ ∨ _; omega, page_other fun w hw => by have := lgm hw; omega]
end Go.Proofs.YthbogjbcecmopaaGreatDoor
namespace Go.Proofs.YthbogjbcecmopaaGreatDoor
open Go.Gx
set_option maxRecDepth 100000
set_option linter.unusedVariables false

theorem read_ws {D : Dk} {W : List (Nat × ByteArray)} {j : Nat} (h : ∀ w ∈ W, w.1 ≠ j) : ({ D with ws := W } : Dk).read j = D.l.getD j (bytesL []) := by
  unfold Dk.read
  show W.foldl (pick j) (D.l.getD j (bytesL [])) = _
  generalize D.l.getD j (bytesL []) = s
  induction W with
  | nil => rfl
  | cons w W ih =>
    rw [List.foldl_cons]
    have : pick j s w = s := by unfold pick; rw [if_neg (h w List.mem_cons_self)]
    rw [this]; exact ih fun v hv => h v (List.mem_cons_of_mem _ hv)
theorem page_ws {D : Dk} {W : List (Nat × ByteArray)} {a : Nat} (h : ∀ w ∈ W, w.1 < a ∨ a + 4 ≤ w.1) : ({ D with ws := W } : Dk).page a = pageL D.l a := by
  unfold Dk.page pageL secs
  unfold Dk.look Dk.look Dk.look Dk.look Dk.look
  rw [read_ws fun w hw => by have := h w hw; omega, read_ws fun w hw => by have := h w hw; omega, read_ws fun w hw => by have := h w hw; omega, read_ws fun w hw => by have := h w hw; omega, List.nil_append]; rfl
structure OpS (h : Hp) (S S' : Nat → Prop) (db k1 k2 k3 k26 k27 k28 k n : Nat) (mark : ByteArray) (D : Dk) (b : Bool) (x : Hp) : Prop where
  j : JAt x k26 db S' n D
  nw : ∀ c, S' c → S c ∨ h c = none
  b1 : Blk x k1 3 [.int .i64 (n : Nat)]
  b2 : Blk x k2 63 [.pointer none]
  b3 : Blk x k3 29 [.int .i64 0]
  b27 : Blk x k27 63 [.pointer (some ⟨k26, 0, none⟩)]
  b28 : Blk x k28 4 [.bool b]
  bk : Blk x k 9 [.string mark]
  s1 : ¬ S' k1
  s2 : ¬ S' k2
  s3 : ¬ S' k3
  s27 : ¬ S' k27
  s28 : ¬ S' k28
  sk : ¬ S' k
  kp : Keep S h x
  h2 : h k2 = none
  h3 : h k3 = none
  h28 : h k28 = none
  e1 : k28 ≠ k1
  e2 : k28 ≠ k2
  e3 : k28 ≠ k3
  e27 : k28 ≠ k27
  ek : k28 ≠ k
  e23 : k2 ≠ k3
variable {h : Hp} {S S' : Nat → Prop} {db k1 k2 k3 k26 k27 k28 k n : Nat} {mark : ByteArray} {D : Dk} {b : Bool} {x : Hp}
theorem OpS.step {S2 : Nat → Prop} {D' : Dk} {x' : Hp} (O : OpS h S S' db k1 k2 k3 k26 k27 k28 k n mark D b x) (J : JAt x' k26 db S2 n D') (st : Step S' x S2 x') : OpS h S S2 db k1 k2 k3 k26 k27 k28 k n mark D' b x' := by
  have kp' : Keep S h x' := fun c o hc hn => st.1 c o (O.kp c o hc hn) fun hs => (O.nw c hs).elim hn fun e => by rw [hc] at e; cases e
  refine ⟨J, fun c hc => ?_, O.b1.keep st.1 O.s1, O.b2.keep st.1 O.s2, O.b3.keep st.1 O.s3, O.b27.keep st.1 O.s27, O.b28.keep st.1 O.s28, O.bk.keep st.1 O.sk, (st.out O.b1 O.s1).2, (st.out O.b2 O.s2).2, (st.out O.b3 O.s3).2, (st.out O.b27 O.s27).2, (st.out O.b28 O.s28).2, (st.out O.bk O.sk).2, kp', O.h2, O.h3, O.h28, O.e1, O.e2, O.e3, O.e27, O.ek, O.e23⟩
  by_cases hS : S c
  · exact .inl hS
  · rcases st.2 c hc with h' | h'
    · exact O.nw c h'
    · right
      cases e : h c with
      | none => rfl
      | some o => rw [O.kp c o e hS] at h'; cases h'
theorem OpS.sub {x' : Hp} (O : OpS h S S' db k1 k2 k3 k26 k27 k28 k n mark D b x) (s : Sub x x') : OpS h S S' db k1 k2 k3 k26 k27 k28 k n mark D b x' := O.step (O.j.sub s) (Step.sub s)
theorem OpS.set28 (O : OpS h S S' db k1 k2 k3 k26 k27 k28 k n mark D b x) : OpS h S S' db k1 k2 k3 k26 k27 k28 k n mark D true (x.put k28 0 [.bool true]) ∧ StoreOk x k28 0 1 := by
  have kz : Keep (fun c => c = k28) x (x.put k28 0 [.bool true]) := Keep.put _ _ _ _ rfl
  refine ⟨⟨O.j.out kz fun c hc e => O.s28 (e ▸ hc), O.nw, O.b1.keep kz (Ne.symm O.e1), O.b2.keep kz (Ne.symm O.e2), O.b3.keep kz (Ne.symm O.e3), O.b27.keep kz (Ne.symm O.e27), O.b28.put 0 [.bool true], O.bk.keep kz (Ne.symm O.ek), O.s1, O.s2, O.s3, O.s27, O.s28, O.sk, (fun c o hc hn => kz c o (O.kp c o hc hn) fun e => by rw [e, O.h28] at hc; cases hc), O.h2, O.h3, O.h28, O.e1, O.e2, O.e3, O.e27, O.ek, O.e23⟩, O.b28.store (Nat.le_refl 1)⟩
theorem OpS.fin {d : Nat} (O : OpS h S S' db k1 k2 k3 k26 k27 k28 k n mark D b x) (hd : x d = some (.deferred (some []))) (nd : ¬ S' d) (hn : ∀ o, h d = some o → S d) :
    StoreOk x k2 0 1 ∧ StoreOk (x.put k2 0 [.pointer (some ⟨k26, 0, none⟩)]) k3 0 1 ∧ ((x.put k2 0 [.pointer (some ⟨k26, 0, none⟩)]).put k3 0 [.int .i64 0]) d = some (.deferred (some [])) ∧
      (((x.put k2 0 [.pointer (some ⟨k26, 0, none⟩)]).put k3 0 [.int .i64 0]).del d).cell k2 0 = some (.pointer (some ⟨k26, 0, none⟩)) ∧ (((x.put k2 0 [.pointer (some ⟨k26, 0, none⟩)]).put k3 0 [.int .i64 0]).del d).cell k3 0 = some (.int .i64 0) ∧
      JAt (((x.put k2 0 [.pointer (some ⟨k26, 0, none⟩)]).put k3 0 [.int .i64 0]).del d) k26 db S' n D ∧ Step S h S' (((x.put k2 0 [.pointer (some ⟨k26, 0, none⟩)]).put k3 0 [.int .i64 0]).del d) := by
  have d2 : d ≠ k2 := fun e => by have := O.b2; unfold Blk at this; rw [← e, hd] at this; cases this
  have d3 : d ≠ k3 := fun e => by have := O.b3; unfold Blk at this; rw [← e, hd] at this; cases this
  have P2 := O.b2.put 0 [.pointer (some ⟨k26, 0, none⟩)]
  have P3 := O.b3.put_ne 0 [.pointer (some ⟨k26, 0, none⟩)] (Ne.symm O.e23)
  have Q2 := P2.put_ne 0 [.int .i64 0] O.e23
  have Q3 := P3.put 0 [.int .i64 0]
  have del : ∀ {y : Hp} {b : Nat} {t : TypeId} {vs : List Value}, Blk y b t vs → b ≠ d → Blk (y.del d) b t vs := fun H e => by
    unfold Blk Hp.del
    rw [if_neg e]; exact H
  have kz : Keep (fun c => c = k2 ∨ c = k3 ∨ c = d) x (((x.put k2 0 [.pointer (some ⟨k26, 0, none⟩)]).put k3 0 [.int .i64 0]).del d) := fun c o hc hne => by
    unfold Hp.del
    rw [if_neg fun e => hne (.inr (.inr e)), Gx.put_ne _ _ _ fun e => hne (.inr (.inl e)), Gx.put_ne _ _ _ fun e => hne (.inl e)]; exact hc
  refine ⟨O.b2.store (Nat.le_refl 1), P3.store (Nat.le_refl 1), by rw [Gx.put_ne _ _ _ d3, Gx.put_ne _ _ _ d2]; exact hd, (del Q2 (Ne.symm d2)).cell' 0 rfl, (del Q3 (Ne.symm d3)).cell' 0 rfl, O.j.out kz ?_, fun c o hc hn2 => kz c o (O.kp c o hc hn2) ?_, O.nw⟩
  · rintro c hc (rfl | rfl | rfl)
    · exact O.s2 hc
    · exact O.s3 hc
    · exact nd hc
  · rintro (rfl | rfl | rfl)
    · rw [O.h2] at hc; cases hc
    · rw [O.h3] at hc; cases hc
    · exact hn2 (hn o hc)
def isK (n : Nat) (mark : ByteArray) (j : Nat) : List Nat := ((bitsOf mark).take j).filter fun i => decide (i < n)
theorem isK_len (n : Nat) (mark : ByteArray) (j : Nat) : (isK n mark j).length ≤ 128 := by
  have h1 := List.length_filter_le (fun i => decide (i < n)) ((bitsOf mark).take j)
  have h2 : (bitsOf mark).length ≤ 128 := Nat.le_trans (List.length_filter_le _ _) (by rw [List.length_range]; exact Nat.le_refl _)
  rw [List.length_take] at h1
  unfold isK
  omega
theorem isK_step {n : Nat} {mark : ByteArray} {j i : Nat} (hi : (bitsOf mark)[j]? = some i) : isK n mark (j + 1) = isK n mark j ++ if i < n then [i] else [] := by
  unfold isK
  rw [List.take_add_one, hi, List.filter_append]
  congr 1
  show [i].filter _ = _
  by_cases h : i < n
  · simp [h]
  · simp [h]
def dskK (n : Nat) (D : Dk) (is : List Nat) : Dk := { D with ws := ownW n (logC D is) }
set_option maxHeartbeats 4000000 in
theorem jopen_gen {h : Hp} {db : Nat} {S : Nat → Prop} {D : Dk} {K : Value → Hp → Prop} (H : DkAt h db S D) (hd : D.down = false) (hf : D.fuse = 0) (hw : D.ws = []) (n : Nat) (h1 : 1 ≤ n) (h2 : n ≤ 128) (hl : 8 * n + 1 ≤ D.l.length) (hm : 16 ≤ (D.read 0).size)
    (hK : ∀ h' jb S', JAt h' jb db S' n (recov n D) → Step S h S' h' → K (.tuple #[.pointer (some ⟨jb, 0, none⟩), .int .i64 0]) h') : CallsH Tryz.prog journal_Open.id #[.pointer (some ⟨db, 0, none⟩), .int .i64 (n : Nat)] h K := by
  have hll := H.len
  apply journal_Open.calls
  unfold journal_Open.W
  intro k1 hk1 k2 hk2 k3 hk3
  have d21 : k2 ≠ k1 := fun e => by rw [e, Hp.upd_same] at hk2; cases hk2
  have B1 : Blk (((h.upd k1 (.cells #[.int .i64 (n : Nat)] 3 (0, 0))).upd k2 (.cells #[.pointer none] 63 (0, 0))).upd k3 (.cells #[.int .i64 0] 29 (0, 0))) k1 3 [.int .i64 (n : Nat)] := ((Blk.new h k1 3 _).upd hk2 _).upd hk3 _
  have B2 : Blk (((h.upd k1 (.cells #[.int .i64 (n : Nat)] 3 (0, 0))).upd k2 (.cells #[.pointer none] 63 (0, 0))).upd k3 (.cells #[.int .i64 0] 29 (0, 0))) k2 63 [.pointer none] := (Blk.new _ k2 63 _).upd hk3 _
  have B3 : Blk (((h.upd k1 (.cells #[.int .i64 (n : Nat)] 3 (0, 0))).upd k2 (.cells #[.pointer none] 63 (0, 0))).upd k3 (.cells #[.int .i64 0] 29 (0, 0))) k3 29 [.int .i64 0] := Blk.new _ k3 29 _
  have s3 : Sub h (((h.upd k1 (.cells #[.int .i64 (n : Nat)] 3 (0, 0))).upd k2 (.cells #[.pointer none] 63 (0, 0))).upd k3 (.cells #[.int .i64 0] 29 (0, 0))) := ((Sub.upd hk1 _).trans (Sub.upd hk2 _)).trans (Sub.upd hk3 _)
  have n2 : h k2 = none := (Sub.upd hk1 _).none hk2
  have n3 : h k3 = none := ((Sub.upd hk1 _).trans (Sub.upd hk2 _)).none hk3
  have d32 : k3 ≠ k2 := fun e => by rw [e, Hp.upd_same] at hk3; cases hk3
  generalize ((h.upd k1 (.cells #[.int .i64 (n : Nat)] 3 (0, 0))).upd k2 (.cells #[.pointer none] 63 (0, 0))).upd k3 (.cells #[.int .i64 0] 29 (0, 0)) = h3 at B1 B2 B3 s3
  have H3 := H.sub s3
  refine ⟨_, B1.cell' 0 rfl, need_spec n h1 h2 ⟨_, rfl, Sub.refl _, split_eq (fun e => by have e : ((8 * n + 1 : Nat) : Int) = 0 := e; omega) fun _ => ⟨_, B1.cell' 0 rfl, size_spec H3 ⟨_, rfl, Sub.refl _, need_spec n h1 h2 ⟨_, rfl, split_dec (fun e => by have e : (D.l.length : Int) < ((8 * n + 1 : Nat) : Int) := e; omega) fun _ => ?_⟩⟩⟩⟩⟩
  refine read_spec (i := 0) H3 (by omega) hd ⟨_, _, rfl, split_ne (fun e => absurd rfl e) fun _ => ?_⟩
  generalize emark : D.read 0 = mark at hm
  refine ⟨_, B1.cell' 0 rfl, fun k26 hk26 k27 hk27 => ?_⟩
  have hk27' : (h3.upd k26 (.cells #[.pointer (some ⟨db, 0, none⟩), .int .i64 (n : Nat)] 131 (0, 0))) k27 = none := hk27
  have C26 : Blk (h3.upd k26 (.cells #[.pointer (some ⟨db, 0, none⟩), .int .i64 (n : Nat)] 131 (0, 0))) k26 131 [.pointer (some ⟨db, 0, none⟩), .int .i64 (n : Nat)] := Blk.new h3 k26 131 _
  have s26 : Sub h3 (h3.upd k26 (.cells #[.pointer (some ⟨db, 0, none⟩), .int .i64 (n : Nat)] 131 (0, 0))) := Sub.upd hk26 _
  have C27 := (Blk.new (h3.upd k26 (.cells #[.pointer (some ⟨db, 0, none⟩), .int .i64 (n : Nat)] 131 (0, 0))) k27 63 [.pointer none])
  have s27 : Sub (h3.upd k26 (.cells #[.pointer (some ⟨db, 0, none⟩), .int .i64 (n : Nat)] 131 (0, 0))) (((h3.upd k26 (.cells #[.pointer (some ⟨db, 0, none⟩), .int .i64 (n : Nat)] 131 (0, 0))).upd k27 (.cells #[.pointer none] 63 (0, 0))).put k27 0 [.pointer (some ⟨k26, 0, none⟩)]) :=
    (Keep.put (fun c => c = k27) _ 0 _ rfl).sub (Sub.upd hk27' _) fun c e => by rw [e]; exact hk27'
  have C27p : Blk (((h3.upd k26 (.cells #[.pointer (some ⟨db, 0, none⟩), .int .i64 (n : Nat)] 131 (0, 0))).upd k27 (.cells #[.pointer none] 63 (0, 0))).put k27 0 [.pointer (some ⟨k26, 0, none⟩)]) k27 63 [.pointer (some ⟨k26, 0, none⟩)] := C27.put 0 _
  refine ⟨C27.store (Nat.le_refl 1), fun k28 hk28 => ?_⟩
  have hk28' : (((h3.upd k26 (.cells #[.pointer (some ⟨db, 0, none⟩), .int .i64 (n : Nat)] 131 (0, 0))).upd k27 (.cells #[.pointer none] 63 (0, 0))).put k27 0 [.pointer (some ⟨k26, 0, none⟩)]) k28 = none := hk28
  show StoreOk ((((h3.upd k26 (.cells #[.pointer (some ⟨db, 0, none⟩), .int .i64 (n : Nat)] 131 (0, 0))).upd k27 (.cells #[.pointer none] 63 (0, 0))).put k27 0 [.pointer (some ⟨k26, 0, none⟩)]).upd k28 _) k28 0 1 ∧ CallsH _ _ _ (((((h3.upd k26 (.cells #[.pointer (some ⟨db, 0, none⟩), .int .i64 (n : Nat)] 131 (0, 0))).upd k27 (.cells #[.pointer none] 63 (0, 0))).put k27 0 [.pointer (some ⟨k26, 0, none⟩)]).upd k28 _).put k28 0 _) _
  have sa := s26.trans s27
  have n26 : h k26 = none := s3.none hk26
  have n28 : h k28 = none := (s3.trans sa).none hk28'
  have C26b := C26.sub s27
  have B1b := B1.sub sa
  have B2b := B2.sub sa
  have B3b := B3.sub sa
  have Hb := H3.sub sa
  have h27b : h k27 = none := (s3.trans s26).none hk27'
  generalize (((h3.upd k26 (.cells #[.pointer (some ⟨db, 0, none⟩), .int .i64 (n : Nat)] 131 (0, 0))).upd k27 (.cells #[.pointer none] 63 (0, 0))).put k27 0 [.pointer (some ⟨k26, 0, none⟩)]) = y at sa C27p hk28' C26b B1b B2b B3b Hb
  have hs := s3.trans sa
  have C28 := Blk.new y k28 4 [.bool false]
  have s28 : Sub y ((y.upd k28 (.cells #[.bool false] 4 (0, 0))).put k28 0 [.bool false]) := (Keep.put (fun c => c = k28) _ 0 _ rfl).sub (Sub.upd hk28' _) fun c e => by rw [e]; exact hk28'
  have C28p : Blk ((y.upd k28 (.cells #[.bool false] 4 (0, 0))).put k28 0 [.bool false]) k28 4 [.bool false] := C28.put 0 _
  refine ⟨C28.store (Nat.le_refl 1), journal_told.calls _ fun k hk => ⟨_, rfl, [.pointer (some ⟨k, 0, none⟩)], rfl, ?_⟩⟩
  have hk' : ((y.upd k28 (.cells #[.bool false] 4 (0, 0))).put k28 0 [.bool false]) k = none := hk
  have sk : Sub ((y.upd k28 (.cells #[.bool false] 4 (0, 0))).put k28 0 [.bool false]) (((y.upd k28 (.cells #[.bool false] 4 (0, 0))).put k28 0 [.bool false]).upd k (.cells #[.string mark] 9 (0, 0))) := Sub.upd hk' _
  have Ck := Blk.new ((y.upd k28 (.cells #[.bool false] 4 (0, 0))).put k28 0 [.bool false]) k 9 [.string mark]
  have t := s28.trans sk
  have hne : ∀ {b t vs}, Blk y b t vs → k28 ≠ b := fun B e => by unfold Blk at B; rw [← e, hk28'] at B; cases B
  have nS : ∀ c, h c = none → ¬ S c := fun c hc hs => H.in_heap hs hc
  have nk : h k = none := hs.none (s28.none hk')
  have e26 : ∀ {b t vs}, Blk h3 b t vs → b ≠ k26 := fun B e => by unfold Blk at B; rw [e, hk26] at B; cases B
  have n1 : h k1 = none := hk1
  have e2726 : k27 ≠ k26 := fun e => by
    have h7 := hk27'
    rw [e] at h7
    unfold Blk at C26
    rw [C26] at h7; cases h7
  have O : OpS h S (fun c => c = k26 ∨ S c) db k1 k2 k3 k26 k27 k28 k n mark (dskK n D (isK n mark 0)) false (((y.upd k28 (.cells #[.bool false] 4 (0, 0))).put k28 0 [.bool false]).upd k (.cells #[.string mark] 9 (0, 0))) := by
    have e0 : dskK n D (isK n mark 0) = D := by
      unfold dskK isK
      rw [List.take_zero, List.filter_nil]
      show ({ D with ws := [] } : Dk) = D
      rw [← hw]
    rw [e0]
    refine ⟨⟨⟨S, C26b.sub t, Hb.sub t, nS _ n26, fun c => Iff.rfl⟩, h1, h2, hl⟩, fun c hc => hc.elim (fun e => .inr (by rw [e]; exact n26)) .inl, B1b.sub t, B2b.sub t, B3b.sub t, C27p.sub t, C28p.sub sk, Ck, ?_, ?_, ?_, ?_, ?_, ?_, (hs.trans t).keep S, n2, n3, n28, hne B1b, hne B2b, hne B3b, hne C27p, ?_, Ne.symm d32⟩
    · rintro (e | e)
      · exact e26 B1 e
      · exact nS _ n1 e
    · rintro (e | e)
      · exact e26 B2 e
      · exact nS _ n2 e
    · rintro (e | e)
      · exact e26 B3 e
      · exact nS _ n3 e
    · rintro (e | e)
      · exact e2726 e
      · exact nS _ h27b e
    · rintro (e | e)
      · exact hne C26b e
      · exact nS _ n28 e
    · rintro (e | e)
      · have := C26b.sub s28
        unfold Blk at this
        rw [← e, hk'] at this; cases this
      · exact nS _ nk e
    · intro e
      unfold Blk at C28p
      rw [← e, C28p] at hk'; cases hk'
  have tk : told n D = isK n mark (bitsOf mark).length := by unfold told isK; rw [emark, List.take_length]
  refine ⟨_, _, _, fun j x => ∃ S', OpS h S S' db k1 k2 k3 k26 k27 k28 k n mark (dskK n D (isK n mark j)) (decide (isK n mark j ≠ [])) x, fun _ _ => False, told_iter mark hm k, ?_, ?_, ⟨_, O⟩, ?_, ?_, ?_, ?_, ?_, trivial⟩
  · intro h0 b o hb hp
    exact cell_sub (Sub.upd hb o) hp
  · rintro _ x ⟨S', O⟩
    exact O.bk.cell' 0 rfl
  · rintro _ vs ⟨i, hi, rfl⟩
    exact ⟨_, rfl⟩
  · rintro j v ⟨i, hi, ev⟩ x ⟨S', O⟩
    cases ev
    have hst := isK_step (n := n) hi
    refine ⟨_, O.b1.cell' 0 rfl, split_dec (fun g => ?_) fun g => ?_⟩
    · have g : ¬ i < n := by have : (i : Int) ≥ (n : Int) := g; omega
      rw [if_neg g, List.append_nil] at hst
      show ∃ S', OpS h S S' db k1 k2 k3 k26 k27 k28 k n mark (dskK n D (isK n mark (j + 1))) (decide (isK n mark (j + 1) ≠ [])) x
      rw [hst]; exact ⟨S', O⟩
    have g : i < n := by have : ¬ (i : Int) ≥ (n : Int) := g; omega
    rw [if_pos g] at hst
    obtain ⟨O1, so⟩ := O.set28
    have ew : IntKind.i64.wrap (1 + IntKind.i64.wrap (4 * ((i : Nat) : Int))) = ((1 + 4 * i : Nat) : Int) := by
      rw [wid (x := 4 * ((i : Nat) : Int)) (by omega) (by omega), wid (by omega) (by omega)]; omega
    have hge : ∀ w ∈ ownW n (logC D (isK n mark j)), w.1 < 1 + 4 * i ∨ 1 + 4 * i + 4 ≤ w.1 := fun w hw => by have := own_mem hw; omega
    have hpg : (dskK n D (isK n mark j)).page (1 + 4 * i) = pageL D.l (1 + 4 * i) := page_ws hge
    have hpg2 : D.page (1 + 4 * i) = pageL D.l (1 + 4 * i) := page_L hw _
    have hlen : (dskK n D (isK n mark j)).l.length = D.l.length := rfl
    have hwl : (dskK n D (isK n mark j)).ws.length ≤ 512 := by
      show (ownW n (logC D (isK n mark j))).length ≤ 512
      unfold ownW
      rw [flatW_len _ fun c => parts_len _ _]
      unfold logC
      rw [List.length_map]
      have := isK_len n mark j
      omega
    rw [ew]
    refine ⟨so, _, O1.b27.cell' 0 rfl, look_spec O1.j (1 + 4 * i) (by rw [hlen]; omega) hd fun h52 s52 => ⟨_, _, rfl, split_eq (fun _ => ?_) fun e => absurd rfl e⟩⟩
    have O2 := O1.sub s52
    refine ⟨_, O2.b27.cell' 0 rfl, _, O2.b27.cell' 0 rfl, jown_spec O2.j i (by omega) ⟨_, rfl, Sub.refl _, ?_⟩⟩
    have hsz : ((dskK n D (isK n mark j)).page (1 + 4 * i)).size = 1024 := by
      obtain ⟨S0, q1, q2, q3, q4⟩ := O2.j.ex
      unfold Dk.page
      rw [← size_len]
      exact look_len q2 4 (by rw [hlen]; omega)
    have eo : ∀ c : Ch, wrs (dskK n D (isK n mark j)) (parts (1 + 4 * (n + i)) c.2) = ({ dskK n D (isK n mark j) with ws := (dskK n D (isK n mark j)).ws ++ parts (1 + 4 * (n + i)) c.2 }, 0) := fun c => wrs_on _ _ hd hf
    refine lay_spec O2.j (by rw [hlen]; omega) _ hsz (by omega) fun h61 S3 J61 st61 => ⟨_, rfl, ?_⟩
    have eo' := eo (i, (dskK n D (isK n mark j)).page (1 + 4 * i))
    rw [eo'] at J61 ⊢
    have O3 := O2.step J61 st61
    refine split_ne (fun e => absurd rfl e) fun _ => ⟨S3, ?_⟩
    have ed : { dskK n D (isK n mark j) with ws := (dskK n D (isK n mark j)).ws ++ parts (1 + 4 * (n + i)) ((dskK n D (isK n mark j)).page (1 + 4 * i)) } = dskK n D (isK n mark (j + 1)) := by
      rw [hpg, hst]
      show ({ D with ws := ownW n (logC D (isK n mark j)) ++ parts (1 + 4 * (n + i)) (pageL D.l (1 + 4 * i)) } : Dk) = { D with ws := ownW n (logC D (isK n mark j ++ [i])) }
      unfold logC ownW
      rw [List.map_append, List.flatMap_append, List.map_cons, List.map_nil, List.flatMap_cons, List.flatMap_nil, List.append_nil, hpg2]
    have eb : decide (isK n mark (j + 1) ≠ []) = true := decide_eq_true (by rw [hst]; simp)
    rw [eb, ← ed]; exact O3
  · rintro j x ⟨S', O⟩ hj d hd0
    have hj : j = (bitsOf mark).length := hj
    rw [hj, ← tk] at O
    have sd := Sub.upd hd0 (.deferred (some []))
    have Od := O.sub sd
    have hdd : (x.upd d (.deferred (some []))) d = some (.deferred (some [])) := Hp.upd_same _ _ _
    have nd : ¬ S' d := fun hs => O.j.in_heap hs hd0
    have hnd : ∀ o, h d = some o → S d := fun o e => by
      by_cases hS : S d
      · exact hS
      · have := O.kp d o e hS
        rw [this] at hd0; cases hd0
    generalize x.upd d (.deferred (some [])) = z at Od hdd
    refine ⟨_, Od.b28.cell' 0 rfl, split_cond (fun eb => ?_) fun eb => ?_⟩
    rotate_left
    · have ht : told n D = [] := by simpa using of_decide_eq_false eb
      have er : recov n D = dskK n D (told n D) := by
        unfold recov
        rw [if_pos ht]
        unfold dskK logC ownW
        rw [ht]
        show D = ({ D with ws := [] } : Dk)
        rw [← hw]
      obtain ⟨f1, f2, f3, f4, f5, f6, f7⟩ := Od.fin hdd nd hnd
      have := hK _ k26 S' (by rw [er]; exact f6) f7
      exact ⟨_, Od.b27.cell' 0 rfl, f1, f2, f3, _, f4, _, f5, this⟩
    have ht : told n D ≠ [] := of_decide_eq_true eb
    refine ⟨_, Od.b27.cell' 0 rfl, flushed_spec Od.j 0 fun h69 S2 J69 st69 => ⟨_, rfl, ?_⟩⟩
    have e1 : flD (dskK n D (told n D), 0) = ((dskK n D (told n D)).flush, 0) := flD_on hd
    rw [e1] at J69 ⊢
    have O1 := Od.step J69 st69
    have hd1 := st69.out hdd nd
    refine split_ne (fun e => absurd rfl e) fun _ => ?_
    obtain ⟨hl, r1, r2, r3⟩ := step_rest2 S2 h69
    have B27 := O1.b27.keep r3 O1.s27
    refine ⟨hl, r1, _, B27.cell' 0 rfl, by decide, by decide, by decide, by decide, fun k75 hk75 => ?_⟩
    have s75 := Sub.upd hk75 (.cells (repV 256 [.int .u8 0]).toArray 5 (0, 0))
    have O2 := O1.sub s75
    have hl2 : 1 ≤ (dskK n D (told n D)).flush.l.length := by show 1 ≤ (settleL _ _).length; rw [settleL_len]; show 1 ≤ D.l.length; omega
    refine ⟨r1.trans s75, zeroB 256, zero_slice (Hp.upd_same _ _ _), r1.trans s75, ?_⟩
    obtain ⟨S0, q1, q2, q3⟩ := O2.j.step
    refine jwrite_spec (i := 0) O2.j hl2 (zeroB 256) (zeroB_size 256) (by show (0 : Nat) < 4096; decide) fun h78 S3 J78 st78 => ⟨_, rfl, r2 _ _ ((Step.sub s75).trans st78), ?_⟩
    have e2 : wrs (dskK n D (told n D)).flush [(0, zeroB 256)] = ({ (dskK n D (told n D)).flush with ws := [] ++ [(0, zeroB 256)] }, 0) := wrs_on _ _ hd hf
    rw [e2] at J78 ⊢
    have O3 := O2.step J78 st78
    refine flushed_spec O3.j 0 fun h81 S4 J81 st81 => ⟨_, rfl, split_ne (fun e => absurd (congrArg Prod.snd (flD_on (D := ({ (dskK n D (told n D)).flush with ws := [] ++ [(0, zeroB 256)] } : Dk)) hd)) e) fun _ => ?_⟩
    have e3 : flD (({ (dskK n D (told n D)).flush with ws := [] ++ [(0, zeroB 256)] } : Dk), 0) = (({ (dskK n D (told n D)).flush with ws := [] ++ [(0, zeroB 256)] } : Dk).flush, 0) := flD_on hd
    rw [e3] at J81
    have O4 := O3.step J81 st81
    have er : recov n D = ({ (dskK n D (told n D)).flush with ws := [] ++ [(0, zeroB 256)] } : Dk).flush := by
      unfold recov
      rw [if_neg ht]
      unfold Dk.flush dskK
      show _ = (⟨_, [], D.fuse, D.down⟩ : Dk)
      rw [hd, hf]; rfl
    have hd2 := st81.out ((st78.out (s75 _ _ hd1.1) hd1.2).1) (st78.out (s75 _ _ hd1.1) hd1.2).2
    obtain ⟨f1, f2, f3, f4, f5, f6, f7⟩ := O4.fin hd2.1 hd2.2 hnd
    have := hK _ k26 S4 (by rw [er]; exact f6) f7
    exact ⟨_, O4.b27.cell' 0 rfl, f1, f2, f3, _, f4, _, f5, this⟩
  · rintro x hf; exact hf.elim
  · rintro x hf; exact hf.elim
end Go.Proofs.YthbogjbcecmopaaGreatDoor
namespace Go.Proofs.YthbogjbcecmopaaGreatDoor
open Go.Gx
set_option maxRecDepth 100000
set_option linter.unusedVariables false

def law15_opened.H : Hints := { N := 45, loc := (fun _ => false), join := (fun _ => none), loop := (fun _ => none), ifc := 0, order := (fun _ => none) }
def law15_opened.W (pages : Int) (h : Hp) (Q : Value → Hp → Prop) : Prop :=
  (bif hb (decide (pages < 2)) then (Q (.tuple #[.pointer none, .pointer none, .pointer none]) h) else (bif hb (decide (pages > 24)) then (Q (.tuple #[.pointer none, .pointer none, .pointer none]) h) else (CallsH Tryz.prog 43 (#[.int .i64 (IntKind.i64.wrap (IntKind.i64.wrap (8 * pages) + 1))]) (h) (fun v1 h2 => ∃ a3, ∃ n4, (v1 = .tuple #[.pointer a3, .int .i64 n4]) ∧ CallsH Tryz.prog 32 (#[.pointer a3, .int .i64 pages]) (h2) (fun v5 h6 => ∃ a7, ∃ n8, (v5 = .tuple #[.pointer a7, .int .i64 n8]) ∧ CallsH Tryz.prog 33 (#[.pointer a7]) (h6) (fun v9 h10 => ∃ a11, ∃ n12, (v9 = .tuple #[.pointer a11, .int .i64 n12]) ∧ CallsH Tryz.prog 12 (#[.pointer a11, .int .i64 1]) (h10) (fun v13 h14 => ∃ a15, ∃ n16, (v13 = .tuple #[.pointer a15, .int .i64 n16]) ∧ Q (.tuple #[.pointer a3, .pointer a11, .pointer a15]) h14)))))))
theorem law15_opened.calls (pages : Int) {h : Hp} {Q : Value → Hp → Prop} (hW : law15_opened.W pages h Q) : CallsH Tryz.prog 7 #[.int .i64 pages] h Q := by
  have hE_ : bodyW Tryz.prog law15_opened.H Tryz.f7 [.val (.int .i64 pages)] h Q = law15_opened.W pages h Q := by kernel_rfl
  rw [← hE_] at hW
  exact calls_of_body (H := law15_opened.H) (args := [.val (.int .i64 pages)]) Tryz.func7 Tryz.ntmps7 rfl rfl hW

def law15_lives.H : Hints := { N := 52, loc := (fun _ => false), join := (fun i => bif Nat.beq i 4 then some [] else none), loop := (fun _ => none), ifc := 0, order := (fun _ => none) }
def law15_lives.W  (h : Hp) (Q : Value → Hp → Prop) : Prop :=
  (CallsH Tryz.prog 7 (#[.int .i64 4]) (h) (fun v1 h2 => ∃ a3, ∃ a4, ∃ a5, (v1 = .tuple #[.pointer a3, .pointer a4, .pointer a5]) ∧ ∃ (J6 : Hp → Prop), (∀ (x7 : Hp), (J6 x7) → (CallsH Tryz.prog 14 (#[.pointer a5, .string (bytesL [97])]) (x7) (fun v8 h9 => ∃ s10, ∃ b11, (v8 = .tuple #[.string s10, .bool b11]) ∧ bif beqS s10 (bytesL [120]) then (bif b11 then (CallsH Tryz.prog 23 (#[.pointer a5, .string (bytesL [97])]) (h9) (fun v12 h13 => ∃ b14, (v12 = .bool b14) ∧ bif b14 then (CallsH Tryz.prog 25 (#[.pointer a5]) (h13) (fun v15 h16 => ∃ n17, (v15 = .int .i64 n17) ∧ bif hb (n17 == 0) then (CallsH Tryz.prog 36 (#[.pointer a4]) (h16) (fun v18 h19 => ∃ n20, (v18 = .int .i64 n20) ∧ Q (.bool (hb (n20 == 3))) h19)) else (Q (.bool false) h16))) else (Q (.bool false) h13))) else (Q (.bool false) h9)) else (Q (.bool false) h9)))) ∧ bif a5.isNone then (Q (.bool false) h2) else (CallsH Tryz.prog 22 (#[.pointer a5, .string (bytesL [97]), .string (bytesL [120])]) (h2) (fun v21 h22 => ∃ n23, (v21 = .int .i64 n23) ∧ bif hb (n23 != 0) then (Q (.bool false) h22) else (CallsH Tryz.prog 25 (#[.pointer a5]) (h22) (fun v24 h25 => ∃ n26, (v24 = .int .i64 n26) ∧ bif hb (n26 != 1) then (Q (.bool false) h25) else (CallsH Tryz.prog 36 (#[.pointer a4]) (h25) (fun v27 h28 => ∃ n29, (v27 = .int .i64 n29) ∧ bif hb (n29 != 2) then (Q (.bool false) h28) else (J6 h28)))))))))
theorem law15_lives.calls  {h : Hp} {Q : Value → Hp → Prop} (hW : law15_lives.W  h Q) : CallsH Tryz.prog 8 #[] h Q := by
  have hE_ : bodyW Tryz.prog law15_lives.H Tryz.f8 [] h Q = law15_lives.W  h Q := by kernel_rfl
  rw [← hE_] at hW
  exact calls_of_body (H := law15_lives.H) (args := []) Tryz.func8 Tryz.ntmps8 rfl rfl hW

def btree_Open.H : Hints := { N := 28, loc := (fun _ => false), join := (fun i => bif Nat.beq i 3 then some [] else none), loop := (fun _ => none), ifc := 0, order := (fun _ => none) }
def btree_Open.W (p_b p_o : Nat) (k : Int) (h : Hp) (Q : Value → Hp → Prop) : Prop :=
  (∃ (J1 : Hp → Prop), (∀ (x2 : Hp), (J1 x2) → (∀ (k3 : Nat), (x2 k3 = none) → (CallsH Tryz.prog 26 (#[.pointer (some ⟨k3, 0, none⟩)]) (x2.upd k3 (.cells #[.pointer (some ⟨p_b, p_o, none⟩), .int .i64 k] 89 (0, 0))) (fun v4 h5 => ∃ n6, (v4 = .int .i64 n6) ∧ bif hb (n6 != 0) then (Q (.tuple #[.pointer none, .int .i64 n6]) h5) else (Q (.tuple #[.pointer (some ⟨k3, 0, none⟩), .int .i64 0]) h5))))) ∧ bif hb (decide (k < 0)) then (Q (.tuple #[.pointer none, .int .i64 1]) h) else (bif hb (decide (k ≥ 4)) then (Q (.tuple #[.pointer none, .int .i64 1]) h) else (J1 h)))
theorem btree_Open.calls (p_b p_o : Nat) (k : Int) {h : Hp} {Q : Value → Hp → Prop} (hW : btree_Open.W p_b p_o k h Q) : CallsH Tryz.prog 12 #[.pointer (some ⟨p_b, p_o, none⟩), .int .i64 k] h Q := by
  have hE_ : bodyW Tryz.prog btree_Open.H Tryz.f12 [.ptr p_b p_o, .val (.int .i64 k)] h Q = btree_Open.W p_b p_o k h Q := by kernel_rfl
  rw [← hE_] at hW
  exact calls_of_body (H := btree_Open.H) (args := [.ptr p_b p_o, .val (.int .i64 k)]) Tryz.func12 Tryz.ntmps12 rfl rfl hW

def law15_all.H : Hints := { N := 6, loc := (fun _ => false), join := (fun _ => none), loop := (fun _ => none), ifc := 0, order := (fun _ => none) }
def law15_all.W (t_b t_o : Nat) (h : Hp) (Q : Value → Hp → Prop) : Prop :=
  (CallsH Tryz.prog 46 (#[]) (h) (fun v1 h2 => ∃ s3, (v1 = .string s3) ∧ CallsH Tryz.prog 24 (#[.pointer (some ⟨t_b, t_o, none⟩), .string (bytesL []), .string s3, .int .i64 1000000]) (h2) (fun v4 h5 => ∃ a6, ∃ k7, ∃ k8, (v4 = .slice a6 k7 k8) ∧ Q (.slice a6 k7 k8) h5)))
theorem law15_all.calls (t_b t_o : Nat) {h : Hp} {Q : Value → Hp → Prop} (hW : law15_all.W t_b t_o h Q) : CallsH Tryz.prog 13 #[.pointer (some ⟨t_b, t_o, none⟩)] h Q := by
  have hE_ : bodyW Tryz.prog law15_all.H Tryz.f13 [.ptr t_b t_o] h Q = law15_all.W t_b t_o h Q := by kernel_rfl
  rw [← hE_] at hW
  exact calls_of_body (H := law15_all.H) (args := [.ptr t_b t_o]) Tryz.func13 Tryz.ntmps13 rfl rfl hW

def btree_Tree_Get.H : Hints := { N := 71, loc := (fun _ => false), join := (fun _ => none), loop := (fun i => bif Nat.beq i 4 then some [.slot 6 (.int .i64)] else none), ifc := 0, order := (fun i => bif Nat.beq i 3 then some (some 8, false, [0, 1, 2, 3, 4, 5, 6, 7, 8, 9], .q 0 (.q 1 (.q 2 (.q 3 (.q 4 (.q 5 (.q 6 (.q 7 (.f 8 (.q 9 .done) .e))))))))) else none) }
def btree_Tree_Get.W (t_b t_o : Nat) (key : ByteArray) (h : Hp) (Q : Value → Hp → Prop) : Prop :=
  (∃ a1, (h.cell t_b t_o = some (.pointer a1)) ∧ ∃ n2, (h.cell t_b (t_o + 1) = some (.int .i64 n2)) ∧ CallsH Tryz.prog 47 (#[.pointer a1, .int .i64 n2]) (h) (fun v3 h4 => ∃ n5, (v3 = .int .i64 n5) ∧ ∃ (J6 : Int → Hp → Nat → Prop), (∃ k7, J6 n5 h4 k7) ∧ ∀ (n8 : Int), ∀ (x9 : Hp), ∀ (k10 : Nat), (J6 n8 x9 k10) → (bif hb (n8 != 0) then (CallsH Tryz.prog 48 (#[.pointer (some ⟨t_b, t_o, none⟩), .int .i64 n8]) (x9) (fun v11 h12 => ∃ a13, ∃ n14, (v11 = .tuple #[.pointer a13, .int .i64 n14]) ∧ bif hb (n14 != 0) then (Q (.tuple #[.string (bytesL []), .bool false]) h12) else (∃ k15, ∃ k16, (a13 = some ⟨k15, k16, none⟩) ∧ ∃ n17, (h12.cell k15 k16 = some (.int .i64 n17)) ∧ bif hb (n17 == 1) then (CallsH Tryz.prog 49 (#[.pointer a13, .string key]) (h12) (fun v18 h19 => ∃ n20, (v18 = .int .i64 n20) ∧ ∃ k21, ∃ k22, (a13 = some ⟨k21, k22, none⟩) ∧ ∃ a23, ∃ k24, ∃ k25, (h19.cell k21 (k22 + 2) = some (.slice a23 k24 k25)) ∧ bif hb (n20 == Int.ofNat k24) then (Q (.tuple #[.string (bytesL []), .bool false]) h19) else (∃ k26, ∃ k27, (a13 = some ⟨k26, k27, none⟩) ∧ ∃ a28, ∃ k29, ∃ k30, (h19.cell k26 (k27 + 2) = some (.slice a28 k29 k30)) ∧ (0 ≤ n20) ∧ (n20 < Int.ofNat k29) ∧ ∃ k31, ∃ k32, (a28 = some ⟨k31, k32, none⟩) ∧ ∃ s33, (h19.cell k31 (k32 + n20.toNat * 3) = some (.string s33)) ∧ bif !beqS s33 key then (Q (.tuple #[.string (bytesL []), .bool false]) h19) else (∃ k34, ∃ k35, (a13 = some ⟨k34, k35, none⟩) ∧ ∃ a36, ∃ k37, ∃ k38, (h19.cell k34 (k35 + 2) = some (.slice a36 k37 k38)) ∧ (0 ≤ n20) ∧ (n20 < Int.ofNat k37) ∧ ∃ k39, ∃ k40, (a36 = some ⟨k39, k40, none⟩) ∧ ∃ s41, (h19.cell k39 (k40 + n20.toNat * 3 + 1) = some (.string s41)) ∧ Q (.tuple #[.string s41, .bool true]) h19)))) else (CallsH Tryz.prog 51 (#[.pointer a13, .string key]) (h12) (fun v42 h43 => ∃ n44, (v42 = .int .i64 n44) ∧ CallsH Tryz.prog 50 (#[.pointer a13, .int .i64 n44]) (h43) (fun v45 h46 => ∃ n47, (v45 = .int .i64 n47) ∧ ∃ k48, (k48 < k10) ∧ J6 n47 h46 k48)))))) else (Q (.tuple #[.string (bytesL []), .bool false]) x9))))
theorem btree_Tree_Get.calls (t_b t_o : Nat) (key : ByteArray) {h : Hp} {Q : Value → Hp → Prop} (hW : btree_Tree_Get.W t_b t_o key h Q) : CallsH Tryz.prog 14 #[.pointer (some ⟨t_b, t_o, none⟩), .string key] h Q := by
  have hE_ : bodyW Tryz.prog btree_Tree_Get.H Tryz.f14 [.ptr t_b t_o, .val (.string key)] h Q = btree_Tree_Get.W t_b t_o key h Q := by kernel_rfl
  rw [← hE_] at hW
  exact calls_of_body (H := btree_Tree_Get.H) (args := [.ptr t_b t_o, .val (.string key)]) Tryz.func14 Tryz.ntmps14 rfl rfl hW

def law15_light.H : Hints := { N := 19, loc := (fun i => Nat.beq i 1 || false), join := (fun _ => none), loop := (fun _ => none), ifc := 0, order := (fun _ => none) }
def law15_light.W (o_0 : Int) (o_1 : Int) (o_2 : Int) (o_3 : ByteArray) (o_4 : ByteArray) (o_5 : ByteArray) (h : Hp) (Q : Value → Hp → Prop) : Prop :=
  (bif hb (decide (Int.ofNat o_3.size ≤ 500)) then (bif hb (decide (Int.ofNat o_4.size ≤ 500)) then (Q (.bool (hb (decide (Int.ofNat o_5.size ≤ 1000)))) h) else (Q (.bool false) h)) else (Q (.bool false) h))
theorem law15_light.calls (o_0 : Int) (o_1 : Int) (o_2 : Int) (o_3 : ByteArray) (o_4 : ByteArray) (o_5 : ByteArray) {h : Hp} {Q : Value → Hp → Prop} (hW : law15_light.W o_0 o_1 o_2 o_3 o_4 o_5 h Q) : CallsH Tryz.prog 18 #[.agg #[.int .i64 o_0, .int .i64 o_1, .int .i64 o_2, .string o_3, .string o_4, .string o_5]] h Q := by
  have hE_ : bodyW Tryz.prog law15_light.H Tryz.f18 [.val (.agg #[.int .i64 o_0, .int .i64 o_1, .int .i64 o_2, .string o_3, .string o_4, .string o_5])] h Q = law15_light.W o_0 o_1 o_2 o_3 o_4 o_5 h Q := by kernel_rfl
  rw [← hE_] at hW
  exact calls_of_body (H := law15_light.H) (args := [.val (.agg #[.int .i64 o_0, .int .i64 o_1, .int .i64 o_2, .string o_3, .string o_4, .string o_5])]) Tryz.func18 Tryz.ntmps18 rfl rfl hW

def btree_Tree_Put.H : Hints := { N := 118, loc := (fun _ => false), join := (fun _ => none), loop := (fun _ => none), ifc := 0, order := (fun i => bif Nat.beq i 5 then some (some 8, false, [0, 1, 2, 3, 4, 5, 6, 7, 8, 9], .q 0 (.q 1 (.q 2 (.q 3 (.q 4 (.q 5 (.q 6 (.q 7 (.f 8 (.q 9 .done) .e))))))))) else bif Nat.beq i 11 then some (some 9, false, [0, 1, 2, 3, 4, 5, 6, 7, 8, 9, 10], .q 0 (.q 1 (.q 2 (.q 3 (.q 4 (.q 5 (.q 6 (.q 7 (.q 8 (.f 9 (.q 10 .done) .e)))))))))) else bif Nat.beq i 19 then some (some 9, false, [0, 1, 2, 3, 4, 5, 6, 7, 8, 9, 10], .q 0 (.q 1 (.q 2 (.q 3 (.q 4 (.q 5 (.q 6 (.q 7 (.q 8 (.f 9 (.q 10 .done) .e)))))))))) else none) }
def btree_Tree_Put.W (t_b t_o : Nat) (key : ByteArray) (value : ByteArray) (h : Hp) (Q : Value → Hp → Prop) : Prop :=
  (CallsH Tryz.prog 59 (#[.string key, .string value]) (h) (fun v1 h2 => ∃ b3, (v1 = .bool b3) ∧ bif !b3 then (Q (.int .i64 1) h2) else (∃ a4, (h2.cell t_b t_o = some (.pointer a4)) ∧ CallsH Tryz.prog 36 (#[.pointer a4]) (h2) (fun v5 h6 => ∃ n7, (v5 = .int .i64 n7) ∧ CallsH Tryz.prog 25 (#[.pointer (some ⟨t_b, t_o, none⟩)]) (h6) (fun v8 h9 => ∃ n10, (v8 = .int .i64 n10) ∧ bif hb (decide (n7 < IntKind.i64.wrap (n10 + 1))) then (Q (.int .i64 5) h9) else (∃ a11, (h9.cell t_b t_o = some (.pointer a11)) ∧ ∃ n12, (h9.cell t_b (t_o + 1) = some (.int .i64 n12)) ∧ CallsH Tryz.prog 47 (#[.pointer a11, .int .i64 n12]) (h9) (fun v13 h14 => ∃ n15, (v13 = .int .i64 n15) ∧ bif hb (n15 == 0) then (∃ a16, (h14.cell t_b t_o = some (.pointer a16)) ∧ CallsH Tryz.prog 9 (#[.pointer a16]) (h14) (fun v17 h18 => ∃ n19, ∃ n20, (v17 = .tuple #[.int .i64 n19, .int .i64 n20]) ∧ bif hb (n20 != 0) then (Q (.int .i64 n20) h18) else (∀ (k21 : Nat), (h18 k21 = none) → (∀ (k22 : Nat), (h18.upd k21 (.cells (setL [.string (bytesL []), .string (bytesL []), .int .i64 0] 0 (setL (setL [.string (bytesL []), .string (bytesL []), .int .i64 0] 0 [.string key]) 1 [.string value])).toArray 100 (0, 0)) k22 = none) → (CallsH Tryz.prog 60 (#[.pointer (some ⟨t_b, t_o, none⟩), .int .i64 n19, .pointer (some ⟨k22, 0, none⟩)]) ((h18.upd k21 (.cells #[.string key, .string value, .int .i64 0] 100 (0, 0))).upd k22 (.cells #[.int .i64 1, .int .i64 0, .slice (some ⟨k21, 0, none⟩) 1 1] 97 (0, 0))) (fun v23 h24 => (v23 = .tuple #[]) ∧ ∃ a25, (h24.cell t_b t_o = some (.pointer a25)) ∧ ∃ n26, (h24.cell t_b (t_o + 1) = some (.int .i64 n26)) ∧ CallsH Tryz.prog 11 (#[.pointer a25, .int .i64 n26, .int .i64 n19]) (h24) (fun v27 h28 => ∃ n29, (v27 = .int .i64 n29) ∧ Q (.int .i64 n29) h28))))))) else (CallsH Tryz.prog 61 (#[.pointer (some ⟨t_b, t_o, none⟩), .int .i64 n15, .agg #[.string key, .string value, .int .i64 0]]) (h14) (fun v30 h31 => ∃ a32, ∃ n33, (v30 = .tuple #[.pointer a32, .int .i64 n33]) ∧ bif hb (n33 != 0) then (Q (.int .i64 n33) h31) else (bif a32.isNone then (Q (.int .i64 n33) h31) else (∃ a34, (h31.cell t_b t_o = some (.pointer a34)) ∧ CallsH Tryz.prog 9 (#[.pointer a34]) (h31) (fun v35 h36 => ∃ n37, ∃ n38, (v35 = .tuple #[.int .i64 n37, .int .i64 n38]) ∧ bif hb (n38 != 0) then (Q (.int .i64 n38) h36) else (∃ k39, ∃ k40, (a32 = some ⟨k39, k40, none⟩) ∧ ∃ s41, (h36.cell k39 k40 = some (.string s41)) ∧ ∃ s42, (h36.cell k39 (k40 + 1) = some (.string s42)) ∧ ∃ n43, (h36.cell k39 (k40 + 1 + 1) = some (.int .i64 n43)) ∧ ∀ (k44 : Nat), (h36 k44 = none) → (∀ (k45 : Nat), (h36.upd k44 (.cells (setL [.string (bytesL []), .string (bytesL []), .int .i64 0] 0 [.string s41, .string s42, .int .i64 n43]).toArray 100 (0, 0)) k45 = none) → (CallsH Tryz.prog 60 (#[.pointer (some ⟨t_b, t_o, none⟩), .int .i64 n37, .pointer (some ⟨k45, 0, none⟩)]) ((h36.upd k44 (.cells #[.string s41, .string s42, .int .i64 n43] 100 (0, 0))).upd k45 (.cells #[.int .i64 2, .int .i64 n15, .slice (some ⟨k44, 0, none⟩) 1 1] 97 (0, 0))) (fun v46 h47 => (v46 = .tuple #[]) ∧ ∃ a48, (h47.cell t_b t_o = some (.pointer a48)) ∧ ∃ n49, (h47.cell t_b (t_o + 1) = some (.int .i64 n49)) ∧ CallsH Tryz.prog 11 (#[.pointer a48, .int .i64 n49, .int .i64 n37]) (h47) (fun v50 h51 => ∃ n52, (v50 = .int .i64 n52) ∧ Q (.int .i64 n52) h51)))))))))))))))))
theorem btree_Tree_Put.calls (t_b t_o : Nat) (key : ByteArray) (value : ByteArray) {h : Hp} {Q : Value → Hp → Prop} (hW : btree_Tree_Put.W t_b t_o key value h Q) : CallsH Tryz.prog 22 #[.pointer (some ⟨t_b, t_o, none⟩), .string key, .string value] h Q := by
  have hE_ : bodyW Tryz.prog btree_Tree_Put.H Tryz.f22 [.ptr t_b t_o, .val (.string key), .val (.string value)] h Q = btree_Tree_Put.W t_b t_o key value h Q := by kernel_rfl
  rw [← hE_] at hW
  exact calls_of_body (H := btree_Tree_Put.H) (args := [.ptr t_b t_o, .val (.string key), .val (.string value)]) Tryz.func22 Tryz.ntmps22 rfl rfl hW

def btree_Tree_Drop.H : Hints := { N := 86, loc := (fun _ => false), join := (fun i => bif Nat.beq i 3 then some [] else none), loop := (fun i => bif Nat.beq i 3 then some [] else none), ifc := 0, order := (fun i => bif Nat.beq i 1 then some (some 24, false, [0, 1, 2, 3, 4, 5, 6, 7, 8, 9, 10, 11, 12, 13, 14, 15, 16, 17, 18, 19, 20, 21, 22, 23, 25, 24, 26, 27, 28], .q 0 (.q 1 (.q 2 (.q 3 (.q 4 (.q 5 (.q 6 (.q 7 (.q 8 (.q 9 (.q 10 (.f 11 (.q 12 (.q 13 (.q 14 (.q 15 (.q 16 (.q 17 (.q 18 (.q 19 (.q 20 (.q 21 (.q 22 (.q 23 (.q 25 (.f 24 (.f 26 (.q 27 (.q 28 .done)) .e) .e)))))))))))))) .e)))))))))))) else bif Nat.beq i 3 then some (some 8, false, [0, 1, 2, 3, 4, 5, 6, 7, 8, 9], .q 0 (.q 1 (.q 2 (.q 3 (.q 4 (.q 5 (.q 6 (.q 7 (.f 8 (.q 9 .done) .e))))))))) else bif Nat.beq i 7 then some (some 12, false, [0, 1, 2, 3, 4, 5, 6, 7, 8, 9, 10, 11, 12], .q 0 (.q 1 (.q 2 (.q 3 (.q 4 (.q 5 (.q 6 (.q 7 (.q 8 (.q 9 (.q 10 (.q 11 (.f 12 (.done) .e))))))))))))) else none) }
def btree_Tree_Drop.W (t_b t_o : Nat) (key : ByteArray) (h : Hp) (Q : Value → Hp → Prop) : Prop :=
  (∃ (J1 : Hp → Prop), (∀ (x2 : Hp), (J1 x2) → (∃ (J3 : Hp → Nat → Prop), (∃ k4, J3 x2 k4) ∧ ∀ (x5 : Hp), ∀ (k6 : Nat), (J3 x5 k6) → (∃ a7, (x5.cell t_b t_o = some (.pointer a7)) ∧ ∃ n8, (x5.cell t_b (t_o + 1) = some (.int .i64 n8)) ∧ CallsH Tryz.prog 47 (#[.pointer a7, .int .i64 n8]) (x5) (fun v9 h10 => ∃ n11, (v9 = .int .i64 n11) ∧ CallsH Tryz.prog 48 (#[.pointer (some ⟨t_b, t_o, none⟩), .int .i64 n11]) (h10) (fun v12 h13 => ∃ a14, ∃ n15, (v12 = .tuple #[.pointer a14, .int .i64 n15]) ∧ bif hb (n15 != 0) then (Q (.bool true) h13) else (∃ k16, ∃ k17, (a14 = some ⟨k16, k17, none⟩) ∧ ∃ a18, ∃ k19, ∃ k20, (h13.cell k16 (k17 + 2) = some (.slice a18 k19 k20)) ∧ bif hb (decide (Int.ofNat k19 > 0)) then (Q (.bool true) h13) else (∃ a21, (h13.cell t_b t_o = some (.pointer a21)) ∧ ∃ n22, (h13.cell t_b (t_o + 1) = some (.int .i64 n22)) ∧ ∃ k23, ∃ k24, (a14 = some ⟨k23, k24, none⟩) ∧ ∃ n25, (h13.cell k23 (k24 + 1) = some (.int .i64 n25)) ∧ CallsH Tryz.prog 11 (#[.pointer a21, .int .i64 n22, .int .i64 n25]) (h13) (fun v26 h27 => ∃ n28, (v26 = .int .i64 n28) ∧ ∃ a29, (h27.cell t_b t_o = some (.pointer a29)) ∧ CallsH Tryz.prog 58 (#[.pointer a29, .int .i64 n11]) (h27) (fun v30 h31 => ∃ n32, (v30 = .int .i64 n32) ∧ ∃ k33, ∃ k34, (a14 = some ⟨k33, k34, none⟩) ∧ ∃ n35, (h31.cell k33 k34 = some (.int .i64 n35)) ∧ bif hb (n35 == 1) then (Q (.bool true) h31) else (∃ k36, (k36 < k6) ∧ J3 h31 k36)))))))))) ∧ ∃ a37, (h.cell t_b t_o = some (.pointer a37)) ∧ ∃ n38, (h.cell t_b (t_o + 1) = some (.int .i64 n38)) ∧ CallsH Tryz.prog 47 (#[.pointer a37, .int .i64 n38]) (h) (fun v39 h40 => ∃ n41, (v39 = .int .i64 n41) ∧ (Gx.Sub h h40) ∧ bif hb (n41 == 0) then (Q (.bool false) h40) else (∃ a42, (h.cell t_b t_o = some (.pointer a42)) ∧ ∃ n43, (h.cell t_b (t_o + 1) = some (.int .i64 n43)) ∧ CallsH Tryz.prog 47 (#[.pointer a42, .int .i64 n43]) (h40) (fun v44 h45 => ∃ n46, (v44 = .int .i64 n46) ∧ CallsH Tryz.prog 62 (#[.pointer (some ⟨t_b, t_o, none⟩), .int .i64 n46, .string key]) (h45) (fun v47 h48 => ∃ b49, (v47 = .bool b49) ∧ bif !b49 then (Q (.bool false) h48) else (J1 h48))))))
theorem btree_Tree_Drop.calls (t_b t_o : Nat) (key : ByteArray) {h : Hp} {Q : Value → Hp → Prop} (hW : btree_Tree_Drop.W t_b t_o key h Q) : CallsH Tryz.prog 23 #[.pointer (some ⟨t_b, t_o, none⟩), .string key] h Q := by
  have hE_ : bodyW Tryz.prog btree_Tree_Drop.H Tryz.f23 [.ptr t_b t_o, .val (.string key)] h Q = btree_Tree_Drop.W t_b t_o key h Q := by kernel_rfl
  rw [← hE_] at hW
  exact calls_of_body (H := btree_Tree_Drop.H) (args := [.ptr t_b t_o, .val (.string key)]) Tryz.func23 Tryz.ntmps23 rfl rfl hW

def btree_Tree_Height.H : Hints := { N := 45, loc := (fun _ => false), join := (fun _ => none), loop := (fun i => bif Nat.beq i 5 then some [.slot 3 (.int .i64), .slot 4 (.int .i64)] else none), ifc := 0, order := (fun i => bif Nat.beq i 4 then some (some 8, false, [0, 1, 2, 3, 4, 5, 6, 7, 8, 9], .q 0 (.q 1 (.q 2 (.q 3 (.q 4 (.q 5 (.q 6 (.q 7 (.f 8 (.q 9 .done) .e))))))))) else none) }
def btree_Tree_Height.W (t_b t_o : Nat) (h : Hp) (Q : Value → Hp → Prop) : Prop :=
  (∃ a1, (h.cell t_b t_o = some (.pointer a1)) ∧ ∃ n2, (h.cell t_b (t_o + 1) = some (.int .i64 n2)) ∧ CallsH Tryz.prog 47 (#[.pointer a1, .int .i64 n2]) (h) (fun v3 h4 => ∃ n5, (v3 = .int .i64 n5) ∧ ∃ (J6 : Int → Int → Hp → Nat → Prop), (∃ k7, J6 0 n5 h4 k7) ∧ ∀ (n8 : Int), ∀ (n9 : Int), ∀ (x10 : Hp), ∀ (k11 : Nat), (J6 n8 n9 x10 k11) → (bif hb (n9 != 0) then (CallsH Tryz.prog 48 (#[.pointer (some ⟨t_b, t_o, none⟩), .int .i64 n9]) (x10) (fun v12 h13 => ∃ a14, ∃ n15, (v12 = .tuple #[.pointer a14, .int .i64 n15]) ∧ bif hb (n15 != 0) then (Q (.int .i64 (IntKind.i64.wrap (n8 + 1))) h13) else (∃ k16, ∃ k17, (a14 = some ⟨k16, k17, none⟩) ∧ ∃ n18, (h13.cell k16 k17 = some (.int .i64 n18)) ∧ bif hb (n18 == 1) then (Q (.int .i64 (IntKind.i64.wrap (n8 + 1))) h13) else (∃ k19, ∃ k20, (a14 = some ⟨k19, k20, none⟩) ∧ ∃ n21, (h13.cell k19 (k20 + 1) = some (.int .i64 n21)) ∧ ∃ k22, (k22 < k11) ∧ J6 (IntKind.i64.wrap (n8 + 1)) n21 h13 k22)))) else (Q (.int .i64 n8) x10))))
theorem btree_Tree_Height.calls (t_b t_o : Nat) {h : Hp} {Q : Value → Hp → Prop} (hW : btree_Tree_Height.W t_b t_o h Q) : CallsH Tryz.prog 25 #[.pointer (some ⟨t_b, t_o, none⟩)] h Q := by
  have hE_ : bodyW Tryz.prog btree_Tree_Height.H Tryz.f25 [.ptr t_b t_o] h Q = btree_Tree_Height.W t_b t_o h Q := by kernel_rfl
  rw [← hE_] at hW
  exact calls_of_body (H := btree_Tree_Height.H) (args := [.ptr t_b t_o]) Tryz.func25 Tryz.ntmps25 rfl rfl hW

def law15_value.H : Hints := { N := 39, loc := (fun i => Nat.beq i 1 || false), join := (fun _ => none), loop := (fun i => bif Nat.beq i 5 then some [.slot 4 (.int .i64)] else none), ifc := 0, order := (fun _ => none) }
def law15_value.W (o_0 : Int) (o_1 : Int) (o_2 : Int) (o_3 : ByteArray) (o_4 : ByteArray) (o_5 : ByteArray) (h : Hp) (Q : Value → Hp → Prop) : Prop :=
  (bif hb (decide (o_2 < 0)) then (Q (.string o_5) h) else (bif hb (decide (o_2 > 1000)) then (Q (.string o_5) h) else ((0 ≤ o_2) ∧ (o_2 ≤ o_2) ∧ (1 * o_2 ≤ 281474976710656) ∧ (o_2 ≤ 9223372036854775807) ∧ ∀ (k1 : Nat), ((h k1 = none) → (∃ (J2 : Int → Hp → Nat → Prop), (∃ k3, J2 0 (h.upd k1 (.cells (repV o_2.toNat [.int .u8 0]).toArray 5 (0, 0))) k3) ∧ ∀ (n4 : Int), ∀ (x5 : Hp), ∀ (k6 : Nat), (J2 n4 x5 k6) → (bif hb (decide (n4 < Int.ofNat o_2.toNat)) then ((0 ≤ n4) ∧ (n4 < Int.ofNat o_2.toNat) ∧ ∃ k7, ∃ k8, ((some ⟨k1, 0, none⟩ : Option Addr) = some ⟨k7, k8, none⟩) ∧ (StoreOk x5 k7 (k8 + n4.toNat * 1) 1) ∧ bif hb (decide (Int.ofNat o_5.size > 0)) then (bif true && Nat.blt 0 o_5.size then ((0 ≤ n4) ∧ (n4 < Int.ofNat o_2.toNat) ∧ ∃ k9, ∃ k10, ((some ⟨k1, 0, none⟩ : Option Addr) = some ⟨k9, k10, none⟩) ∧ (StoreOk (x5.put k7 (k8 + n4.toNat * 1) [.int .u8 118]) k9 (k10 + n4.toNat * 1) 1) ∧ ∃ k11, (k11 < k6) ∧ J2 (IntKind.i64.wrap (n4 + 1)) ((x5.put k7 (k8 + n4.toNat * 1) [.int .u8 118]).put k9 (k10 + n4.toNat * 1) [.int .u8 (byteAt o_5 0)]) k11) else False) else (∃ k12, (k12 < k6) ∧ J2 (IntKind.i64.wrap (n4 + 1)) (x5.put k7 (k8 + n4.toNat * 1) [.int .u8 118]) k12)) else (∃ s13, (SliceAt (x5) (some ⟨k1, 0, none⟩) (o_2.toNat) (bytesV s13)) ∧ Q (.string s13) x5)))))))
theorem law15_value.calls (o_0 : Int) (o_1 : Int) (o_2 : Int) (o_3 : ByteArray) (o_4 : ByteArray) (o_5 : ByteArray) {h : Hp} {Q : Value → Hp → Prop} (hW : law15_value.W o_0 o_1 o_2 o_3 o_4 o_5 h Q) : CallsH Tryz.prog 27 #[.agg #[.int .i64 o_0, .int .i64 o_1, .int .i64 o_2, .string o_3, .string o_4, .string o_5]] h Q := by
  have hE_ : bodyW Tryz.prog law15_value.H Tryz.f27 [.val (.agg #[.int .i64 o_0, .int .i64 o_1, .int .i64 o_2, .string o_3, .string o_4, .string o_5])] h Q = law15_value.W o_0 o_1 o_2 o_3 o_4 o_5 h Q := by kernel_rfl
  rw [← hE_] at hW
  exact calls_of_body (H := law15_value.H) (args := [.val (.agg #[.int .i64 o_0, .int .i64 o_1, .int .i64 o_2, .string o_3, .string o_4, .string o_5])]) Tryz.func27 Tryz.ntmps27 rfl rfl hW

def ref08_Same.H : Hints := { N := 26, loc := (fun _ => false), join := (fun _ => none), loop := (fun i => bif Nat.beq i 4 then some [.slot 5 (.int .i64)] else none), ifc := 0, order := (fun i => bif Nat.beq i 6 then some (none, false, [0, 1, 2, 3, 4, 5, 6, 7, 8], .q 0 (.q 1 (.q 2 (.q 3 (.q 4 (.q 5 (.q 6 (.q 7 (.q 8 .done))))))))) else none) }
def ref08_Same.W (aa : Option Addr) (al ac : Nat) (ba : Option Addr) (bl bc : Nat) (h : Hp) (Q : Value → Hp → Prop) : Prop :=
  (bif hb (Int.ofNat al != Int.ofNat bl) then (Q (.bool false) h) else (∃ (J1 : Int → Hp → Nat → Prop), (∃ k2, J1 0 h k2) ∧ ∀ (n3 : Int), ∀ (x4 : Hp), ∀ (k5 : Nat), (J1 n3 x4 k5) → (bif hb (decide (n3 < Int.ofNat al)) then ((0 ≤ n3) ∧ (n3 < Int.ofNat al) ∧ ∃ k6, ∃ k7, (aa = some ⟨k6, k7, none⟩) ∧ ∃ s8, (x4.cell k6 (k7 + n3.toNat * 2) = some (.string s8)) ∧ ∃ s9, (x4.cell k6 (k7 + n3.toNat * 2 + 1) = some (.string s9)) ∧ (0 ≤ n3) ∧ (n3 < Int.ofNat bl) ∧ ∃ k10, ∃ k11, (ba = some ⟨k10, k11, none⟩) ∧ ∃ s12, (x4.cell k10 (k11 + n3.toNat * 2) = some (.string s12)) ∧ ∃ s13, (x4.cell k10 (k11 + n3.toNat * 2 + 1) = some (.string s13)) ∧ bif !(beqS s8 s12 && (beqS s9 s13 && true)) then (Q (.bool false) x4) else (∃ k14, (k14 < k5) ∧ J1 (IntKind.i64.wrap (n3 + 1)) x4 k14)) else (Q (.bool true) x4))))
theorem ref08_Same.calls (aa : Option Addr) (al ac : Nat) (ba : Option Addr) (bl bc : Nat) {h : Hp} {Q : Value → Hp → Prop} (hW : ref08_Same.W aa al ac ba bl bc h Q) : CallsH Tryz.prog 34 #[.slice aa al ac, .slice ba bl bc] h Q := by
  have hE_ : bodyW Tryz.prog ref08_Same.H Tryz.f34 [.val (.slice aa al ac), .val (.slice ba bl bc)] h Q = ref08_Same.W aa al ac ba bl bc h Q := by kernel_rfl
  rw [← hE_] at hW
  exact calls_of_body (H := ref08_Same.H) (args := [.val (.slice aa al ac), .val (.slice ba bl bc)]) Tryz.func34 Tryz.ntmps34 rfl rfl hW

def law15_top.H : Hints := { N := 8, loc := (fun _ => false), join := (fun _ => none), loop := (fun i => bif Nat.beq i 2 then some [.slot 1 (.str)] else none), ifc := 0, order := (fun _ => none) }
def law15_top.W  (h : Hp) (Q : Value → Hp → Prop) : Prop :=
  (∃ (J1 : ByteArray → Hp → Nat → Prop), (∃ k2, J1 (bytesL [255]) h k2) ∧ ∀ (s3 : ByteArray), ∀ (x4 : Hp), ∀ (k5 : Nat), (J1 s3 x4 k5) → (bif hb (decide (Int.ofNat s3.size < 65)) then ((s3.size + (bytesL [255]).size ≤ 9223372036854775807) ∧ ∃ k6, (k6 < k5) ∧ J1 (s3 ++ bytesL [255]) x4 k6) else (Q (.string s3) x4)))
theorem law15_top.calls  {h : Hp} {Q : Value → Hp → Prop} (hW : law15_top.W  h Q) : CallsH Tryz.prog 46 #[] h Q := by
  have hE_ : bodyW Tryz.prog law15_top.H Tryz.f46 [] h Q = law15_top.W  h Q := by kernel_rfl
  rw [← hE_] at hW
  exact calls_of_body (H := law15_top.H) (args := []) Tryz.func46 Tryz.ntmps46 rfl rfl hW

def btree_Tree_load.H : Hints := { N := 30, loc := (fun _ => false), join := (fun _ => none), loop := (fun _ => none), ifc := 0, order := (fun _ => none) }
def btree_Tree_load.W (t_b t_o : Nat) (id : Int) (h : Hp) (Q : Value → Hp → Prop) : Prop :=
  (∃ a1, (h.cell t_b t_o = some (.pointer a1)) ∧ CallsH Tryz.prog 87 (#[.pointer a1, .int .i64 id]) (h) (fun v2 h3 => ∃ s4, ∃ n5, (v2 = .tuple #[.string s4, .int .i64 n5]) ∧ bif hb (n5 != 0) then (Q (.tuple #[.pointer none, .int .i64 n5]) h3) else (CallsH Tryz.prog 88 (#[.string s4]) (h3) (fun v6 h7 => ∃ a8, ∃ b9, (v6 = .tuple #[.pointer a8, .bool b9]) ∧ bif !b9 then (Q (.tuple #[.pointer none, .int .i64 4]) h7) else (Q (.tuple #[.pointer a8, .int .i64 0]) h7)))))
theorem btree_Tree_load.calls (t_b t_o : Nat) (id : Int) {h : Hp} {Q : Value → Hp → Prop} (hW : btree_Tree_load.W t_b t_o id h Q) : CallsH Tryz.prog 48 #[.pointer (some ⟨t_b, t_o, none⟩), .int .i64 id] h Q := by
  have hE_ : bodyW Tryz.prog btree_Tree_load.H Tryz.f48 [.ptr t_b t_o, .val (.int .i64 id)] h Q = btree_Tree_load.W t_b t_o id h Q := by kernel_rfl
  rw [← hE_] at hW
  exact calls_of_body (H := btree_Tree_load.H) (args := [.ptr t_b t_o, .val (.int .i64 id)]) Tryz.func48 Tryz.ntmps48 rfl rfl hW

def btree_node_place.H : Hints := { N := 12, loc := (fun _ => false), join := (fun _ => none), loop := (fun _ => none), ifc := 0, order := (fun _ => none) }
def btree_node_place.W (n_b n_o : Nat) (key : ByteArray) (h : Hp) (Q : Value → Hp → Prop) : Prop :=
  (∀ (k1 : Nat), ((h k1 = none) → (∀ (k2 : Nat), ((h.upd k1 (.cells #[.pointer (some ⟨n_b, n_o, none⟩)] 92 (0, 0)) k2 = none) → (∃ a3, (((h.upd k1 (.cells #[.pointer (some ⟨n_b, n_o, none⟩)] 92 (0, 0))).upd k2 (.cells #[.string key] 9 (0, 0))).cell k1 0 = some (.pointer a3)) ∧ ∃ k4, ∃ k5, (a3 = some ⟨k4, k5, none⟩) ∧ ∃ a6, ∃ k7, ∃ k8, (((h.upd k1 (.cells #[.pointer (some ⟨n_b, n_o, none⟩)] 92 (0, 0))).upd k2 (.cells #[.string key] 9 (0, 0))).cell k4 (k5 + 2) = some (.slice a6 k7 k8)) ∧ CallsH Tryz.prog 89 (#[.int .i64 (Int.ofNat k7), .func (Fn.func 90) #[] #[.pointer (some ⟨k1, 0, none⟩), .pointer (some ⟨k2, 0, none⟩)]]) ((h.upd k1 (.cells #[.pointer (some ⟨n_b, n_o, none⟩)] 92 (0, 0))).upd k2 (.cells #[.string key] 9 (0, 0))) (fun v9 h10 => ∃ n11, (v9 = .int .i64 n11) ∧ Q (.int .i64 n11) h10))))))
theorem btree_node_place.calls (n_b n_o : Nat) (key : ByteArray) {h : Hp} {Q : Value → Hp → Prop} (hW : btree_node_place.W n_b n_o key h Q) : CallsH Tryz.prog 49 #[.pointer (some ⟨n_b, n_o, none⟩), .string key] h Q := by
  have hE_ : bodyW Tryz.prog btree_node_place.H Tryz.f49 [.ptr n_b n_o, .val (.string key)] h Q = btree_node_place.W n_b n_o key h Q := by kernel_rfl
  rw [← hE_] at hW
  exact calls_of_body (H := btree_node_place.H) (args := [.ptr n_b n_o, .val (.string key)]) Tryz.func49 Tryz.ntmps49 rfl rfl hW

def btree_node_kid.H : Hints := { N := 19, loc := (fun _ => false), join := (fun _ => none), loop := (fun _ => none), ifc := 0, order := (fun _ => none) }
def btree_node_kid.W (n_b n_o : Nat) (i : Int) (h : Hp) (Q : Value → Hp → Prop) : Prop :=
  (bif hb (decide (i < 0)) then (∃ n1, (h.cell n_b (n_o + 1) = some (.int .i64 n1)) ∧ Q (.int .i64 n1) h) else (∃ a2, ∃ k3, ∃ k4, (h.cell n_b (n_o + 2) = some (.slice a2 k3 k4)) ∧ (0 ≤ i) ∧ (i < Int.ofNat k3) ∧ ∃ k5, ∃ k6, (a2 = some ⟨k5, k6, none⟩) ∧ ∃ n7, (h.cell k5 (k6 + i.toNat * 3 + 2) = some (.int .i64 n7)) ∧ Q (.int .i64 n7) h))
theorem btree_node_kid.calls (n_b n_o : Nat) (i : Int) {h : Hp} {Q : Value → Hp → Prop} (hW : btree_node_kid.W n_b n_o i h Q) : CallsH Tryz.prog 50 #[.pointer (some ⟨n_b, n_o, none⟩), .int .i64 i] h Q := by
  have hE_ : bodyW Tryz.prog btree_node_kid.H Tryz.f50 [.ptr n_b n_o, .val (.int .i64 i)] h Q = btree_node_kid.W n_b n_o i h Q := by kernel_rfl
  rw [← hE_] at hW
  exact calls_of_body (H := btree_node_kid.H) (args := [.ptr n_b n_o, .val (.int .i64 i)]) Tryz.func50 Tryz.ntmps50 rfl rfl hW

def btree_node_below.H : Hints := { N := 13, loc := (fun _ => false), join := (fun _ => none), loop := (fun _ => none), ifc := 0, order := (fun _ => none) }
def btree_node_below.W (n_b n_o : Nat) (key : ByteArray) (h : Hp) (Q : Value → Hp → Prop) : Prop :=
  (∀ (k1 : Nat), ((h k1 = none) → (∀ (k2 : Nat), ((h.upd k1 (.cells #[.pointer (some ⟨n_b, n_o, none⟩)] 92 (0, 0)) k2 = none) → (∃ a3, (((h.upd k1 (.cells #[.pointer (some ⟨n_b, n_o, none⟩)] 92 (0, 0))).upd k2 (.cells #[.string key] 9 (0, 0))).cell k1 0 = some (.pointer a3)) ∧ ∃ k4, ∃ k5, (a3 = some ⟨k4, k5, none⟩) ∧ ∃ a6, ∃ k7, ∃ k8, (((h.upd k1 (.cells #[.pointer (some ⟨n_b, n_o, none⟩)] 92 (0, 0))).upd k2 (.cells #[.string key] 9 (0, 0))).cell k4 (k5 + 2) = some (.slice a6 k7 k8)) ∧ CallsH Tryz.prog 89 (#[.int .i64 (Int.ofNat k7), .func (Fn.func 91) #[] #[.pointer (some ⟨k1, 0, none⟩), .pointer (some ⟨k2, 0, none⟩)]]) ((h.upd k1 (.cells #[.pointer (some ⟨n_b, n_o, none⟩)] 92 (0, 0))).upd k2 (.cells #[.string key] 9 (0, 0))) (fun v9 h10 => ∃ n11, (v9 = .int .i64 n11) ∧ Q (.int .i64 (IntKind.i64.wrap (n11 - 1))) h10))))))
theorem btree_node_below.calls (n_b n_o : Nat) (key : ByteArray) {h : Hp} {Q : Value → Hp → Prop} (hW : btree_node_below.W n_b n_o key h Q) : CallsH Tryz.prog 51 #[.pointer (some ⟨n_b, n_o, none⟩), .string key] h Q := by
  have hE_ : bodyW Tryz.prog btree_node_below.H Tryz.f51 [.ptr n_b n_o, .val (.string key)] h Q = btree_node_below.W n_b n_o key h Q := by kernel_rfl
  rw [← hE_] at hW
  exact calls_of_body (H := btree_node_below.H) (args := [.ptr n_b n_o, .val (.string key)]) Tryz.func51 Tryz.ntmps51 rfl rfl hW

def btree_may.H : Hints := { N := 18, loc := (fun _ => false), join := (fun _ => none), loop := (fun _ => none), ifc := 0, order := (fun _ => none) }
def btree_may.W (key : ByteArray) (value : ByteArray) (h : Hp) (Q : Value → Hp → Prop) : Prop :=
  (bif hb (decide (Int.ofNat key.size ≥ 1)) then (bif hb (decide (Int.ofNat key.size ≤ 64)) then (Q (.bool (hb (decide (Int.ofNat value.size ≤ 400)))) h) else (Q (.bool false) h)) else (Q (.bool false) h))
theorem btree_may.calls (key : ByteArray) (value : ByteArray) {h : Hp} {Q : Value → Hp → Prop} (hW : btree_may.W key value h Q) : CallsH Tryz.prog 59 #[.string key, .string value] h Q := by
  have hE_ : bodyW Tryz.prog btree_may.H Tryz.f59 [.val (.string key), .val (.string value)] h Q = btree_may.W key value h Q := by kernel_rfl
  rw [← hE_] at hW
  exact calls_of_body (H := btree_may.H) (args := [.val (.string key), .val (.string value)]) Tryz.func59 Tryz.ntmps59 rfl rfl hW

def btree_Tree_store.H : Hints := { N := 14, loc := (fun _ => false), join := (fun _ => none), loop := (fun _ => none), ifc := 0, order := (fun i => bif Nat.beq i 0 then some (some 7, false, [0, 1, 2, 3, 4, 5, 6, 7], .q 0 (.q 1 (.q 2 (.q 3 (.q 4 (.q 5 (.f 6 (.f 7 (.done) .e) .e))))))) else none) }
def btree_Tree_store.W (t_b t_o : Nat) (id : Int) (n_b n_o : Nat) (h : Hp) (Q : Value → Hp → Prop) : Prop :=
  (∃ a1, (h.cell t_b t_o = some (.pointer a1)) ∧ CallsH Tryz.prog 100 (#[.pointer (some ⟨n_b, n_o, none⟩)]) (h) (fun v2 h3 => ∃ s4, (v2 = .string s4) ∧ (Gx.Sub h h3) ∧ CallsH Tryz.prog 10 (#[.pointer a1, .int .i64 id, .string s4]) (h3) (fun v5 h6 => ∃ n7, (v5 = .int .i64 n7) ∧ Q (.tuple #[]) h6)))
theorem btree_Tree_store.calls (t_b t_o : Nat) (id : Int) (n_b n_o : Nat) {h : Hp} {Q : Value → Hp → Prop} (hW : btree_Tree_store.W t_b t_o id n_b n_o h Q) : CallsH Tryz.prog 60 #[.pointer (some ⟨t_b, t_o, none⟩), .int .i64 id, .pointer (some ⟨n_b, n_o, none⟩)] h Q := by
  have hE_ : bodyW Tryz.prog btree_Tree_store.H Tryz.f60 [.ptr t_b t_o, .val (.int .i64 id), .ptr n_b n_o] h Q = btree_Tree_store.W t_b t_o id n_b n_o h Q := by kernel_rfl
  rw [← hE_] at hW
  exact calls_of_body (H := btree_Tree_store.H) (args := [.ptr t_b t_o, .val (.int .i64 id), .ptr n_b n_o]) Tryz.func60 Tryz.ntmps60 rfl rfl hW

def btree_Tree_insert.H : Hints := { N := 103, loc := (fun i => Nat.beq i 5 || false), join := (fun i => bif Nat.beq i 14 then some [] else none), loop := (fun _ => none), ifc := 0, order := (fun i => bif Nat.beq i 6 then some (none, false, [0, 1, 2, 3, 4, 5, 6, 7, 8, 9, 10, 11, 12, 13, 14, 15, 16, 17, 18, 19], .q 0 (.q 1 (.q 2 (.q 3 (.q 4 (.q 5 (.q 6 (.q 7 (.q 8 (.q 9 (.q 10 (.q 11 (.q 12 (.q 13 (.q 14 (.q 15 (.q 16 (.q 17 (.q 18 (.q 19 .done)))))))))))))))))))) else bif Nat.beq i 7 then some (some 7, false, [0, 1, 2, 3, 4, 5, 6, 7], .q 0 (.q 1 (.q 2 (.q 3 (.q 4 (.q 5 (.q 6 (.f 7 (.done) .e)))))))) else bif Nat.beq i 10 then some (some 5, false, [0, 1, 2, 4, 3, 5, 6, 7, 8, 9, 10], .q 0 (.q 1 (.q 2 (.q 4 (.f 3 (.f 5 (.q 6 (.q 7 (.q 8 (.q 9 (.q 10 .done))))) .e) .e))))) else none) }
def btree_Tree_insert.W (t_b t_o : Nat) (id : Int) (x_0 : ByteArray) (x_1 : ByteArray) (x_2 : Int) (h : Hp) (Q : Value → Hp → Prop) : Prop :=
  (CallsH Tryz.prog 48 (#[.pointer (some ⟨t_b, t_o, none⟩), .int .i64 id]) (h) (fun v1 h2 => ∃ a3, ∃ n4, (v1 = .tuple #[.pointer a3, .int .i64 n4]) ∧ bif hb (n4 != 0) then (Q (.tuple #[.pointer none, .int .i64 n4]) h2) else (∃ (J5 : Hp → Prop), (∀ (x6 : Hp), (J5 x6) → (CallsH Tryz.prog 102 (#[.pointer a3]) (x6) (fun v7 h8 => ∃ n9, (v7 = .int .i64 n9) ∧ bif hb (decide (n9 ≤ 1024)) then (CallsH Tryz.prog 60 (#[.pointer (some ⟨t_b, t_o, none⟩), .int .i64 id, .pointer a3]) (h8) (fun v10 h11 => (v10 = .tuple #[]) ∧ Q (.tuple #[.pointer none, .int .i64 0]) h11)) else (CallsH Tryz.prog 103 (#[.pointer (some ⟨t_b, t_o, none⟩), .int .i64 id, .pointer a3]) (h8) (fun v12 h13 => ∃ a14, ∃ n15, (v12 = .tuple #[.pointer a14, .int .i64 n15]) ∧ Q (.tuple #[.pointer a14, .int .i64 n15]) h13))))) ∧ ∃ k16, ∃ k17, (a3 = some ⟨k16, k17, none⟩) ∧ ∃ n18, (h2.cell k16 k17 = some (.int .i64 n18)) ∧ bif hb (n18 == 1) then (CallsH Tryz.prog 49 (#[.pointer a3, .string x_0]) (h2) (fun v19 h20 => ∃ n21, (v19 = .int .i64 n21) ∧ ∃ k22, ∃ k23, (a3 = some ⟨k22, k23, none⟩) ∧ ∃ a24, ∃ k25, ∃ k26, (h20.cell k22 (k23 + 2) = some (.slice a24 k25 k26)) ∧ bif hb (decide (n21 < Int.ofNat k25)) then (∃ k27, ∃ k28, (a3 = some ⟨k27, k28, none⟩) ∧ ∃ a29, ∃ k30, ∃ k31, (h20.cell k27 (k28 + 2) = some (.slice a29 k30 k31)) ∧ (0 ≤ n21) ∧ (n21 < Int.ofNat k30) ∧ ∃ k32, ∃ k33, (a29 = some ⟨k32, k33, none⟩) ∧ ∃ s34, (h20.cell k32 (k33 + n21.toNat * 3) = some (.string s34)) ∧ bif beqS s34 x_0 then (∃ k35, ∃ k36, (a3 = some ⟨k35, k36, none⟩) ∧ ∃ a37, ∃ k38, ∃ k39, (h20.cell k35 (k36 + 2) = some (.slice a37 k38 k39)) ∧ (0 ≤ n21) ∧ (n21 < Int.ofNat k38) ∧ ∃ k40, ∃ k41, (a37 = some ⟨k40, k41, none⟩) ∧ (StoreOk h20 k40 (k41 + n21.toNat * 3) 3) ∧ J5 (h20.put k40 (k41 + n21.toNat * 3) [.string x_0, .string x_1, .int .i64 x_2])) else (CallsH Tryz.prog 101 (#[.pointer a3, .int .i64 n21, .agg #[.string x_0, .string x_1, .int .i64 x_2]]) (h20) (fun v42 h43 => (v42 = .tuple #[]) ∧ J5 h43))) else (CallsH Tryz.prog 101 (#[.pointer a3, .int .i64 n21, .agg #[.string x_0, .string x_1, .int .i64 x_2]]) (h20) (fun v44 h45 => (v44 = .tuple #[]) ∧ J5 h45)))) else (CallsH Tryz.prog 51 (#[.pointer a3, .string x_0]) (h2) (fun v46 h47 => ∃ n48, (v46 = .int .i64 n48) ∧ CallsH Tryz.prog 50 (#[.pointer a3, .int .i64 n48]) (h47) (fun v49 h50 => ∃ n51, (v49 = .int .i64 n51) ∧ (Gx.Sub h47 h50) ∧ CallsH Tryz.prog 61 (#[.pointer (some ⟨t_b, t_o, none⟩), .int .i64 n51, .agg #[.string x_0, .string x_1, .int .i64 x_2]]) (h50) (fun v52 h53 => ∃ a54, ∃ n55, (v52 = .tuple #[.pointer a54, .int .i64 n55]) ∧ bif hb (n55 != 0) then (Q (.tuple #[.pointer none, .int .i64 n55]) h53) else (bif a54.isNone then (Q (.tuple #[.pointer none, .int .i64 n55]) h53) else (∃ k56, ∃ k57, (a54 = some ⟨k56, k57, none⟩) ∧ ∃ s58, (h53.cell k56 k57 = some (.string s58)) ∧ ∃ s59, (h53.cell k56 (k57 + 1) = some (.string s59)) ∧ ∃ n60, (h53.cell k56 (k57 + 1 + 1) = some (.int .i64 n60)) ∧ CallsH Tryz.prog 101 (#[.pointer a3, .int .i64 (IntKind.i64.wrap (n48 + 1)), .agg #[.string s58, .string s59, .int .i64 n60]]) (h53) (fun v61 h62 => (v61 = .tuple #[]) ∧ J5 h62))))))))))
theorem btree_Tree_insert.calls (t_b t_o : Nat) (id : Int) (x_0 : ByteArray) (x_1 : ByteArray) (x_2 : Int) {h : Hp} {Q : Value → Hp → Prop} (hW : btree_Tree_insert.W t_b t_o id x_0 x_1 x_2 h Q) : CallsH Tryz.prog 61 #[.pointer (some ⟨t_b, t_o, none⟩), .int .i64 id, .agg #[.string x_0, .string x_1, .int .i64 x_2]] h Q := by
  have hE_ : bodyW Tryz.prog btree_Tree_insert.H Tryz.f61 [.ptr t_b t_o, .val (.int .i64 id), .val (.agg #[.string x_0, .string x_1, .int .i64 x_2])] h Q = btree_Tree_insert.W t_b t_o id x_0 x_1 x_2 h Q := by kernel_rfl
  rw [← hE_] at hW
  exact calls_of_body (H := btree_Tree_insert.H) (args := [.ptr t_b t_o, .val (.int .i64 id), .val (.agg #[.string x_0, .string x_1, .int .i64 x_2])]) Tryz.func61 Tryz.ntmps61 rfl rfl hW

def btree_Tree_remove.H : Hints := { N := 97, loc := (fun _ => false), join := (fun _ => none), loop := (fun _ => none), ifc := 0, order := (fun i => bif Nat.beq i 8 then some (some 15, false, [0, 1, 2, 3, 4, 5, 6, 7, 8, 9, 10, 11, 12, 13, 14, 15, 16, 17, 18], .q 0 (.q 1 (.q 2 (.q 3 (.q 4 (.q 5 (.q 6 (.q 7 (.q 8 (.q 9 (.q 10 (.q 11 (.q 12 (.q 13 (.q 14 (.f 15 (.q 16 (.q 17 (.f 18 (.done) .e))) .e)))))))))))))))) else none) }
def btree_Tree_remove.W (t_b t_o : Nat) (id : Int) (key : ByteArray) (h : Hp) (Q : Value → Hp → Prop) : Prop :=
  (CallsH Tryz.prog 48 (#[.pointer (some ⟨t_b, t_o, none⟩), .int .i64 id]) (h) (fun v1 h2 => ∃ a3, ∃ n4, (v1 = .tuple #[.pointer a3, .int .i64 n4]) ∧ bif hb (n4 != 0) then (Q (.bool false) h2) else (∃ k5, ∃ k6, (a3 = some ⟨k5, k6, none⟩) ∧ ∃ n7, (h2.cell k5 k6 = some (.int .i64 n7)) ∧ bif hb (n7 == 1) then (CallsH Tryz.prog 49 (#[.pointer a3, .string key]) (h2) (fun v8 h9 => ∃ n10, (v8 = .int .i64 n10) ∧ ∃ k11, ∃ k12, (a3 = some ⟨k11, k12, none⟩) ∧ ∃ a13, ∃ k14, ∃ k15, (h9.cell k11 (k12 + 2) = some (.slice a13 k14 k15)) ∧ bif hb (n10 == Int.ofNat k14) then (Q (.bool false) h9) else (∃ k16, ∃ k17, (a3 = some ⟨k16, k17, none⟩) ∧ ∃ a18, ∃ k19, ∃ k20, (h9.cell k16 (k17 + 2) = some (.slice a18 k19 k20)) ∧ (0 ≤ n10) ∧ (n10 < Int.ofNat k19) ∧ ∃ k21, ∃ k22, (a18 = some ⟨k21, k22, none⟩) ∧ ∃ s23, (h9.cell k21 (k22 + n10.toNat * 3) = some (.string s23)) ∧ bif !beqS s23 key then (Q (.bool false) h9) else (∃ k24, ∃ k25, (a3 = some ⟨k24, k25, none⟩) ∧ ∃ a26, ∃ k27, ∃ k28, (h9.cell k24 (k25 + 2) = some (.slice a26 k27 k28)) ∧ (0 ≤ n10) ∧ (n10 ≤ Int.ofNat k28) ∧ (0 ≤ n10) ∧ (n10 ≤ Int.ofNat n10.toNat) ∧ ∃ k29, ∃ k30, (a3 = some ⟨k29, k30, none⟩) ∧ ∃ a31, ∃ k32, ∃ k33, (h9.cell k29 (k30 + 2) = some (.slice a31 k32 k33)) ∧ (0 ≤ IntKind.i64.wrap (n10 + 1)) ∧ (IntKind.i64.wrap (n10 + 1) ≤ Int.ofNat k32) ∧ ∃ (xs34 : List Value), (SliceAt (h9) (slA k33 (IntKind.i64.wrap (n10 + 1)).toNat 3 a31) ((k32 - (IntKind.i64.wrap (n10 + 1)).toNat) * 3) (xs34)) ∧ ∃ (J35 : Option Addr → Nat → Hp → Prop), (∀ (a36 : Option Addr), ∀ (k37 : Nat), ∀ (x38 : Hp), (J35 a36 k37 x38) → (∃ k39, ∃ k40, (a3 = some ⟨k39, k40, none⟩) ∧ (StoreOk x38 k39 (k40 + 2) 1) ∧ CallsH Tryz.prog 60 (#[.pointer (some ⟨t_b, t_o, none⟩), .int .i64 id, .pointer a3]) (x38.put k39 (k40 + 2) [.slice a36 (n10.toNat + (k32 - (IntKind.i64.wrap (n10 + 1)).toNat)) k37]) (fun v41 h42 => (v41 = .tuple #[]) ∧ Q (.bool true) h42))) ∧ appendC Tryz.prog 100 (slA n10.toNat 0 3 a26) n10.toNat n10.toNat h9 xs34 (k32 - (IntKind.i64.wrap (n10 + 1)).toNat) J35)))) else (CallsH Tryz.prog 51 (#[.pointer a3, .string key]) (h2) (fun v43 h44 => ∃ n45, (v43 = .int .i64 n45) ∧ CallsH Tryz.prog 50 (#[.pointer a3, .int .i64 n45]) (h44) (fun v46 h47 => ∃ n48, (v46 = .int .i64 n48) ∧ CallsH Tryz.prog 62 (#[.pointer (some ⟨t_b, t_o, none⟩), .int .i64 n48, .string key]) (h47) (fun v49 h50 => ∃ b51, (v49 = .bool b51) ∧ bif !b51 then (Q (.bool false) h50) else (CallsH Tryz.prog 104 (#[.pointer (some ⟨t_b, t_o, none⟩), .pointer a3, .int .i64 n45]) (h50) (fun v52 h53 => ∃ b54, (v52 = .bool b54) ∧ CallsH Tryz.prog 104 (#[.pointer (some ⟨t_b, t_o, none⟩), .pointer a3, .int .i64 (IntKind.i64.wrap (n45 - 1))]) (h53) (fun v55 h56 => ∃ b57, (v55 = .bool b57) ∧ bif b54 then (CallsH Tryz.prog 60 (#[.pointer (some ⟨t_b, t_o, none⟩), .int .i64 id, .pointer a3]) (h56) (fun v58 h59 => (v58 = .tuple #[]) ∧ Q (.bool true) h59)) else (bif b57 then (CallsH Tryz.prog 60 (#[.pointer (some ⟨t_b, t_o, none⟩), .int .i64 id, .pointer a3]) (h56) (fun v60 h61 => (v60 = .tuple #[]) ∧ Q (.bool true) h61)) else (Q (.bool true) h56))))))))))))
theorem btree_Tree_remove.calls (t_b t_o : Nat) (id : Int) (key : ByteArray) {h : Hp} {Q : Value → Hp → Prop} (hW : btree_Tree_remove.W t_b t_o id key h Q) : CallsH Tryz.prog 62 #[.pointer (some ⟨t_b, t_o, none⟩), .int .i64 id, .string key] h Q := by
  have hE_ : bodyW Tryz.prog btree_Tree_remove.H Tryz.f62 [.ptr t_b t_o, .val (.int .i64 id), .val (.string key)] h Q = btree_Tree_remove.W t_b t_o id key h Q := by kernel_rfl
  rw [← hE_] at hW
  exact calls_of_body (H := btree_Tree_remove.H) (args := [.ptr t_b t_o, .val (.int .i64 id), .val (.string key)]) Tryz.func62 Tryz.ntmps62 rfl rfl hW

def btree_node_keys.H : Hints := { N := 39, loc := (fun _ => false), join := (fun i => bif Nat.beq i 3 then some [.slot 2 (.str)] else none), loop := (fun _ => none), ifc := 0, order := (fun _ => none) }
def btree_node_keys.W (n_b n_o : Nat) (i : Int) (p2 : ByteArray) (to : ByteArray) (h : Hp) (Q : Value → Hp → Prop) : Prop :=
  (∃ (J1 : ByteArray → Hp → Prop), (∀ (s2 : ByteArray), ∀ (x3 : Hp), (J1 s2 x3) → (∃ a4, ∃ k5, ∃ k6, (x3.cell n_b (n_o + 2) = some (.slice a4 k5 k6)) ∧ bif hb (decide (IntKind.i64.wrap (i + 1) < Int.ofNat k5)) then (∃ a7, ∃ k8, ∃ k9, (x3.cell n_b (n_o + 2) = some (.slice a7 k8 k9)) ∧ (0 ≤ IntKind.i64.wrap (i + 1)) ∧ (IntKind.i64.wrap (i + 1) < Int.ofNat k8) ∧ ∃ k10, ∃ k11, (a7 = some ⟨k10, k11, none⟩) ∧ ∃ s12, (x3.cell k10 (k11 + (IntKind.i64.wrap (i + 1)).toNat * 3) = some (.string s12)) ∧ Q (.tuple #[.string s2, .string s12]) x3) else (Q (.tuple #[.string s2, .string to]) x3))) ∧ bif hb (decide (i ≥ 0)) then (∃ a13, ∃ k14, ∃ k15, (h.cell n_b (n_o + 2) = some (.slice a13 k14 k15)) ∧ (0 ≤ i) ∧ (i < Int.ofNat k14) ∧ ∃ k16, ∃ k17, (a13 = some ⟨k16, k17, none⟩) ∧ ∃ s18, (h.cell k16 (k17 + i.toNat * 3) = some (.string s18)) ∧ J1 s18 h) else (J1 p2 h))
theorem btree_node_keys.calls (n_b n_o : Nat) (i : Int) (p2 : ByteArray) (to : ByteArray) {h : Hp} {Q : Value → Hp → Prop} (hW : btree_node_keys.W n_b n_o i p2 to h Q) : CallsH Tryz.prog 66 #[.pointer (some ⟨n_b, n_o, none⟩), .int .i64 i, .string p2, .string to] h Q := by
  have hE_ : bodyW Tryz.prog btree_node_keys.H Tryz.f66 [.ptr n_b n_o, .val (.int .i64 i), .val (.string p2), .val (.string to)] h Q = btree_node_keys.W n_b n_o i p2 to h Q := by kernel_rfl
  rw [← hE_] at hW
  exact calls_of_body (H := btree_node_keys.H) (args := [.ptr n_b n_o, .val (.int .i64 i), .val (.string p2), .val (.string to)]) Tryz.func66 Tryz.ntmps66 rfl rfl hW

def btree_parse.H : Hints := { N := 122, loc := (fun i => Nat.beq i 8 || false), join := (fun i => bif Nat.beq i 8 then some [.slot 5 (.int .i64)] else bif Nat.beq i 18 then some [.slot 9 (.int .i64), .blk 8 [.str, .str, .int .i64]] else none), loop := (fun i => bif Nat.beq i 9 then some [.slot 5 (.int .i64), .slot 42 (.int .i64)] else none), ifc := 0, order := (fun i => bif Nat.beq i 12 then some (some 7, false, [0, 1, 2, 3, 4, 5, 6, 7, 8, 9], .q 0 (.q 1 (.q 2 (.q 3 (.q 4 (.q 5 (.q 6 (.f 7 (.q 8 (.q 9 .done)) .e)))))))) else bif Nat.beq i 20 then some (some 17, false, [0, 1, 2, 3, 4, 5, 6, 7, 8, 9, 10, 11, 12, 13, 14, 15, 16, 17, 18, 19], .q 0 (.q 1 (.q 2 (.q 3 (.q 4 (.q 5 (.q 6 (.q 7 (.q 8 (.q 9 (.q 10 (.q 11 (.q 12 (.q 13 (.q 14 (.q 15 (.q 16 (.f 17 (.q 18 (.f 19 (.done) .e)) .e)))))))))))))))))) else bif Nat.beq i 24 then some (some 7, false, [0, 1, 2, 3, 4, 5, 6, 7, 8, 9, 10], .q 0 (.q 1 (.q 2 (.q 3 (.q 4 (.q 5 (.f 6 (.f 7 (.q 8 (.q 9 (.f 10 (.done) .e))) .e) .e))))))) else none) }
def btree_parse.W (b : ByteArray) (h : Hp) (Q : Value → Hp → Prop) : Prop :=
  (bif true && Nat.blt 0 b.size then (∀ (k1 : Nat), ((h k1 = none) → (∃ n2, ((h.upd k1 (.cells (setL [.int .i64 0, .int .i64 0, .slice none 0 0] 0 [.int .i64 (IntKind.i64.wrap (byteAt b 0))]).toArray 97 (0, 0))).cell k1 0 = some (.int .i64 n2)) ∧ bif hb (n2 != 1) then (∃ n3, ((h.upd k1 (.cells (setL [.int .i64 0, .int .i64 0, .slice none 0 0] 0 [.int .i64 (IntKind.i64.wrap (byteAt b 0))]).toArray 97 (0, 0))).cell k1 0 = some (.int .i64 n3)) ∧ bif hb (n3 != 2) then (Q (.tuple #[.pointer none, .bool false]) (h.upd k1 (.cells #[.int .i64 (IntKind.i64.wrap (byteAt b 0)), .int .i64 0, .slice none 0 0] 97 (0, 0)))) else (∃ (J4 : Int → Hp → Prop), (∀ (n5 : Int), ∀ (x6 : Hp), (J4 n5 x6) → (CallsH Tryz.prog 117 (#[.string b, .int .i64 1]) (x6) (fun v7 h8 => ∃ n9, (v7 = .int .i64 n9) ∧ ∃ (J10 : Int → Int → Hp → Nat → Prop), (∃ k11, J10 n5 0 h8 k11) ∧ ∀ (n12 : Int), ∀ (n13 : Int), ∀ (x14 : Hp), ∀ (k15 : Nat), (J10 n12 n13 x14 k15) → (bif hb (decide (n13 < n9)) then (bif hb (decide (IntKind.i64.wrap (n12 + 3) > Int.ofNat b.size)) then (Q (.tuple #[.pointer none, .bool false]) x14) else ((0 ≤ n12) ∧ (n12 < Int.ofNat b.size) ∧ CallsH Tryz.prog 117 (#[.string b, .int .i64 (IntKind.i64.wrap (n12 + 1))]) (x14) (fun v16 h17 => ∃ n18, (v16 = .int .i64 n18) ∧ ∃ (J19 : Int → ByteArray → ByteArray → Int → Hp → Prop), (∀ (n20 : Int), ∀ (s21 : ByteArray), ∀ (s22 : ByteArray), ∀ (n23 : Int), ∀ (x24 : Hp), (J19 n20 s21 s22 n23 x24) → (bif hb (decide (IntKind.i64.wrap (IntKind.i64.wrap (byteAt b n12.toNat) + n20) > IntKind.i64.wrap (Int.ofNat b.size - IntKind.i64.wrap (n12 + 3)))) then (Q (.tuple #[.pointer none, .bool false]) x24) else ((0 ≤ IntKind.i64.wrap (IntKind.i64.wrap (n12 + 3) + IntKind.i64.wrap (byteAt b n12.toNat))) ∧ (IntKind.i64.wrap (IntKind.i64.wrap (n12 + 3) + IntKind.i64.wrap (byteAt b n12.toNat)) ≤ Int.ofNat b.size) ∧ (0 ≤ IntKind.i64.wrap (n12 + 3)) ∧ (IntKind.i64.wrap (n12 + 3) ≤ Int.ofNat (IntKind.i64.wrap (IntKind.i64.wrap (n12 + 3) + IntKind.i64.wrap (byteAt b n12.toNat))).toNat) ∧ (0 ≤ IntKind.i64.wrap (IntKind.i64.wrap (IntKind.i64.wrap (n12 + 3) + IntKind.i64.wrap (byteAt b n12.toNat)) + n20)) ∧ (IntKind.i64.wrap (IntKind.i64.wrap (IntKind.i64.wrap (n12 + 3) + IntKind.i64.wrap (byteAt b n12.toNat)) + n20) ≤ Int.ofNat b.size) ∧ (0 ≤ IntKind.i64.wrap (IntKind.i64.wrap (n12 + 3) + IntKind.i64.wrap (byteAt b n12.toNat))) ∧ (IntKind.i64.wrap (IntKind.i64.wrap (n12 + 3) + IntKind.i64.wrap (byteAt b n12.toNat)) ≤ Int.ofNat (IntKind.i64.wrap (IntKind.i64.wrap (IntKind.i64.wrap (n12 + 3) + IntKind.i64.wrap (byteAt b n12.toNat)) + n20)).toNat) ∧ CallsH Tryz.prog 59 (#[.string (b.extract (IntKind.i64.wrap (n12 + 3)).toNat (IntKind.i64.wrap (IntKind.i64.wrap (n12 + 3) + IntKind.i64.wrap (byteAt b n12.toNat))).toNat), .string (b.extract (IntKind.i64.wrap (IntKind.i64.wrap (n12 + 3) + IntKind.i64.wrap (byteAt b n12.toNat))).toNat (IntKind.i64.wrap (IntKind.i64.wrap (IntKind.i64.wrap (n12 + 3) + IntKind.i64.wrap (byteAt b n12.toNat)) + n20)).toNat)]) (x24) (fun v25 h26 => ∃ b27, (v25 = .bool b27) ∧ bif !b27 then (Q (.tuple #[.pointer none, .bool false]) h26) else (∃ a28, ∃ k29, ∃ k30, (h26.cell k1 2 = some (.slice a28 k29 k30)) ∧ ∀ (k31 : Nat), (h26 k31 = none) → ((Gx.Sub h26 (h26.upd k31 (.cells #[.string (b.extract (IntKind.i64.wrap (n12 + 3)).toNat (IntKind.i64.wrap (IntKind.i64.wrap (n12 + 3) + IntKind.i64.wrap (byteAt b n12.toNat))).toNat), .string (b.extract (IntKind.i64.wrap (IntKind.i64.wrap (n12 + 3) + IntKind.i64.wrap (byteAt b n12.toNat))).toNat (IntKind.i64.wrap (IntKind.i64.wrap (IntKind.i64.wrap (n12 + 3) + IntKind.i64.wrap (byteAt b n12.toNat)) + n20)).toNat), .int .i64 n23] 100 (0, 0)))) ∧ ∃ (xs32 : List Value), (SliceAt (h26.upd k31 (.cells #[.string (b.extract (IntKind.i64.wrap (n12 + 3)).toNat (IntKind.i64.wrap (IntKind.i64.wrap (n12 + 3) + IntKind.i64.wrap (byteAt b n12.toNat))).toNat), .string (b.extract (IntKind.i64.wrap (IntKind.i64.wrap (n12 + 3) + IntKind.i64.wrap (byteAt b n12.toNat))).toNat (IntKind.i64.wrap (IntKind.i64.wrap (IntKind.i64.wrap (n12 + 3) + IntKind.i64.wrap (byteAt b n12.toNat)) + n20)).toNat), .int .i64 n23] 100 (0, 0))) (some ⟨k31, 0, none⟩) (3) (xs32)) ∧ ∃ (J33 : Option Addr → Nat → Hp → Prop), (∀ (a34 : Option Addr), ∀ (k35 : Nat), ∀ (x36 : Hp), (J33 a34 k35 x36) → ((StoreOk x36 k1 2 1) ∧ ∃ k37, (k37 < k15) ∧ J10 (IntKind.i64.wrap (IntKind.i64.wrap (n12 + 3) + IntKind.i64.wrap (IntKind.i64.wrap (byteAt b n12.toNat) + n20))) (IntKind.i64.wrap (n13 + 1)) (x36.put k1 2 [.slice a34 (k29 + 1) k35]) k37)) ∧ appendC Tryz.prog 100 a28 k29 k30 (h26.upd k31 (.cells #[.string (b.extract (IntKind.i64.wrap (n12 + 3)).toNat (IntKind.i64.wrap (IntKind.i64.wrap (n12 + 3) + IntKind.i64.wrap (byteAt b n12.toNat))).toNat), .string (b.extract (IntKind.i64.wrap (IntKind.i64.wrap (n12 + 3) + IntKind.i64.wrap (byteAt b n12.toNat))).toNat (IntKind.i64.wrap (IntKind.i64.wrap (IntKind.i64.wrap (n12 + 3) + IntKind.i64.wrap (byteAt b n12.toNat)) + n20)).toNat), .int .i64 n23] 100 (0, 0))) xs32 1 J33)))))) ∧ ∃ n38, (h17.cell k1 0 = some (.int .i64 n38)) ∧ bif hb (n38 == 1) then (J19 n18 (bytesL []) (bytesL []) 0 h17) else (J19 0 (bytesL []) (bytesL []) n18 h17)))) else ((0 ≤ n12) ∧ (n12 ≤ Int.ofNat b.size) ∧ CallsH Tryz.prog 118 (#[.string (b.extract n12.toNat b.size), .string (bytesL [0])]) (x14) (fun v39 h40 => ∃ s41, (v39 = .string s41) ∧ Q (.tuple #[.pointer (some ⟨k1, 0, none⟩), .bool (beqS s41 (bytesL []))]) h40)))))) ∧ ∃ n42, ((h.upd k1 (.cells (setL [.int .i64 0, .int .i64 0, .slice none 0 0] 0 [.int .i64 (IntKind.i64.wrap (byteAt b 0))]).toArray 97 (0, 0))).cell k1 0 = some (.int .i64 n42)) ∧ bif hb (n42 == 2) then (CallsH Tryz.prog 117 (#[.string b, .int .i64 3]) (h.upd k1 (.cells #[.int .i64 (IntKind.i64.wrap (byteAt b 0)), .int .i64 0, .slice none 0 0] 97 (0, 0))) (fun v43 h44 => ∃ n45, (v43 = .int .i64 n45) ∧ (StoreOk h44 k1 1 1) ∧ J4 (IntKind.i64.wrap (Int.ofNat 3 + 2)) (h44.put k1 1 [.int .i64 n45]))) else (J4 3 (h.upd k1 (.cells #[.int .i64 (IntKind.i64.wrap (byteAt b 0)), .int .i64 0, .slice none 0 0] 97 (0, 0)))))) else (∃ (J46 : Int → Hp → Prop), (∀ (n47 : Int), ∀ (x48 : Hp), (J46 n47 x48) → (CallsH Tryz.prog 117 (#[.string b, .int .i64 1]) (x48) (fun v49 h50 => ∃ n51, (v49 = .int .i64 n51) ∧ ∃ (J52 : Int → Int → Hp → Nat → Prop), (∃ k53, J52 n47 0 h50 k53) ∧ ∀ (n54 : Int), ∀ (n55 : Int), ∀ (x56 : Hp), ∀ (k57 : Nat), (J52 n54 n55 x56 k57) → (bif hb (decide (n55 < n51)) then (bif hb (decide (IntKind.i64.wrap (n54 + 3) > Int.ofNat b.size)) then (Q (.tuple #[.pointer none, .bool false]) x56) else ((0 ≤ n54) ∧ (n54 < Int.ofNat b.size) ∧ CallsH Tryz.prog 117 (#[.string b, .int .i64 (IntKind.i64.wrap (n54 + 1))]) (x56) (fun v58 h59 => ∃ n60, (v58 = .int .i64 n60) ∧ ∃ (J61 : Int → ByteArray → ByteArray → Int → Hp → Prop), (∀ (n62 : Int), ∀ (s63 : ByteArray), ∀ (s64 : ByteArray), ∀ (n65 : Int), ∀ (x66 : Hp), (J61 n62 s63 s64 n65 x66) → (bif hb (decide (IntKind.i64.wrap (IntKind.i64.wrap (byteAt b n54.toNat) + n62) > IntKind.i64.wrap (Int.ofNat b.size - IntKind.i64.wrap (n54 + 3)))) then (Q (.tuple #[.pointer none, .bool false]) x66) else ((0 ≤ IntKind.i64.wrap (IntKind.i64.wrap (n54 + 3) + IntKind.i64.wrap (byteAt b n54.toNat))) ∧ (IntKind.i64.wrap (IntKind.i64.wrap (n54 + 3) + IntKind.i64.wrap (byteAt b n54.toNat)) ≤ Int.ofNat b.size) ∧ (0 ≤ IntKind.i64.wrap (n54 + 3)) ∧ (IntKind.i64.wrap (n54 + 3) ≤ Int.ofNat (IntKind.i64.wrap (IntKind.i64.wrap (n54 + 3) + IntKind.i64.wrap (byteAt b n54.toNat))).toNat) ∧ (0 ≤ IntKind.i64.wrap (IntKind.i64.wrap (IntKind.i64.wrap (n54 + 3) + IntKind.i64.wrap (byteAt b n54.toNat)) + n62)) ∧ (IntKind.i64.wrap (IntKind.i64.wrap (IntKind.i64.wrap (n54 + 3) + IntKind.i64.wrap (byteAt b n54.toNat)) + n62) ≤ Int.ofNat b.size) ∧ (0 ≤ IntKind.i64.wrap (IntKind.i64.wrap (n54 + 3) + IntKind.i64.wrap (byteAt b n54.toNat))) ∧ (IntKind.i64.wrap (IntKind.i64.wrap (n54 + 3) + IntKind.i64.wrap (byteAt b n54.toNat)) ≤ Int.ofNat (IntKind.i64.wrap (IntKind.i64.wrap (IntKind.i64.wrap (n54 + 3) + IntKind.i64.wrap (byteAt b n54.toNat)) + n62)).toNat) ∧ CallsH Tryz.prog 59 (#[.string (b.extract (IntKind.i64.wrap (n54 + 3)).toNat (IntKind.i64.wrap (IntKind.i64.wrap (n54 + 3) + IntKind.i64.wrap (byteAt b n54.toNat))).toNat), .string (b.extract (IntKind.i64.wrap (IntKind.i64.wrap (n54 + 3) + IntKind.i64.wrap (byteAt b n54.toNat))).toNat (IntKind.i64.wrap (IntKind.i64.wrap (IntKind.i64.wrap (n54 + 3) + IntKind.i64.wrap (byteAt b n54.toNat)) + n62)).toNat)]) (x66) (fun v67 h68 => ∃ b69, (v67 = .bool b69) ∧ bif !b69 then (Q (.tuple #[.pointer none, .bool false]) h68) else (∃ a70, ∃ k71, ∃ k72, (h68.cell k1 2 = some (.slice a70 k71 k72)) ∧ ∀ (k73 : Nat), (h68 k73 = none) → ((Gx.Sub h68 (h68.upd k73 (.cells #[.string (b.extract (IntKind.i64.wrap (n54 + 3)).toNat (IntKind.i64.wrap (IntKind.i64.wrap (n54 + 3) + IntKind.i64.wrap (byteAt b n54.toNat))).toNat), .string (b.extract (IntKind.i64.wrap (IntKind.i64.wrap (n54 + 3) + IntKind.i64.wrap (byteAt b n54.toNat))).toNat (IntKind.i64.wrap (IntKind.i64.wrap (IntKind.i64.wrap (n54 + 3) + IntKind.i64.wrap (byteAt b n54.toNat)) + n62)).toNat), .int .i64 n65] 100 (0, 0)))) ∧ ∃ (xs74 : List Value), (SliceAt (h68.upd k73 (.cells #[.string (b.extract (IntKind.i64.wrap (n54 + 3)).toNat (IntKind.i64.wrap (IntKind.i64.wrap (n54 + 3) + IntKind.i64.wrap (byteAt b n54.toNat))).toNat), .string (b.extract (IntKind.i64.wrap (IntKind.i64.wrap (n54 + 3) + IntKind.i64.wrap (byteAt b n54.toNat))).toNat (IntKind.i64.wrap (IntKind.i64.wrap (IntKind.i64.wrap (n54 + 3) + IntKind.i64.wrap (byteAt b n54.toNat)) + n62)).toNat), .int .i64 n65] 100 (0, 0))) (some ⟨k73, 0, none⟩) (3) (xs74)) ∧ ∃ (J75 : Option Addr → Nat → Hp → Prop), (∀ (a76 : Option Addr), ∀ (k77 : Nat), ∀ (x78 : Hp), (J75 a76 k77 x78) → ((StoreOk x78 k1 2 1) ∧ ∃ k79, (k79 < k57) ∧ J52 (IntKind.i64.wrap (IntKind.i64.wrap (n54 + 3) + IntKind.i64.wrap (IntKind.i64.wrap (byteAt b n54.toNat) + n62))) (IntKind.i64.wrap (n55 + 1)) (x78.put k1 2 [.slice a76 (k71 + 1) k77]) k79)) ∧ appendC Tryz.prog 100 a70 k71 k72 (h68.upd k73 (.cells #[.string (b.extract (IntKind.i64.wrap (n54 + 3)).toNat (IntKind.i64.wrap (IntKind.i64.wrap (n54 + 3) + IntKind.i64.wrap (byteAt b n54.toNat))).toNat), .string (b.extract (IntKind.i64.wrap (IntKind.i64.wrap (n54 + 3) + IntKind.i64.wrap (byteAt b n54.toNat))).toNat (IntKind.i64.wrap (IntKind.i64.wrap (IntKind.i64.wrap (n54 + 3) + IntKind.i64.wrap (byteAt b n54.toNat)) + n62)).toNat), .int .i64 n65] 100 (0, 0))) xs74 1 J75)))))) ∧ ∃ n80, (h59.cell k1 0 = some (.int .i64 n80)) ∧ bif hb (n80 == 1) then (J61 n60 (bytesL []) (bytesL []) 0 h59) else (J61 0 (bytesL []) (bytesL []) n60 h59)))) else ((0 ≤ n54) ∧ (n54 ≤ Int.ofNat b.size) ∧ CallsH Tryz.prog 118 (#[.string (b.extract n54.toNat b.size), .string (bytesL [0])]) (x56) (fun v81 h82 => ∃ s83, (v81 = .string s83) ∧ Q (.tuple #[.pointer (some ⟨k1, 0, none⟩), .bool (beqS s83 (bytesL []))]) h82)))))) ∧ ∃ n84, ((h.upd k1 (.cells (setL [.int .i64 0, .int .i64 0, .slice none 0 0] 0 [.int .i64 (IntKind.i64.wrap (byteAt b 0))]).toArray 97 (0, 0))).cell k1 0 = some (.int .i64 n84)) ∧ bif hb (n84 == 2) then (CallsH Tryz.prog 117 (#[.string b, .int .i64 3]) (h.upd k1 (.cells #[.int .i64 (IntKind.i64.wrap (byteAt b 0)), .int .i64 0, .slice none 0 0] 97 (0, 0))) (fun v85 h86 => ∃ n87, (v85 = .int .i64 n87) ∧ (StoreOk h86 k1 1 1) ∧ J46 (IntKind.i64.wrap (Int.ofNat 3 + 2)) (h86.put k1 1 [.int .i64 n87]))) else (J46 3 (h.upd k1 (.cells #[.int .i64 (IntKind.i64.wrap (byteAt b 0)), .int .i64 0, .slice none 0 0] 97 (0, 0)))))))) else False)
theorem btree_parse.calls (b : ByteArray) {h : Hp} {Q : Value → Hp → Prop} (hW : btree_parse.W b h Q) : CallsH Tryz.prog 88 #[.string b] h Q := by
  have hE_ : bodyW Tryz.prog btree_parse.H Tryz.f88 [.val (.string b)] h Q = btree_parse.W b h Q := by kernel_rfl
  rw [← hE_] at hW
  exact calls_of_body (H := btree_parse.H) (args := [.val (.string b)]) Tryz.func88 Tryz.ntmps88 rfl rfl hW

def btree_node_place_1.H : Hints := { N := 15, loc := (fun _ => false), join := (fun _ => none), loop := (fun _ => none), ifc := 0, order := (fun i => bif Nat.beq i 1 then some (none, false, [0, 1, 2, 3, 4, 5, 6, 7, 8, 9, 10], .q 0 (.q 1 (.q 2 (.q 3 (.q 4 (.q 5 (.q 6 (.q 7 (.q 8 (.q 9 (.q 10 .done))))))))))) else none) }
def btree_node_place_1.W (i : Int) (p11_b p11_o : Nat) (p22_b p22_o : Nat) (h : Hp) (Q : Value → Hp → Prop) : Prop :=
  (∃ a1, (h.cell p11_b p11_o = some (.pointer a1)) ∧ ∃ k2, ∃ k3, (a1 = some ⟨k2, k3, none⟩) ∧ ∃ a4, ∃ k5, ∃ k6, (h.cell k2 (k3 + 2) = some (.slice a4 k5 k6)) ∧ (0 ≤ i) ∧ (i < Int.ofNat k5) ∧ ∃ k7, ∃ k8, (a4 = some ⟨k7, k8, none⟩) ∧ ∃ s9, (h.cell k7 (k8 + i.toNat * 3) = some (.string s9)) ∧ ∃ s10, (h.cell p22_b p22_o = some (.string s10)) ∧ Q (.bool !bltS s9 s10) h)
theorem btree_node_place_1.calls (i : Int) (p11_b p11_o : Nat) (p22_b p22_o : Nat) {h : Hp} {Q : Value → Hp → Prop} (hW : btree_node_place_1.W i p11_b p11_o p22_b p22_o h Q) : CallsH Tryz.prog 90 #[.int .i64 i, .pointer (some ⟨p11_b, p11_o, none⟩), .pointer (some ⟨p22_b, p22_o, none⟩)] h Q := by
  have hE_ : bodyW Tryz.prog btree_node_place_1.H Tryz.f90 [.val (.int .i64 i), .ptr p11_b p11_o, .ptr p22_b p22_o] h Q = btree_node_place_1.W i p11_b p11_o p22_b p22_o h Q := by kernel_rfl
  rw [← hE_] at hW
  exact calls_of_body (H := btree_node_place_1.H) (args := [.val (.int .i64 i), .ptr p11_b p11_o, .ptr p22_b p22_o]) Tryz.func90 Tryz.ntmps90 rfl rfl hW

def btree_node_below_1.H : Hints := { N := 15, loc := (fun _ => false), join := (fun _ => none), loop := (fun _ => none), ifc := 0, order := (fun i => bif Nat.beq i 1 then some (none, false, [0, 1, 2, 3, 4, 5, 6, 7, 8, 9, 10], .q 0 (.q 1 (.q 2 (.q 3 (.q 4 (.q 5 (.q 6 (.q 7 (.q 8 (.q 9 (.q 10 .done))))))))))) else none) }
def btree_node_below_1.W (i : Int) (p11_b p11_o : Nat) (p22_b p22_o : Nat) (h : Hp) (Q : Value → Hp → Prop) : Prop :=
  (∃ a1, (h.cell p11_b p11_o = some (.pointer a1)) ∧ ∃ k2, ∃ k3, (a1 = some ⟨k2, k3, none⟩) ∧ ∃ a4, ∃ k5, ∃ k6, (h.cell k2 (k3 + 2) = some (.slice a4 k5 k6)) ∧ (0 ≤ i) ∧ (i < Int.ofNat k5) ∧ ∃ k7, ∃ k8, (a4 = some ⟨k7, k8, none⟩) ∧ ∃ s9, (h.cell k7 (k8 + i.toNat * 3) = some (.string s9)) ∧ ∃ s10, (h.cell p22_b p22_o = some (.string s10)) ∧ Q (.bool !(bltS s9 s10 || beqS s9 s10)) h)
theorem btree_node_below_1.calls (i : Int) (p11_b p11_o : Nat) (p22_b p22_o : Nat) {h : Hp} {Q : Value → Hp → Prop} (hW : btree_node_below_1.W i p11_b p11_o p22_b p22_o h Q) : CallsH Tryz.prog 91 #[.int .i64 i, .pointer (some ⟨p11_b, p11_o, none⟩), .pointer (some ⟨p22_b, p22_o, none⟩)] h Q := by
  have hE_ : bodyW Tryz.prog btree_node_below_1.H Tryz.f91 [.val (.int .i64 i), .ptr p11_b p11_o, .ptr p22_b p22_o] h Q = btree_node_below_1.W i p11_b p11_o p22_b p22_o h Q := by kernel_rfl
  rw [← hE_] at hW
  exact calls_of_body (H := btree_node_below_1.H) (args := [.val (.int .i64 i), .ptr p11_b p11_o, .ptr p22_b p22_o]) Tryz.func91 Tryz.ntmps91 rfl rfl hW

def btree_node_bytes.H : Hints := { N := 90, loc := (fun i => Nat.beq i 5 || false), join := (fun i => bif Nat.beq i 4 then some [.slot 3 (.slice)] else bif Nat.beq i 10 then some [.slot 6 (.int .i64)] else none), loop := (fun i => bif Nat.beq i 5 then some [.slot 3 (.slice), .slot 50 (.int .i64)] else none), ifc := 0, order := (fun i => bif Nat.beq i 1 then some (some 18, false, [0, 1, 2, 3, 4, 5, 6, 7, 8, 9, 10, 11, 12, 13, 14, 15, 16, 17, 18, 19], .q 0 (.q 1 (.q 2 (.q 3 (.q 4 (.q 5 (.q 6 (.q 7 (.q 8 (.q 9 (.q 10 (.q 11 (.q 12 (.q 13 (.q 14 (.q 15 (.q 16 (.q 17 (.f 18 (.q 19 .done) .e))))))))))))))))))) else bif Nat.beq i 3 then some (some 12, false, [0, 1, 2, 3, 4, 5, 6, 7, 8, 9, 10, 11, 12, 13, 14], .q 0 (.q 1 (.q 2 (.q 3 (.q 4 (.q 5 (.q 6 (.q 7 (.q 8 (.q 9 (.q 10 (.q 11 (.f 12 (.f 13 (.q 14 .done) .e) .e))))))))))))) else bif Nat.beq i 11 then some (some 6, true, [0, 1, 2, 4, 5, 3, 6, 7], .q 0 (.q 1 (.q 2 (.q 4 (.q 5 (.f 3 (.f 6 (.q 7 .done) .e) .e)))))) else none) }
def btree_node_bytes.W (n_b n_o : Nat) (h : Hp) (Q : Value → Hp → Prop) : Prop :=
  (∃ n1, (h.cell n_b n_o = some (.int .i64 n1)) ∧ ∃ a2, ∃ k3, ∃ k4, (h.cell n_b (n_o + 2) = some (.slice a2 k3 k4)) ∧ (Int.ofNat 0 ≤ 8) ∧ ∃ a5, ∃ k6, ∃ k7, (h.cell n_b (n_o + 2) = some (.slice a5 k6 k7)) ∧ ∀ (k8 : Nat), (h k8 = none) → (∃ (J9 : Option Addr → Nat → Nat → Hp → Prop), (∀ (a10 : Option Addr), ∀ (k11 : Nat), ∀ (k12 : Nat), ∀ (x13 : Hp), (J9 a10 k11 k12 x13) → (∃ a14, ∃ k15, ∃ k16, (x13.cell n_b (n_o + 2) = some (.slice a14 k15 k16)) ∧ ∃ (J17 : Option Addr → Nat → Nat → Int → Hp → Nat → Prop), (∃ k18, J17 a10 k11 k12 0 x13 k18) ∧ ∀ (a19 : Option Addr), ∀ (k20 : Nat), ∀ (k21 : Nat), ∀ (n22 : Int), ∀ (x23 : Hp), ∀ (k24 : Nat), (J17 a19 k20 k21 n22 x23 k24) → (bif hb (decide (n22 < Int.ofNat k15)) then ((0 ≤ n22) ∧ (n22 < Int.ofNat k15) ∧ ∃ k25, ∃ k26, (a14 = some ⟨k25, k26, none⟩) ∧ ∃ s27, (x23.cell k25 (k26 + n22.toNat * 3) = some (.string s27)) ∧ ∃ s28, (x23.cell k25 (k26 + n22.toNat * 3 + 1) = some (.string s28)) ∧ ∃ n29, (x23.cell k25 (k26 + n22.toNat * 3 + 1 + 1) = some (.int .i64 n29)) ∧ ∃ (J30 : Int → Hp → Prop), (∀ (n31 : Int), ∀ (x32 : Hp), (J30 n31 x32) → ((Int.ofNat 0 ≤ 8) ∧ ∀ (k33 : Nat), (x32 k33 = none) → (∃ (xs34 : List Value), (SliceAt (x32.upd k33 (.cells #[.int .u8 (IntKind.u8.wrap (Int.ofNat s27.size)), .int .u8 (IntKind.u8.wrap (ishr IntKind.i64 n31 8)), .int .u8 (IntKind.u8.wrap n31)] 5 (0, 0))) (some ⟨k33, 0, none⟩) (3) (xs34)) ∧ ∃ (J35 : Option Addr → Nat → Hp → Prop), (∀ (a36 : Option Addr), ∀ (k37 : Nat), ∀ (x38 : Hp), (J35 a36 k37 x38) → (∃ (J39 : Hp), (Gx.Sub J39 x38) ∧ ∃ (J40 : Option Addr → Nat → Hp → Prop), (∀ (a41 : Option Addr), ∀ (k42 : Nat), ∀ (x43 : Hp), (J40 a41 k42 x43) → ((Gx.Sub J39 x43) ∧ ∃ (J44 : Option Addr → Nat → Hp → Prop), (∀ (a45 : Option Addr), ∀ (k46 : Nat), ∀ (x47 : Hp), (J44 a45 k46 x47) → (∃ k48, (k48 < k24) ∧ J17 a45 (k20 + 3 + s27.size + s28.size) k46 (IntKind.i64.wrap (n22 + 1)) x47 k48)) ∧ appendC Tryz.prog 5 a41 (k20 + 3 + s27.size) k42 x43 (bytesV s28) s28.size J44)) ∧ appendC Tryz.prog 5 a36 (k20 + 3) k37 x38 (bytesV s27) s27.size J40)) ∧ appendC Tryz.prog 5 a19 k20 k21 (x32.upd k33 (.cells #[.int .u8 (IntKind.u8.wrap (Int.ofNat s27.size)), .int .u8 (IntKind.u8.wrap (ishr IntKind.i64 n31 8)), .int .u8 (IntKind.u8.wrap n31)] 5 (0, 0))) xs34 3 J35))) ∧ ∃ n49, (x23.cell n_b n_o = some (.int .i64 n49)) ∧ bif hb (n49 == 1) then (J30 (Int.ofNat s28.size) x23) else (J30 n29 x23)) else ((0 ≤ IntKind.i64.wrap (IntKind.i64.wrap (1024 - Int.ofNat k20))) ∧ (IntKind.i64.wrap (IntKind.i64.wrap (1024 - Int.ofNat k20)) * 1 ≤ 281474976710656) ∧ ∃ (J50 : Option Addr → Nat → Hp → Prop), (∀ (a51 : Option Addr), ∀ (k52 : Nat), ∀ (x53 : Hp), (J50 a51 k52 x53) → (∃ s54, (SliceAt (x53) (a51) (k20 + (IntKind.i64.wrap (IntKind.i64.wrap (1024 - Int.ofNat k20))).toNat) (bytesV s54)) ∧ Q (.string s54) x53)) ∧ appendC Tryz.prog 5 a19 k20 k21 x23 (repV (IntKind.i64.wrap (IntKind.i64.wrap (1024 - Int.ofNat k20))).toNat [.int .u8 0]) (IntKind.i64.wrap (IntKind.i64.wrap (1024 - Int.ofNat k20))).toNat J50)))) ∧ ∃ n55, ((h.upd k8 (.cells (setL (setL (setL [.int .u8 0, .int .u8 0, .int .u8 0] 0 [.int .u8 (IntKind.u8.wrap n1)]) 1 [.int .u8 (IntKind.u8.wrap (ishr IntKind.i64 (Int.ofNat k3) 8))]) 2 [.int .u8 (IntKind.u8.wrap (Int.ofNat k6))]).toArray 5 (0, 0))).cell n_b n_o = some (.int .i64 n55)) ∧ bif hb (n55 == 2) then (∃ n56, ((h.upd k8 (.cells (setL (setL (setL [.int .u8 0, .int .u8 0, .int .u8 0] 0 [.int .u8 (IntKind.u8.wrap n1)]) 1 [.int .u8 (IntKind.u8.wrap (ishr IntKind.i64 (Int.ofNat k3) 8))]) 2 [.int .u8 (IntKind.u8.wrap (Int.ofNat k6))]).toArray 5 (0, 0))).cell n_b (n_o + 1) = some (.int .i64 n56)) ∧ (Int.ofNat 0 ≤ 8) ∧ ∃ n57, ((h.upd k8 (.cells (setL (setL (setL [.int .u8 0, .int .u8 0, .int .u8 0] 0 [.int .u8 (IntKind.u8.wrap n1)]) 1 [.int .u8 (IntKind.u8.wrap (ishr IntKind.i64 (Int.ofNat k3) 8))]) 2 [.int .u8 (IntKind.u8.wrap (Int.ofNat k6))]).toArray 5 (0, 0))).cell n_b (n_o + 1) = some (.int .i64 n57)) ∧ ∀ (k58 : Nat), (h.upd k8 (.cells (setL (setL (setL [.int .u8 0, .int .u8 0, .int .u8 0] 0 [.int .u8 (IntKind.u8.wrap n1)]) 1 [.int .u8 (IntKind.u8.wrap (ishr IntKind.i64 (Int.ofNat k3) 8))]) 2 [.int .u8 (IntKind.u8.wrap (Int.ofNat k6))]).toArray 5 (0, 0)) k58 = none) → (∃ (xs59 : List Value), (SliceAt ((h.upd k8 (.cells #[.int .u8 (IntKind.u8.wrap n1), .int .u8 (IntKind.u8.wrap (ishr IntKind.i64 (Int.ofNat k3) 8)), .int .u8 (IntKind.u8.wrap (Int.ofNat k6))] 5 (0, 0))).upd k58 (.cells #[.int .u8 (IntKind.u8.wrap (ishr IntKind.i64 n56 8)), .int .u8 (IntKind.u8.wrap n57)] 5 (0, 0))) (some ⟨k58, 0, none⟩) (2) (xs59)) ∧ ∃ (J60 : Option Addr → Nat → Hp → Prop), (∀ (a61 : Option Addr), ∀ (k62 : Nat), ∀ (x63 : Hp), (J60 a61 k62 x63) → (J9 a61 5 k62 x63)) ∧ appendC Tryz.prog 5 (some ⟨k8, 0, none⟩) 3 3 ((h.upd k8 (.cells #[.int .u8 (IntKind.u8.wrap n1), .int .u8 (IntKind.u8.wrap (ishr IntKind.i64 (Int.ofNat k3) 8)), .int .u8 (IntKind.u8.wrap (Int.ofNat k6))] 5 (0, 0))).upd k58 (.cells #[.int .u8 (IntKind.u8.wrap (ishr IntKind.i64 n56 8)), .int .u8 (IntKind.u8.wrap n57)] 5 (0, 0))) xs59 2 J60)) else (J9 (some ⟨k8, 0, none⟩) 3 3 (h.upd k8 (.cells #[.int .u8 (IntKind.u8.wrap n1), .int .u8 (IntKind.u8.wrap (ishr IntKind.i64 (Int.ofNat k3) 8)), .int .u8 (IntKind.u8.wrap (Int.ofNat k6))] 5 (0, 0))))))
theorem btree_node_bytes.calls (n_b n_o : Nat) {h : Hp} {Q : Value → Hp → Prop} (hW : btree_node_bytes.W n_b n_o h Q) : CallsH Tryz.prog 100 #[.pointer (some ⟨n_b, n_o, none⟩)] h Q := by
  have hE_ : bodyW Tryz.prog btree_node_bytes.H Tryz.f100 [.ptr n_b n_o] h Q = btree_node_bytes.W n_b n_o h Q := by kernel_rfl
  rw [← hE_] at hW
  exact calls_of_body (H := btree_node_bytes.H) (args := [.ptr n_b n_o]) Tryz.func100 Tryz.ntmps100 rfl rfl hW

def btree_node_put.H : Hints := { N := 26, loc := (fun i => Nat.beq i 5 || false), join := (fun _ => none), loop := (fun _ => none), ifc := 0, order := (fun i => bif Nat.beq i 1 then some (some 17, false, [0, 1, 2, 3, 4, 5, 6, 7, 8, 11, 12, 13, 14, 15, 16, 9, 10, 17, 18, 19, 20], .q 0 (.q 1 (.q 2 (.q 3 (.q 4 (.q 5 (.q 6 (.q 7 (.q 8 (.q 11 (.q 12 (.q 13 (.q 14 (.q 15 (.q 16 (.f 9 (.f 10 (.f 17 (.q 18 (.q 19 (.f 20 (.done) .e))) .e) .e) .e)))))))))))))))) else none) }
def btree_node_put.W (n_b n_o : Nat) (i : Int) (x_0 : ByteArray) (x_1 : ByteArray) (x_2 : Int) (h : Hp) (Q : Value → Hp → Prop) : Prop :=
  (∃ a1, ∃ k2, ∃ k3, (h.cell n_b (n_o + 2) = some (.slice a1 k2 k3)) ∧ (0 ≤ i) ∧ (i ≤ Int.ofNat k3) ∧ (0 ≤ i) ∧ (i ≤ Int.ofNat i.toNat) ∧ ∃ a4, ∃ k5, ∃ k6, (h.cell n_b (n_o + 2) = some (.slice a4 k5 k6)) ∧ (0 ≤ i) ∧ (i ≤ Int.ofNat k5) ∧ ∀ (k7 : Nat), (h k7 = none) → ((Gx.Sub h (h.upd k7 (.cells #[.string x_0, .string x_1, .int .i64 x_2] 100 (0, 0)))) ∧ ∃ (xs8 : List Value), (SliceAt (h.upd k7 (.cells #[.string x_0, .string x_1, .int .i64 x_2] 100 (0, 0))) (some ⟨k7, 0, none⟩) (3) (xs8)) ∧ ∃ (J9 : Option Addr → Nat → Hp → Prop), (∀ (a10 : Option Addr), ∀ (k11 : Nat), ∀ (x12 : Hp), (J9 a10 k11 x12) → ((Gx.Sub h x12) ∧ ∃ (xs13 : List Value), (SliceAt (x12) (slA k6 i.toNat 3 a4) ((k5 - i.toNat) * 3) (xs13)) ∧ ∃ (J14 : Option Addr → Nat → Hp → Prop), (∀ (a15 : Option Addr), ∀ (k16 : Nat), ∀ (x17 : Hp), (J14 a15 k16 x17) → ((StoreOk x17 n_b (n_o + 2) 1) ∧ Q (.tuple #[]) (x17.put n_b (n_o + 2) [.slice a15 (i.toNat + 1 + (k5 - i.toNat)) k16]))) ∧ appendC Tryz.prog 100 a10 (i.toNat + 1) k11 x12 xs13 (k5 - i.toNat) J14)) ∧ appendC Tryz.prog 100 (slA i.toNat 0 3 a1) i.toNat i.toNat (h.upd k7 (.cells #[.string x_0, .string x_1, .int .i64 x_2] 100 (0, 0))) xs8 1 J9))
theorem btree_node_put.calls (n_b n_o : Nat) (i : Int) (x_0 : ByteArray) (x_1 : ByteArray) (x_2 : Int) {h : Hp} {Q : Value → Hp → Prop} (hW : btree_node_put.W n_b n_o i x_0 x_1 x_2 h Q) : CallsH Tryz.prog 101 #[.pointer (some ⟨n_b, n_o, none⟩), .int .i64 i, .agg #[.string x_0, .string x_1, .int .i64 x_2]] h Q := by
  have hE_ : bodyW Tryz.prog btree_node_put.H Tryz.f101 [.ptr n_b n_o, .val (.int .i64 i), .val (.agg #[.string x_0, .string x_1, .int .i64 x_2])] h Q = btree_node_put.W n_b n_o i x_0 x_1 x_2 h Q := by kernel_rfl
  rw [← hE_] at hW
  exact calls_of_body (H := btree_node_put.H) (args := [.ptr n_b n_o, .val (.int .i64 i), .val (.agg #[.string x_0, .string x_1, .int .i64 x_2])]) Tryz.func101 Tryz.ntmps101 rfl rfl hW

def btree_node_size.H : Hints := { N := 40, loc := (fun i => Nat.beq i 5 || false), join := (fun i => bif Nat.beq i 4 then some [.slot 3 (.int .i64)] else none), loop := (fun i => bif Nat.beq i 5 then some [.slot 3 (.int .i64), .slot 18 (.int .i64)] else none), ifc := 0, order := (fun _ => none) }
def btree_node_size.W (n_b n_o : Nat) (h : Hp) (Q : Value → Hp → Prop) : Prop :=
  (∃ (J1 : Int → Hp → Prop), (∀ (n2 : Int), ∀ (x3 : Hp), (J1 n2 x3) → (∃ a4, ∃ k5, ∃ k6, (x3.cell n_b (n_o + 2) = some (.slice a4 k5 k6)) ∧ ∃ (J7 : Int → Int → Hp → Nat → Prop), (∃ k8, J7 n2 0 x3 k8) ∧ ∀ (n9 : Int), ∀ (n10 : Int), ∀ (x11 : Hp), ∀ (k12 : Nat), (J7 n9 n10 x11 k12) → (bif hb (decide (n10 < Int.ofNat k5)) then ((0 ≤ n10) ∧ (n10 < Int.ofNat k5) ∧ ∃ k13, ∃ k14, (a4 = some ⟨k13, k14, none⟩) ∧ ∃ s15, (x11.cell k13 (k14 + n10.toNat * 3) = some (.string s15)) ∧ ∃ s16, (x11.cell k13 (k14 + n10.toNat * 3 + 1) = some (.string s16)) ∧ ∃ n17, (x11.cell k13 (k14 + n10.toNat * 3 + 1 + 1) = some (.int .i64 n17)) ∧ ∃ n18, (x11.cell n_b n_o = some (.int .i64 n18)) ∧ bif hb (n18 == 1) then (∃ k19, (k19 < k12) ∧ J7 (IntKind.i64.wrap (IntKind.i64.wrap (n9 + IntKind.i64.wrap (3 + Int.ofNat s15.size)) + Int.ofNat s16.size)) (IntKind.i64.wrap (n10 + 1)) x11 k19) else (∃ k20, (k20 < k12) ∧ J7 (IntKind.i64.wrap (n9 + IntKind.i64.wrap (3 + Int.ofNat s15.size))) (IntKind.i64.wrap (n10 + 1)) x11 k20)) else (Q (.int .i64 n9) x11)))) ∧ ∃ n21, (h.cell n_b n_o = some (.int .i64 n21)) ∧ bif hb (n21 == 2) then (J1 (IntKind.i64.wrap (Int.ofNat 3 + 2)) h) else (J1 3 h))
theorem btree_node_size.calls (n_b n_o : Nat) {h : Hp} {Q : Value → Hp → Prop} (hW : btree_node_size.W n_b n_o h Q) : CallsH Tryz.prog 102 #[.pointer (some ⟨n_b, n_o, none⟩)] h Q := by
  have hE_ : bodyW Tryz.prog btree_node_size.H Tryz.f102 [.ptr n_b n_o] h Q = btree_node_size.W n_b n_o h Q := by kernel_rfl
  rw [← hE_] at hW
  exact calls_of_body (H := btree_node_size.H) (args := [.ptr n_b n_o]) Tryz.func102 Tryz.ntmps102 rfl rfl hW

def btree_Tree_part.H : Hints := { N := 131, loc := (fun _ => false), join := (fun i => bif Nat.beq i 12 then some [.slot 10 (.int .i64)] else bif Nat.beq i 17 then some [] else none), loop := (fun i => bif Nat.beq i 6 then some [.slot 10 (.int .i64)] else none), ifc := 0, order := (fun i => bif Nat.beq i 5 then some (some 9, false, [0, 1, 2, 3, 4, 5, 6, 7, 8, 9, 10], .q 0 (.q 1 (.q 2 (.q 3 (.q 4 (.q 5 (.q 6 (.q 7 (.q 8 (.f 9 (.q 10 .done) .e)))))))))) else bif Nat.beq i 12 then some (some 11, false, [0, 1, 2, 3, 4, 5, 6, 7, 8, 9, 10, 11, 12], .q 0 (.q 1 (.q 2 (.q 3 (.q 4 (.q 5 (.q 6 (.q 7 (.q 8 (.q 9 (.q 10 (.f 11 (.q 12 .done) .e)))))))))))) else none) }
def btree_Tree_part.W (t_b t_o : Nat) (id : Int) (n_b n_o : Nat) (h : Hp) (Q : Value → Hp → Prop) : Prop :=
  (∃ a1, (h.cell t_b t_o = some (.pointer a1)) ∧ CallsH Tryz.prog 9 (#[.pointer a1]) (h) (fun v2 h3 => ∃ n4, ∃ n5, (v2 = .tuple #[.int .i64 n4, .int .i64 n5]) ∧ bif hb (n5 != 0) then (Q (.tuple #[.pointer none, .int .i64 n5]) h3) else (CallsH Tryz.prog 102 (#[.pointer (some ⟨n_b, n_o, none⟩)]) (h3) (fun v6 h7 => ∃ n8, (v6 = .int .i64 n8) ∧ (((2 : Int) = 0) → False) ∧ ∃ n9, (h7.cell n_b n_o = some (.int .i64 n9)) ∧ ∃ n10, (h7.cell n_b (n_o + 1) = some (.int .i64 n10)) ∧ ∀ (k11 : Nat), (h7 k11 = none) → (∃ (J12 : Int → Hp → Nat → Prop), (∃ k13, J12 0 (h7.upd k11 (.cells #[.int .i64 n9, .int .i64 n10, .slice none 0 0] 97 (0, 0))) k13) ∧ ∀ (n14 : Int), ∀ (x15 : Hp), ∀ (k16 : Nat), (J12 n14 x15 k16) → (CallsH Tryz.prog 102 (#[.pointer (some ⟨k11, 0, none⟩)]) (x15) (fun v17 h18 => ∃ n19, (v17 = .int .i64 n19) ∧ bif hb (decide (n19 < IntKind.i64.wrap (n8.tdiv 2))) then (∃ a20, ∃ k21, ∃ k22, (h18.cell n_b (n_o + 2) = some (.slice a20 k21 k22)) ∧ (0 ≤ IntKind.i64.wrap (n14 + 1)) ∧ (IntKind.i64.wrap (n14 + 1) ≤ Int.ofNat k22) ∧ (0 ≤ IntKind.i64.wrap (n14 + 1)) ∧ (IntKind.i64.wrap (n14 + 1) ≤ Int.ofNat (IntKind.i64.wrap (n14 + 1)).toNat) ∧ (StoreOk h18 k11 2 1) ∧ ∃ k23, (k23 < k16) ∧ J12 (IntKind.i64.wrap (n14 + 1)) (h18.put k11 2 [.slice (slA (IntKind.i64.wrap (n14 + 1)).toNat 0 3 a20) (IntKind.i64.wrap (n14 + 1)).toNat (IntKind.i64.wrap (n14 + 1)).toNat]) k23) else (∃ (J24 : Int → Hp → Prop), (∀ (n25 : Int), ∀ (x26 : Hp), (J24 n25 x26) → (∃ n27, (x26.cell n_b n_o = some (.int .i64 n27)) ∧ ∃ a28, ∃ k29, ∃ k30, (x26.cell n_b (n_o + 2) = some (.slice a28 k29 k30)) ∧ (0 ≤ n25) ∧ (n25 ≤ Int.ofNat k29) ∧ ∀ (k31 : Nat), (x26 k31 = none) → (∃ a32, ∃ k33, ∃ k34, ((x26.upd k31 (.cells (setL (setL [.int .i64 0, .int .i64 0, .slice none 0 0] 0 [.int .i64 n27]) 2 [.slice (slA k30 n25.toNat 3 a28) (k29 - n25.toNat) (k30 - n25.toNat)]).toArray 97 (0, 0))).cell k31 2 = some (.slice a32 k33 k34)) ∧ bif true && Nat.blt 0 k33 then (∃ k35, ∃ k36, (a32 = some ⟨k35, k36, none⟩) ∧ ∃ s37, ((x26.upd k31 (.cells (setL (setL [.int .i64 0, .int .i64 0, .slice none 0 0] 0 [.int .i64 n27]) 2 [.slice (slA k30 n25.toNat 3 a28) (k29 - n25.toNat) (k30 - n25.toNat)]).toArray 97 (0, 0))).cell k35 k36 = some (.string s37)) ∧ ∀ (k38 : Nat), (x26.upd k31 (.cells (setL (setL [.int .i64 0, .int .i64 0, .slice none 0 0] 0 [.int .i64 n27]) 2 [.slice (slA k30 n25.toNat 3 a28) (k29 - n25.toNat) (k30 - n25.toNat)]).toArray 97 (0, 0)) k38 = none) → (∃ (J39 : Hp → Prop), (∀ (x40 : Hp), (J39 x40) → (CallsH Tryz.prog 60 (#[.pointer (some ⟨t_b, t_o, none⟩), .int .i64 id, .pointer (some ⟨k11, 0, none⟩)]) (x40) (fun v41 h42 => (v41 = .tuple #[]) ∧ CallsH Tryz.prog 60 (#[.pointer (some ⟨t_b, t_o, none⟩), .int .i64 n4, .pointer (some ⟨k31, 0, none⟩)]) (h42) (fun v43 h44 => (v43 = .tuple #[]) ∧ Q (.tuple #[.pointer (some ⟨k38, 0, none⟩), .int .i64 0]) h44)))) ∧ ∃ n45, (((x26.upd k31 (.cells (setL (setL [.int .i64 0, .int .i64 0, .slice none 0 0] 0 [.int .i64 n27]) 2 [.slice (slA k30 n25.toNat 3 a28) (k29 - n25.toNat) (k30 - n25.toNat)]).toArray 97 (0, 0))).upd k38 (.cells (setL (setL [.string (bytesL []), .string (bytesL []), .int .i64 0] 0 [.string s37]) 2 [.int .i64 n4]).toArray 100 (0, 0))).cell n_b n_o = some (.int .i64 n45)) ∧ bif hb (n45 == 2) then (∃ a46, ∃ k47, ∃ k48, (((x26.upd k31 (.cells (setL (setL [.int .i64 0, .int .i64 0, .slice none 0 0] 0 [.int .i64 n27]) 2 [.slice (slA k30 n25.toNat 3 a28) (k29 - n25.toNat) (k30 - n25.toNat)]).toArray 97 (0, 0))).upd k38 (.cells (setL (setL [.string (bytesL []), .string (bytesL []), .int .i64 0] 0 [.string s37]) 2 [.int .i64 n4]).toArray 100 (0, 0))).cell k31 2 = some (.slice a46 k47 k48)) ∧ bif true && Nat.blt 0 k47 then (∃ k49, ∃ k50, (a46 = some ⟨k49, k50, none⟩) ∧ ∃ n51, (((x26.upd k31 (.cells (setL (setL [.int .i64 0, .int .i64 0, .slice none 0 0] 0 [.int .i64 n27]) 2 [.slice (slA k30 n25.toNat 3 a28) (k29 - n25.toNat) (k30 - n25.toNat)]).toArray 97 (0, 0))).upd k38 (.cells (setL (setL [.string (bytesL []), .string (bytesL []), .int .i64 0] 0 [.string s37]) 2 [.int .i64 n4]).toArray 100 (0, 0))).cell k49 (k50 + 2) = some (.int .i64 n51)) ∧ (StoreOk ((x26.upd k31 (.cells #[.int .i64 n27, .int .i64 0, .slice (slA k30 n25.toNat 3 a28) (k29 - n25.toNat) (k30 - n25.toNat)] 97 (0, 0))).upd k38 (.cells #[.string s37, .string (bytesL []), .int .i64 n4] 100 (0, 0))) k31 1 1) ∧ ∃ a52, ∃ k53, ∃ k54, ((((x26.upd k31 (.cells (setL (setL [.int .i64 0, .int .i64 0, .slice none 0 0] 0 [.int .i64 n27]) 2 [.slice (slA k30 n25.toNat 3 a28) (k29 - n25.toNat) (k30 - n25.toNat)]).toArray 97 (0, 0))).upd k38 (.cells (setL (setL [.string (bytesL []), .string (bytesL []), .int .i64 0] 0 [.string s37]) 2 [.int .i64 n4]).toArray 100 (0, 0))).put k31 1 [.int .i64 n51]).cell k31 2 = some (.slice a52 k53 k54)) ∧ (Int.ofNat 0 ≤ 1) ∧ (1 ≤ Int.ofNat k53) ∧ (StoreOk (((x26.upd k31 (.cells #[.int .i64 n27, .int .i64 0, .slice (slA k30 n25.toNat 3 a28) (k29 - n25.toNat) (k30 - n25.toNat)] 97 (0, 0))).upd k38 (.cells #[.string s37, .string (bytesL []), .int .i64 n4] 100 (0, 0))).put k31 1 [.int .i64 n51]) k31 2 1) ∧ J39 ((((x26.upd k31 (.cells #[.int .i64 n27, .int .i64 0, .slice (slA k30 n25.toNat 3 a28) (k29 - n25.toNat) (k30 - n25.toNat)] 97 (0, 0))).upd k38 (.cells #[.string s37, .string (bytesL []), .int .i64 n4] 100 (0, 0))).put k31 1 [.int .i64 n51]).put k31 2 [.slice (slA k54 (Int.toNat 1) 3 a52) (k53 - Int.toNat 1) (k54 - Int.toNat 1)])) else False) else (J39 ((x26.upd k31 (.cells #[.int .i64 n27, .int .i64 0, .slice (slA k30 n25.toNat 3 a28) (k29 - n25.toNat) (k30 - n25.toNat)] 97 (0, 0))).upd k38 (.cells #[.string s37, .string (bytesL []), .int .i64 n4] 100 (0, 0)))))) else False))) ∧ ∃ n55, (h18.cell n_b n_o = some (.int .i64 n55)) ∧ bif hb (n55 == 1) then (CallsH Tryz.prog 102 (#[.pointer (some ⟨k11, 0, none⟩)]) (h18) (fun v56 h57 => ∃ n58, (v56 = .int .i64 n58) ∧ bif hb (decide (n58 > 1024)) then (∃ a59, ∃ k60, ∃ k61, (h57.cell n_b (n_o + 2) = some (.slice a59 k60 k61)) ∧ (0 ≤ IntKind.i64.wrap (n14 - 1)) ∧ (IntKind.i64.wrap (n14 - 1) ≤ Int.ofNat k61) ∧ (0 ≤ IntKind.i64.wrap (n14 - 1)) ∧ (IntKind.i64.wrap (n14 - 1) ≤ Int.ofNat (IntKind.i64.wrap (n14 - 1)).toNat) ∧ (StoreOk h57 k11 2 1) ∧ J24 (IntKind.i64.wrap (n14 - 1)) (h57.put k11 2 [.slice (slA (IntKind.i64.wrap (n14 - 1)).toNat 0 3 a59) (IntKind.i64.wrap (n14 - 1)).toNat (IntKind.i64.wrap (n14 - 1)).toNat])) else (J24 n14 h57))) else (J24 n14 h18)))))))))
theorem btree_Tree_part.calls (t_b t_o : Nat) (id : Int) (n_b n_o : Nat) {h : Hp} {Q : Value → Hp → Prop} (hW : btree_Tree_part.W t_b t_o id n_b n_o h Q) : CallsH Tryz.prog 103 #[.pointer (some ⟨t_b, t_o, none⟩), .int .i64 id, .pointer (some ⟨n_b, n_o, none⟩)] h Q := by
  have hE_ : bodyW Tryz.prog btree_Tree_part.H Tryz.f103 [.ptr t_b t_o, .val (.int .i64 id), .ptr n_b n_o] h Q = btree_Tree_part.W t_b t_o id n_b n_o h Q := by kernel_rfl
  rw [← hE_] at hW
  exact calls_of_body (H := btree_Tree_part.H) (args := [.ptr t_b t_o, .val (.int .i64 id), .ptr n_b n_o]) Tryz.func103 Tryz.ntmps103 rfl rfl hW

def btree_Tree_join.H : Hints := { N := 149, loc := (fun _ => false), join := (fun i => bif Nat.beq i 10 then some [] else bif Nat.beq i 15 then some [] else none), loop := (fun _ => none), ifc := 0, order := (fun i => bif Nat.beq i 9 then some (some 20, false, [0, 1, 2, 3, 4, 5, 6, 7, 8, 9, 10, 11, 12, 13, 14, 15, 16, 17, 18, 19, 20], .q 0 (.q 1 (.q 2 (.q 3 (.q 4 (.q 5 (.q 6 (.q 7 (.q 8 (.q 9 (.q 10 (.q 11 (.q 12 (.q 13 (.q 14 (.q 15 (.q 16 (.q 17 (.q 18 (.q 19 (.f 20 (.done) .e))))))))))))))))))))) else bif Nat.beq i 10 then some (some 20, false, [0, 1, 2, 3, 4, 5, 6, 7, 8, 9, 10, 11, 12, 13, 14, 15, 16, 17, 18, 19, 20, 21, 22, 23], .q 0 (.q 1 (.q 2 (.q 3 (.q 4 (.q 5 (.q 6 (.q 7 (.q 8 (.q 9 (.q 10 (.q 11 (.q 12 (.q 13 (.q 14 (.q 15 (.q 16 (.q 17 (.q 18 (.q 19 (.f 20 (.q 21 (.q 22 (.f 23 (.done) .e))) .e))))))))))))))))))))) else bif Nat.beq i 16 then some (some 8, false, [0, 1, 2, 3, 4, 5, 6, 7, 8], .q 0 (.q 1 (.q 2 (.q 3 (.q 4 (.q 5 (.q 6 (.f 7 (.f 8 (.done) .e) .e)))))))) else bif Nat.beq i 17 then some (some 17, false, [0, 1, 2, 3, 4, 5, 6, 7, 8, 9, 10, 11, 12, 13, 14, 15, 16, 17, 18, 19, 20], .q 0 (.q 1 (.q 2 (.q 3 (.q 4 (.q 5 (.q 6 (.q 7 (.q 8 (.q 9 (.q 10 (.q 11 (.q 12 (.q 13 (.q 14 (.q 15 (.q 16 (.f 17 (.q 18 (.q 19 (.f 20 (.done) .e))) .e)))))))))))))))))) else none) }
def btree_Tree_join.W (t_b t_o : Nat) (n_b n_o : Nat) (i : Int) (h : Hp) (Q : Value → Hp → Prop) : Prop :=
  (bif hb (decide (i < -1)) then (Q (.bool false) h) else (∃ a1, ∃ k2, ∃ k3, (h.cell n_b (n_o + 2) = some (.slice a1 k2 k3)) ∧ bif hb (decide (IntKind.i64.wrap (i + 1) ≥ Int.ofNat k2)) then (Q (.bool false) h) else (CallsH Tryz.prog 50 (#[.pointer (some ⟨n_b, n_o, none⟩), .int .i64 i]) (h) (fun v4 h5 => ∃ n6, (v4 = .int .i64 n6) ∧ CallsH Tryz.prog 48 (#[.pointer (some ⟨t_b, t_o, none⟩), .int .i64 n6]) (h5) (fun v7 h8 => ∃ a9, ∃ n10, (v7 = .tuple #[.pointer a9, .int .i64 n10]) ∧ CallsH Tryz.prog 50 (#[.pointer (some ⟨n_b, n_o, none⟩), .int .i64 (IntKind.i64.wrap (i + 1))]) (h8) (fun v11 h12 => ∃ n13, (v11 = .int .i64 n13) ∧ CallsH Tryz.prog 48 (#[.pointer (some ⟨t_b, t_o, none⟩), .int .i64 n13]) (h12) (fun v14 h15 => ∃ a16, ∃ n17, (v14 = .tuple #[.pointer a16, .int .i64 n17]) ∧ bif hb (n10 != 0) then (Q (.bool false) h15) else (bif hb (n17 != 0) then (Q (.bool false) h15) else (∃ k18, ∃ k19, (a9 = some ⟨k18, k19, none⟩) ∧ ∃ a20, ∃ k21, ∃ k22, (h15.cell k18 (k19 + 2) = some (.slice a20 k21 k22)) ∧ ∃ (J23 : Hp → Prop), (∀ (x24 : Hp), (J23 x24) → (∃ k25, ∃ k26, (a9 = some ⟨k25, k26, none⟩) ∧ ∃ a27, ∃ k28, ∃ k29, (x24.cell k25 (k26 + 2) = some (.slice a27 k28 k29)) ∧ ∃ k30, ∃ k31, (a9 = some ⟨k30, k31, none⟩) ∧ ∃ a32, ∃ k33, ∃ k34, (x24.cell k30 (k31 + 2) = some (.slice a32 k33 k34)) ∧ ∃ k35, ∃ k36, (a9 = some ⟨k35, k36, none⟩) ∧ ∃ a37, ∃ k38, ∃ k39, (x24.cell k35 (k36 + 2) = some (.slice a37 k38 k39)) ∧ (0 ≤ Int.ofNat k38) ∧ (Int.ofNat k38 ≤ Int.ofNat k29) ∧ (0 ≤ Int.ofNat k33) ∧ (Int.ofNat k33 ≤ Int.ofNat (Int.ofNat k38).toNat) ∧ ∃ k40, ∃ k41, (a16 = some ⟨k40, k41, none⟩) ∧ ∃ a42, ∃ k43, ∃ k44, (x24.cell k40 (k41 + 2) = some (.slice a42 k43 k44)) ∧ ∃ (xs45 : List Value), (SliceAt (x24) (a42) (k43 * 3) (xs45)) ∧ ∃ (J46 : Option Addr → Nat → Hp → Prop), (∀ (a47 : Option Addr), ∀ (k48 : Nat), ∀ (x49 : Hp), (J46 a47 k48 x49) → (∃ k50, ∃ k51, (a9 = some ⟨k50, k51, none⟩) ∧ (StoreOk x49 k50 (k51 + 2) 1) ∧ CallsH Tryz.prog 102 (#[.pointer a9]) (x49.put k50 (k51 + 2) [.slice a47 ((Int.ofNat k33).toNat + k43) k48]) (fun v52 h53 => ∃ n54, (v52 = .int .i64 n54) ∧ bif hb (decide (n54 > 1024)) then (Q (.bool false) h53) else (∃ (J55 : Hp → Prop), (∀ (x56 : Hp), (J55 x56) → (CallsH Tryz.prog 50 (#[.pointer (some ⟨n_b, n_o, none⟩), .int .i64 i]) (x56) (fun v57 h58 => ∃ n59, (v57 = .int .i64 n59) ∧ CallsH Tryz.prog 60 (#[.pointer (some ⟨t_b, t_o, none⟩), .int .i64 n59, .pointer a9]) (h58) (fun v60 h61 => (v60 = .tuple #[]) ∧ ∃ a62, (h61.cell t_b t_o = some (.pointer a62)) ∧ CallsH Tryz.prog 50 (#[.pointer (some ⟨n_b, n_o, none⟩), .int .i64 (IntKind.i64.wrap (i + 1))]) (h61) (fun v63 h64 => ∃ n65, (v63 = .int .i64 n65) ∧ (Gx.Sub h61 h64) ∧ CallsH Tryz.prog 58 (#[.pointer a62, .int .i64 n65]) (h64) (fun v66 h67 => ∃ n68, (v66 = .int .i64 n68) ∧ ∃ a69, ∃ k70, ∃ k71, (h67.cell n_b (n_o + 2) = some (.slice a69 k70 k71)) ∧ (0 ≤ IntKind.i64.wrap (i + 1)) ∧ (IntKind.i64.wrap (i + 1) ≤ Int.ofNat k71) ∧ (0 ≤ IntKind.i64.wrap (i + 1)) ∧ (IntKind.i64.wrap (i + 1) ≤ Int.ofNat (IntKind.i64.wrap (i + 1)).toNat) ∧ ∃ a72, ∃ k73, ∃ k74, (h67.cell n_b (n_o + 2) = some (.slice a72 k73 k74)) ∧ (0 ≤ IntKind.i64.wrap (i + 2)) ∧ (IntKind.i64.wrap (i + 2) ≤ Int.ofNat k73) ∧ ∃ (xs75 : List Value), (SliceAt (h67) (slA k74 (IntKind.i64.wrap (i + 2)).toNat 3 a72) ((k73 - (IntKind.i64.wrap (i + 2)).toNat) * 3) (xs75)) ∧ ∃ (J76 : Option Addr → Nat → Hp → Prop), (∀ (a77 : Option Addr), ∀ (k78 : Nat), ∀ (x79 : Hp), (J76 a77 k78 x79) → ((StoreOk x79 n_b (n_o + 2) 1) ∧ Q (.bool true) (x79.put n_b (n_o + 2) [.slice a77 ((IntKind.i64.wrap (i + 1)).toNat + (k73 - (IntKind.i64.wrap (i + 2)).toNat)) k78]))) ∧ appendC Tryz.prog 100 (slA (IntKind.i64.wrap (i + 1)).toNat 0 3 a69) (IntKind.i64.wrap (i + 1)).toNat (IntKind.i64.wrap (i + 1)).toNat h67 xs75 (k73 - (IntKind.i64.wrap (i + 2)).toNat) J76)))))) ∧ ∃ k80, ∃ k81, (a9 = some ⟨k80, k81, none⟩) ∧ ∃ n82, (h53.cell k80 k81 = some (.int .i64 n82)) ∧ bif hb (n82 == 2) then (CallsH Tryz.prog 104 (#[.pointer (some ⟨t_b, t_o, none⟩), .pointer a9, .int .i64 (IntKind.i64.wrap (Int.ofNat k21 - 1))]) (h53) (fun v83 h84 => ∃ b85, (v83 = .bool b85) ∧ J55 h84)) else (J55 h53))))) ∧ appendC Tryz.prog 100 (slA (Int.ofNat k38).toNat 0 3 a27) (Int.ofNat k33).toNat (Int.ofNat k38).toNat x24 xs45 k43 J46)) ∧ ∃ k86, ∃ k87, (a9 = some ⟨k86, k87, none⟩) ∧ ∃ n88, (h15.cell k86 k87 = some (.int .i64 n88)) ∧ bif hb (n88 == 2) then (∃ k89, ∃ k90, (a9 = some ⟨k89, k90, none⟩) ∧ ∃ a91, ∃ k92, ∃ k93, (h15.cell k89 (k90 + 2) = some (.slice a91 k92 k93)) ∧ ∃ a94, ∃ k95, ∃ k96, (h15.cell n_b (n_o + 2) = some (.slice a94 k95 k96)) ∧ (0 ≤ IntKind.i64.wrap (i + 1)) ∧ (IntKind.i64.wrap (i + 1) < Int.ofNat k95) ∧ ∃ k97, ∃ k98, (a94 = some ⟨k97, k98, none⟩) ∧ ∃ s99, (h15.cell k97 (k98 + (IntKind.i64.wrap (i + 1)).toNat * 3) = some (.string s99)) ∧ ∃ k100, ∃ k101, (a16 = some ⟨k100, k101, none⟩) ∧ ∃ n102, (h15.cell k100 (k101 + 1) = some (.int .i64 n102)) ∧ CallsH Tryz.prog 101 (#[.pointer a9, .int .i64 (Int.ofNat k92), .agg #[.string s99, .string (bytesL []), .int .i64 n102]]) (h15) (fun v103 h104 => (v103 = .tuple #[]) ∧ J23 h104)) else (J23 h15))))))))))
theorem btree_Tree_join.calls (t_b t_o : Nat) (n_b n_o : Nat) (i : Int) {h : Hp} {Q : Value → Hp → Prop} (hW : btree_Tree_join.W t_b t_o n_b n_o i h Q) : CallsH Tryz.prog 104 #[.pointer (some ⟨t_b, t_o, none⟩), .pointer (some ⟨n_b, n_o, none⟩), .int .i64 i] h Q := by
  have hE_ : bodyW Tryz.prog btree_Tree_join.H Tryz.f104 [.ptr t_b t_o, .ptr n_b n_o, .val (.int .i64 i)] h Q = btree_Tree_join.W t_b t_o n_b n_o i h Q := by kernel_rfl
  rw [← hE_] at hW
  exact calls_of_body (H := btree_Tree_join.H) (args := [.ptr t_b t_o, .ptr n_b n_o, .val (.int .i64 i)]) Tryz.func104 Tryz.ntmps104 rfl rfl hW

def btree_two.H : Hints := { N := 16, loc := (fun _ => false), join := (fun _ => none), loop := (fun _ => none), ifc := 0, order := (fun i => bif Nat.beq i 1 then some (none, false, [0, 1, 2, 3, 4, 5, 6, 7, 8, 9, 10, 11], .q 0 (.q 1 (.q 2 (.q 3 (.q 4 (.q 5 (.q 6 (.q 7 (.q 8 (.q 9 (.q 10 (.q 11 .done)))))))))))) else none) }
def btree_two.W (b : ByteArray) (p1 : Int) (h : Hp) (Q : Value → Hp → Prop) : Prop :=
  ((0 ≤ p1) ∧ (p1 < Int.ofNat b.size) ∧ (Int.ofNat 0 ≤ 8) ∧ (0 ≤ IntKind.i64.wrap (p1 + 1)) ∧ (IntKind.i64.wrap (p1 + 1) < Int.ofNat b.size) ∧ Q (.int .i64 (IntKind.i64.wrap (ior IntKind.i64 (IntKind.i64.wrap (ishl IntKind.i64 (IntKind.i64.wrap (byteAt b p1.toNat)) 8)) (IntKind.i64.wrap (byteAt b (IntKind.i64.wrap (p1 + 1)).toNat))))) h)
theorem btree_two.calls (b : ByteArray) (p1 : Int) {h : Hp} {Q : Value → Hp → Prop} (hW : btree_two.W b p1 h Q) : CallsH Tryz.prog 117 #[.string b, .int .i64 p1] h Q := by
  have hE_ : bodyW Tryz.prog btree_two.H Tryz.f117 [.val (.string b), .val (.int .i64 p1)] h Q = btree_two.W b p1 h Q := by kernel_rfl
  rw [← hE_] at hW
  exact calls_of_body (H := btree_two.H) (args := [.val (.string b), .val (.int .i64 p1)]) Tryz.func117 Tryz.ntmps117 rfl rfl hW

def strings_Trim.H : Hints := { N := 43, loc := (fun _ => false), join := (fun _ => none), loop := (fun _ => none), ifc := 0, order := (fun i => bif Nat.beq i 4 then some (some 3, false, [0, 1, 2, 4, 5, 3, 6, 7], .q 0 (.q 1 (.q 2 (.q 4 (.q 5 (.f 3 (.f 6 (.q 7 .done) .e) .e)))))) else none) }
def strings_Trim.W (s : ByteArray) (cutset : ByteArray) (h : Hp) (Q : Value → Hp → Prop) : Prop :=
  (bif beqS s (bytesL []) then (Q (.string s) h) else (bif beqS cutset (bytesL []) then (Q (.string s) h) else (bif hb (Int.ofNat cutset.size == 1) then (bif true && Nat.blt 0 cutset.size then (bif hb (decide (byteAt cutset 0 < 128)) then (bif true && Nat.blt 0 cutset.size then (bif true && Nat.blt 0 cutset.size then (CallsH Tryz.prog 133 (#[.string s, .int .u8 (byteAt cutset 0)]) (h) (fun v1 h2 => ∃ s3, (v1 = .string s3) ∧ CallsH Tryz.prog 132 (#[.string s3, .int .u8 (byteAt cutset 0)]) (h2) (fun v4 h5 => ∃ s6, (v4 = .string s6) ∧ Q (.string s6) h5))) else False) else False) else (CallsH Tryz.prog 134 (#[.string cutset]) (h) (fun v7 h8 => ∃ (xs9 : List Value), (xs9.length = 256) ∧ ∃ b10, (v7 = .tuple #[.agg xs9.toArray, .bool b10]) ∧ ∀ (k11 : Nat), (h8 k11 = none) → ((xs9.length = 256) ∧ (plainP xs9) ∧ (StoreOk (h8.upd k11 (.cells (zeroL Tryz.prog 185).toArray 185 (0, 0))) k11 0 xs9.length) ∧ bif b10 then (CallsH Tryz.prog 136 (#[.string s, .pointer (some ⟨k11, 0, none⟩)]) ((h8.upd k11 (.cells (zeroL Tryz.prog 185).toArray 185 (0, 0))).put k11 0 xs9) (fun v12 h13 => ∃ s14, (v12 = .string s14) ∧ CallsH Tryz.prog 135 (#[.string s14, .pointer (some ⟨k11, 0, none⟩)]) (h13) (fun v15 h16 => ∃ s17, (v15 = .string s17) ∧ Q (.string s17) h16))) else (CallsH Tryz.prog 138 (#[.string s, .string cutset]) ((h8.upd k11 (.cells (zeroL Tryz.prog 185).toArray 185 (0, 0))).put k11 0 xs9) (fun v18 h19 => ∃ s20, (v18 = .string s20) ∧ CallsH Tryz.prog 137 (#[.string s20, .string cutset]) (h19) (fun v21 h22 => ∃ s23, (v21 = .string s23) ∧ Q (.string s23) h22))))))) else False) else (CallsH Tryz.prog 134 (#[.string cutset]) (h) (fun v24 h25 => ∃ (xs26 : List Value), (xs26.length = 256) ∧ ∃ b27, (v24 = .tuple #[.agg xs26.toArray, .bool b27]) ∧ ∀ (k28 : Nat), (h25 k28 = none) → ((xs26.length = 256) ∧ (plainP xs26) ∧ (StoreOk (h25.upd k28 (.cells (zeroL Tryz.prog 185).toArray 185 (0, 0))) k28 0 xs26.length) ∧ bif b27 then (CallsH Tryz.prog 136 (#[.string s, .pointer (some ⟨k28, 0, none⟩)]) ((h25.upd k28 (.cells (zeroL Tryz.prog 185).toArray 185 (0, 0))).put k28 0 xs26) (fun v29 h30 => ∃ s31, (v29 = .string s31) ∧ CallsH Tryz.prog 135 (#[.string s31, .pointer (some ⟨k28, 0, none⟩)]) (h30) (fun v32 h33 => ∃ s34, (v32 = .string s34) ∧ Q (.string s34) h33))) else (CallsH Tryz.prog 138 (#[.string s, .string cutset]) ((h25.upd k28 (.cells (zeroL Tryz.prog 185).toArray 185 (0, 0))).put k28 0 xs26) (fun v35 h36 => ∃ s37, (v35 = .string s37) ∧ CallsH Tryz.prog 137 (#[.string s37, .string cutset]) (h36) (fun v38 h39 => ∃ s40, (v38 = .string s40) ∧ Q (.string s40) h39)))))))))
theorem strings_Trim.calls (s : ByteArray) (cutset : ByteArray) {h : Hp} {Q : Value → Hp → Prop} (hW : strings_Trim.W s cutset h Q) : CallsH Tryz.prog 118 #[.string s, .string cutset] h Q := by
  have hE_ : bodyW Tryz.prog strings_Trim.H Tryz.f118 [.val (.string s), .val (.string cutset)] h Q = strings_Trim.W s cutset h Q := by kernel_rfl
  rw [← hE_] at hW
  exact calls_of_body (H := strings_Trim.H) (args := [.val (.string s), .val (.string cutset)]) Tryz.func118 Tryz.ntmps118 rfl rfl hW

def strings_trimLeftByte.H : Hints := { N := 17, loc := (fun _ => false), join := (fun _ => none), loop := (fun i => bif Nat.beq i 1 then some [.slot 0 (.str)] else none), ifc := 0, order := (fun _ => none) }
def strings_trimLeftByte.W (s : ByteArray) (c : Int) (h : Hp) (Q : Value → Hp → Prop) : Prop :=
  (∃ (J1 : ByteArray → Hp → Nat → Prop), (∃ k2, J1 s h k2) ∧ ∀ (s3 : ByteArray), ∀ (x4 : Hp), ∀ (k5 : Nat), (J1 s3 x4 k5) → (bif hb (decide (Int.ofNat s3.size > 0)) then (bif true && Nat.blt 0 s3.size then (bif hb (byteAt s3 0 == c) then ((Int.ofNat 0 ≤ 1) ∧ (1 ≤ Int.ofNat s3.size) ∧ ∃ k6, (k6 < k5) ∧ J1 (s3.extract (Int.toNat 1) s3.size) x4 k6) else (Q (.string s3) x4)) else False) else (Q (.string s3) x4)))
theorem strings_trimLeftByte.calls (s : ByteArray) (c : Int) {h : Hp} {Q : Value → Hp → Prop} (hW : strings_trimLeftByte.W s c h Q) : CallsH Tryz.prog 132 #[.string s, .int .u8 c] h Q := by
  have hE_ : bodyW Tryz.prog strings_trimLeftByte.H Tryz.f132 [.val (.string s), .val (.int .u8 c)] h Q = strings_trimLeftByte.W s c h Q := by kernel_rfl
  rw [← hE_] at hW
  exact calls_of_body (H := strings_trimLeftByte.H) (args := [.val (.string s), .val (.int .u8 c)]) Tryz.func132 Tryz.ntmps132 rfl rfl hW

def strings_trimRightByte.H : Hints := { N := 23, loc := (fun _ => false), join := (fun _ => none), loop := (fun i => bif Nat.beq i 1 then some [.slot 0 (.str)] else none), ifc := 0, order := (fun _ => none) }
def strings_trimRightByte.W (s : ByteArray) (c : Int) (h : Hp) (Q : Value → Hp → Prop) : Prop :=
  (∃ (J1 : ByteArray → Hp → Nat → Prop), (∃ k2, J1 s h k2) ∧ ∀ (s3 : ByteArray), ∀ (x4 : Hp), ∀ (k5 : Nat), (J1 s3 x4 k5) → (bif hb (decide (Int.ofNat s3.size > 0)) then ((0 ≤ IntKind.i64.wrap (Int.ofNat s3.size - 1)) ∧ (IntKind.i64.wrap (Int.ofNat s3.size - 1) < Int.ofNat s3.size) ∧ bif hb (byteAt s3 (IntKind.i64.wrap (Int.ofNat s3.size - 1)).toNat == c) then ((0 ≤ IntKind.i64.wrap (Int.ofNat s3.size - 1)) ∧ (IntKind.i64.wrap (Int.ofNat s3.size - 1) ≤ Int.ofNat s3.size) ∧ ∃ k6, (k6 < k5) ∧ J1 (s3.extract 0 (IntKind.i64.wrap (Int.ofNat s3.size - 1)).toNat) x4 k6) else (Q (.string s3) x4)) else (Q (.string s3) x4)))
theorem strings_trimRightByte.calls (s : ByteArray) (c : Int) {h : Hp} {Q : Value → Hp → Prop} (hW : strings_trimRightByte.W s c h Q) : CallsH Tryz.prog 133 #[.string s, .int .u8 c] h Q := by
  have hE_ : bodyW Tryz.prog strings_trimRightByte.H Tryz.f133 [.val (.string s), .val (.int .u8 c)] h Q = strings_trimRightByte.W s c h Q := by kernel_rfl
  rw [← hE_] at hW
  exact calls_of_body (H := strings_trimRightByte.H) (args := [.val (.string s), .val (.int .u8 c)]) Tryz.func133 Tryz.ntmps133 rfl rfl hW

end Go.Proofs.YthbogjbcecmopaaGreatDoor
namespace Go.Proofs.YthbogjbcecmopaaGreatDoor
open Go.Gx
set_option maxRecDepth 100000
set_option linter.unusedVariables false

def btree_Tree_Range.H : Hints := { N := 31, loc := (fun _ => false), join := (fun _ => none), loop := (fun _ => none), ifc := 0, order := (fun i => bif Nat.beq i 6 then some (some 8, false, [0, 1, 2, 3, 4, 5, 6, 7, 8, 9], .q 0 (.q 1 (.q 2 (.q 3 (.q 4 (.q 5 (.q 6 (.q 7 (.f 8 (.q 9 .done) .e))))))))) else none), clo := true }
def btree_Tree_Range.W (t_b t_o : Nat) (p1 : ByteArray) (to : ByteArray) (most : Int) (h : Hp) (Q : Value → Hp → Prop) : Prop :=
  (∀ (k1 : Nat), ((h k1 = none) → (∀ (k2 : Nat), ((h.upd k1 (.cells #[.pointer (some ⟨t_b, t_o, none⟩)] 25 (0, 0)) k2 = none) → (∀ (k3 : Nat), (((h.upd k1 (.cells #[.pointer (some ⟨t_b, t_o, none⟩)] 25 (0, 0))).upd k2 (.cells #[.string p1] 9 (0, 0)) k3 = none) → (∀ (k4 : Nat), ((((h.upd k1 (.cells #[.pointer (some ⟨t_b, t_o, none⟩)] 25 (0, 0))).upd k2 (.cells #[.string p1] 9 (0, 0))).upd k3 (.cells #[.string to] 9 (0, 0)) k4 = none) → (∀ (k5 : Nat), (((((h.upd k1 (.cells #[.pointer (some ⟨t_b, t_o, none⟩)] 25 (0, 0))).upd k2 (.cells #[.string p1] 9 (0, 0))).upd k3 (.cells #[.string to] 9 (0, 0))).upd k4 (.cells #[.int .i64 most] 3 (0, 0)) k5 = none) → (∃ a6, ((((((h.upd k1 (.cells #[.pointer (some ⟨t_b, t_o, none⟩)] 25 (0, 0))).upd k2 (.cells #[.string p1] 9 (0, 0))).upd k3 (.cells #[.string to] 9 (0, 0))).upd k4 (.cells #[.int .i64 most] 3 (0, 0))).upd k5 (.cells #[.slice none 0 0] 37 (0, 0))).cell k1 0 = some (.pointer a6)) ∧ bif a6.isNone then (∃ a7, ∃ k8, ∃ k9, ((((((h.upd k1 (.cells #[.pointer (some ⟨t_b, t_o, none⟩)] 25 (0, 0))).upd k2 (.cells #[.string p1] 9 (0, 0))).upd k3 (.cells #[.string to] 9 (0, 0))).upd k4 (.cells #[.int .i64 most] 3 (0, 0))).upd k5 (.cells #[.slice none 0 0] 37 (0, 0))).cell k5 0 = some (.slice a7 k8 k9)) ∧ Q (.slice a7 k8 k9) (((((h.upd k1 (.cells #[.pointer (some ⟨t_b, t_o, none⟩)] 25 (0, 0))).upd k2 (.cells #[.string p1] 9 (0, 0))).upd k3 (.cells #[.string to] 9 (0, 0))).upd k4 (.cells #[.int .i64 most] 3 (0, 0))).upd k5 (.cells #[.slice none 0 0] 37 (0, 0)))) else (∀ (k10 : Nat), (((((h.upd k1 (.cells #[.pointer (some ⟨t_b, t_o, none⟩)] 25 (0, 0))).upd k2 (.cells #[.string p1] 9 (0, 0))).upd k3 (.cells #[.string to] 9 (0, 0))).upd k4 (.cells #[.int .i64 most] 3 (0, 0))).upd k5 (.cells #[.slice none 0 0] 37 (0, 0)) k10 = none) → ((StoreOk ((((((h.upd k1 (.cells #[.pointer (some ⟨t_b, t_o, none⟩)] 25 (0, 0))).upd k2 (.cells #[.string p1] 9 (0, 0))).upd k3 (.cells #[.string to] 9 (0, 0))).upd k4 (.cells #[.int .i64 most] 3 (0, 0))).upd k5 (.cells #[.slice none 0 0] 37 (0, 0))).upd k10 (.cells #[.nilFunc] 112 (0, 0))) k10 0 1) ∧ ∃ a11, ((((((((h.upd k1 (.cells #[.pointer (some ⟨t_b, t_o, none⟩)] 25 (0, 0))).upd k2 (.cells #[.string p1] 9 (0, 0))).upd k3 (.cells #[.string to] 9 (0, 0))).upd k4 (.cells #[.int .i64 most] 3 (0, 0))).upd k5 (.cells #[.slice none 0 0] 37 (0, 0))).upd k10 (.cells #[.nilFunc] 112 (0, 0))).put k10 0 [.func (Fn.func 63) #[] #[.pointer (some ⟨k1, 0, none⟩), .pointer (some ⟨k2, 0, none⟩), .pointer (some ⟨k5, 0, none⟩), .pointer (some ⟨k4, 0, none⟩), .pointer (some ⟨k3, 0, none⟩), .pointer (some ⟨k10, 0, none⟩)]]).cell k1 0 = some (.pointer a11)) ∧ ∃ k12, ∃ k13, (a11 = some ⟨k12, k13, none⟩) ∧ ∃ a14, ((((((((h.upd k1 (.cells #[.pointer (some ⟨t_b, t_o, none⟩)] 25 (0, 0))).upd k2 (.cells #[.string p1] 9 (0, 0))).upd k3 (.cells #[.string to] 9 (0, 0))).upd k4 (.cells #[.int .i64 most] 3 (0, 0))).upd k5 (.cells #[.slice none 0 0] 37 (0, 0))).upd k10 (.cells #[.nilFunc] 112 (0, 0))).put k10 0 [.func (Fn.func 63) #[] #[.pointer (some ⟨k1, 0, none⟩), .pointer (some ⟨k2, 0, none⟩), .pointer (some ⟨k5, 0, none⟩), .pointer (some ⟨k4, 0, none⟩), .pointer (some ⟨k3, 0, none⟩), .pointer (some ⟨k10, 0, none⟩)]]).cell k12 k13 = some (.pointer a14)) ∧ ∃ a15, ((((((((h.upd k1 (.cells #[.pointer (some ⟨t_b, t_o, none⟩)] 25 (0, 0))).upd k2 (.cells #[.string p1] 9 (0, 0))).upd k3 (.cells #[.string to] 9 (0, 0))).upd k4 (.cells #[.int .i64 most] 3 (0, 0))).upd k5 (.cells #[.slice none 0 0] 37 (0, 0))).upd k10 (.cells #[.nilFunc] 112 (0, 0))).put k10 0 [.func (Fn.func 63) #[] #[.pointer (some ⟨k1, 0, none⟩), .pointer (some ⟨k2, 0, none⟩), .pointer (some ⟨k5, 0, none⟩), .pointer (some ⟨k4, 0, none⟩), .pointer (some ⟨k3, 0, none⟩), .pointer (some ⟨k10, 0, none⟩)]]).cell k1 0 = some (.pointer a15)) ∧ ∃ k16, ∃ k17, (a15 = some ⟨k16, k17, none⟩) ∧ ∃ n18, ((((((((h.upd k1 (.cells #[.pointer (some ⟨t_b, t_o, none⟩)] 25 (0, 0))).upd k2 (.cells #[.string p1] 9 (0, 0))).upd k3 (.cells #[.string to] 9 (0, 0))).upd k4 (.cells #[.int .i64 most] 3 (0, 0))).upd k5 (.cells #[.slice none 0 0] 37 (0, 0))).upd k10 (.cells #[.nilFunc] 112 (0, 0))).put k10 0 [.func (Fn.func 63) #[] #[.pointer (some ⟨k1, 0, none⟩), .pointer (some ⟨k2, 0, none⟩), .pointer (some ⟨k5, 0, none⟩), .pointer (some ⟨k4, 0, none⟩), .pointer (some ⟨k3, 0, none⟩), .pointer (some ⟨k10, 0, none⟩)]]).cell k16 (k17 + 1) = some (.int .i64 n18)) ∧ FnH Tryz.prog (.func (Fn.func 47) #[] #[]) ([.pointer a14, .int .i64 n18]) (((((((h.upd k1 (.cells #[.pointer (some ⟨t_b, t_o, none⟩)] 25 (0, 0))).upd k2 (.cells #[.string p1] 9 (0, 0))).upd k3 (.cells #[.string to] 9 (0, 0))).upd k4 (.cells #[.int .i64 most] 3 (0, 0))).upd k5 (.cells #[.slice none 0 0] 37 (0, 0))).upd k10 (.cells #[.nilFunc] 112 (0, 0))).put k10 0 [.func (Fn.func 63) #[] #[.pointer (some ⟨k1, 0, none⟩), .pointer (some ⟨k2, 0, none⟩), .pointer (some ⟨k5, 0, none⟩), .pointer (some ⟨k4, 0, none⟩), .pointer (some ⟨k3, 0, none⟩), .pointer (some ⟨k10, 0, none⟩)]]) (fun v19 h20 => ∃ n21, (v19 = .int .i64 n21) ∧ bif hb (n21 != 0) then (∃ (v22 : Value), (h20.cell k10 0 = some v22) ∧ FnH Tryz.prog (v22) ([.int .i64 n21]) (h20) (fun v23 h24 => (v23 = .tuple #[]) ∧ ∃ a25, ∃ k26, ∃ k27, (h24.cell k5 0 = some (.slice a25 k26 k27)) ∧ Q (.slice a25 k26 k27) h24)) else (∃ a28, ∃ k29, ∃ k30, (h20.cell k5 0 = some (.slice a28 k29 k30)) ∧ Q (.slice a28 k29 k30) h20)))))))))))))))
theorem btree_Tree_Range.calls (t_b t_o : Nat) (p1 : ByteArray) (to : ByteArray) (most : Int) {h : Hp} {Q : Value → Hp → Prop} (hW : btree_Tree_Range.W t_b t_o p1 to most h Q) : CallsH Tryz.prog 24 #[.pointer (some ⟨t_b, t_o, none⟩), .string p1, .string to, .int .i64 most] h Q := by
  have hE_ : bodyW Tryz.prog btree_Tree_Range.H Tryz.f24 [.ptr t_b t_o, .val (.string p1), .val (.string to), .val (.int .i64 most)] h Q = btree_Tree_Range.W t_b t_o p1 to most h Q := by kernel_rfl
  rw [← hE_] at hW
  exact calls_of_body (H := btree_Tree_Range.H) (args := [.ptr t_b t_o, .val (.string p1), .val (.string to), .val (.int .i64 most)]) Tryz.func24 Tryz.ntmps24 rfl rfl hW

def btree_Tree_Check.H : Hints := { N := 25, loc := (fun _ => false), join := (fun _ => none), loop := (fun _ => none), ifc := 0, order := (fun i => bif Nat.beq i 7 then some (some 8, false, [0, 1, 2, 3, 4, 5, 6, 7, 8, 9], .q 0 (.q 1 (.q 2 (.q 3 (.q 4 (.q 5 (.q 6 (.q 7 (.f 8 (.q 9 .done) .e))))))))) else none), clo := true }
def btree_Tree_Check.W (t_b t_o : Nat) (h : Hp) (Q : Value → Hp → Prop) : Prop :=
  (∀ (k1 : Nat), ((h k1 = none) → (∃ a2, ((h.upd k1 (.cells #[.pointer (some ⟨t_b, t_o, none⟩)] 25 (0, 0))).cell k1 0 = some (.pointer a2)) ∧ bif a2.isNone then (Q (.int .i64 1) (h.upd k1 (.cells #[.pointer (some ⟨t_b, t_o, none⟩)] 25 (0, 0)))) else (∀ (k3 : Nat), (h.upd k1 (.cells #[.pointer (some ⟨t_b, t_o, none⟩)] 25 (0, 0)) k3 = none) → (∀ (x4 : Obj), (MapObj Tryz.prog 3 x4 []) → (∀ (k5 : Nat), ((h.upd k1 (.cells #[.pointer (some ⟨t_b, t_o, none⟩)] 25 (0, 0))).upd k3 x4 k5 = none) → ((StoreOk (((h.upd k1 (.cells #[.pointer (some ⟨t_b, t_o, none⟩)] 25 (0, 0))).upd k3 x4).upd k5 (.cells #[.map none] 113 (0, 0))) k5 0 1) ∧ ∀ (k6 : Nat), ((((h.upd k1 (.cells #[.pointer (some ⟨t_b, t_o, none⟩)] 25 (0, 0))).upd k3 x4).upd k5 (.cells #[.map none] 113 (0, 0))).put k5 0 [.map (some k3)] k6 = none) → ((StoreOk (((((h.upd k1 (.cells #[.pointer (some ⟨t_b, t_o, none⟩)] 25 (0, 0))).upd k3 x4).upd k5 (.cells #[.map none] 113 (0, 0))).put k5 0 [.map (some k3)]).upd k6 (.cells #[.int .i64 0] 3 (0, 0))) k6 0 1) ∧ ∀ (k7 : Nat), ((((((h.upd k1 (.cells #[.pointer (some ⟨t_b, t_o, none⟩)] 25 (0, 0))).upd k3 x4).upd k5 (.cells #[.map none] 113 (0, 0))).put k5 0 [.map (some k3)]).upd k6 (.cells #[.int .i64 0] 3 (0, 0))).put k6 0 [.int .i64 0] k7 = none) → ((StoreOk (((((((h.upd k1 (.cells #[.pointer (some ⟨t_b, t_o, none⟩)] 25 (0, 0))).upd k3 x4).upd k5 (.cells #[.map none] 113 (0, 0))).put k5 0 [.map (some k3)]).upd k6 (.cells #[.int .i64 0] 3 (0, 0))).put k6 0 [.int .i64 0]).upd k7 (.cells #[.nilFunc] 114 (0, 0))) k7 0 1) ∧ ∃ a8, (((((((((h.upd k1 (.cells #[.pointer (some ⟨t_b, t_o, none⟩)] 25 (0, 0))).upd k3 x4).upd k5 (.cells #[.map none] 113 (0, 0))).put k5 0 [.map (some k3)]).upd k6 (.cells #[.int .i64 0] 3 (0, 0))).put k6 0 [.int .i64 0]).upd k7 (.cells #[.nilFunc] 114 (0, 0))).put k7 0 [.func (Fn.func 64) #[] #[.pointer (some ⟨k5, 0, none⟩), .pointer (some ⟨k1, 0, none⟩), .pointer (some ⟨k6, 0, none⟩), .pointer (some ⟨k7, 0, none⟩)]]).cell k1 0 = some (.pointer a8)) ∧ ∃ k9, ∃ k10, (a8 = some ⟨k9, k10, none⟩) ∧ ∃ a11, (((((((((h.upd k1 (.cells #[.pointer (some ⟨t_b, t_o, none⟩)] 25 (0, 0))).upd k3 x4).upd k5 (.cells #[.map none] 113 (0, 0))).put k5 0 [.map (some k3)]).upd k6 (.cells #[.int .i64 0] 3 (0, 0))).put k6 0 [.int .i64 0]).upd k7 (.cells #[.nilFunc] 114 (0, 0))).put k7 0 [.func (Fn.func 64) #[] #[.pointer (some ⟨k5, 0, none⟩), .pointer (some ⟨k1, 0, none⟩), .pointer (some ⟨k6, 0, none⟩), .pointer (some ⟨k7, 0, none⟩)]]).cell k9 k10 = some (.pointer a11)) ∧ ∃ a12, (((((((((h.upd k1 (.cells #[.pointer (some ⟨t_b, t_o, none⟩)] 25 (0, 0))).upd k3 x4).upd k5 (.cells #[.map none] 113 (0, 0))).put k5 0 [.map (some k3)]).upd k6 (.cells #[.int .i64 0] 3 (0, 0))).put k6 0 [.int .i64 0]).upd k7 (.cells #[.nilFunc] 114 (0, 0))).put k7 0 [.func (Fn.func 64) #[] #[.pointer (some ⟨k5, 0, none⟩), .pointer (some ⟨k1, 0, none⟩), .pointer (some ⟨k6, 0, none⟩), .pointer (some ⟨k7, 0, none⟩)]]).cell k1 0 = some (.pointer a12)) ∧ ∃ k13, ∃ k14, (a12 = some ⟨k13, k14, none⟩) ∧ ∃ n15, (((((((((h.upd k1 (.cells #[.pointer (some ⟨t_b, t_o, none⟩)] 25 (0, 0))).upd k3 x4).upd k5 (.cells #[.map none] 113 (0, 0))).put k5 0 [.map (some k3)]).upd k6 (.cells #[.int .i64 0] 3 (0, 0))).put k6 0 [.int .i64 0]).upd k7 (.cells #[.nilFunc] 114 (0, 0))).put k7 0 [.func (Fn.func 64) #[] #[.pointer (some ⟨k5, 0, none⟩), .pointer (some ⟨k1, 0, none⟩), .pointer (some ⟨k6, 0, none⟩), .pointer (some ⟨k7, 0, none⟩)]]).cell k13 (k14 + 1) = some (.int .i64 n15)) ∧ FnH Tryz.prog (.func (Fn.func 47) #[] #[]) ([.pointer a11, .int .i64 n15]) ((((((((h.upd k1 (.cells #[.pointer (some ⟨t_b, t_o, none⟩)] 25 (0, 0))).upd k3 x4).upd k5 (.cells #[.map none] 113 (0, 0))).put k5 0 [.map (some k3)]).upd k6 (.cells #[.int .i64 0] 3 (0, 0))).put k6 0 [.int .i64 0]).upd k7 (.cells #[.nilFunc] 114 (0, 0))).put k7 0 [.func (Fn.func 64) #[] #[.pointer (some ⟨k5, 0, none⟩), .pointer (some ⟨k1, 0, none⟩), .pointer (some ⟨k6, 0, none⟩), .pointer (some ⟨k7, 0, none⟩)]]) (fun v16 h17 => ∃ n18, (v16 = .int .i64 n18) ∧ bif hb (n18 != 0) then (∃ (v19 : Value), (h17.cell k7 0 = some v19) ∧ FnH Tryz.prog (v19) ([.int .i64 n18, .int .i64 1, .string (bytesL []), .string (bytesL [])]) (h17) (fun v20 h21 => ∃ n22, (v20 = .int .i64 n22) ∧ Q (.int .i64 n22) h21)) else (Q (.int .i64 0) h17)))))))))))
theorem btree_Tree_Check.calls (t_b t_o : Nat) {h : Hp} {Q : Value → Hp → Prop} (hW : btree_Tree_Check.W t_b t_o h Q) : CallsH Tryz.prog 26 #[.pointer (some ⟨t_b, t_o, none⟩)] h Q := by
  have hE_ : bodyW Tryz.prog btree_Tree_Check.H Tryz.f26 [.ptr t_b t_o] h Q = btree_Tree_Check.W t_b t_o h Q := by kernel_rfl
  rw [← hE_] at hW
  exact calls_of_body (H := btree_Tree_Check.H) (args := [.ptr t_b t_o]) Tryz.func26 Tryz.ntmps26 rfl rfl hW

def btree_Tree_Range_1.H : Hints := { N := 97, loc := (fun i => Nat.beq i 12 || false), join := (fun i => bif Nat.beq i 6 then some [] else none), loop := (fun i => bif Nat.beq i 4 then some [.slot 10 (.int .i64)] else bif Nat.beq i 8 then some [.slot 74 (.int .i64)] else none), ifc := 0, order := (fun i => bif Nat.beq i 4 then some (none, false, [0, 1, 2, 3, 4, 5, 6, 7, 8, 9, 10, 11, 12, 13, 14, 15, 16, 17, 18, 19, 20, 21, 22, 23, 24, 25, 26, 27, 28], .q 0 (.q 1 (.q 2 (.q 3 (.q 4 (.q 5 (.q 6 (.q 7 (.q 8 (.q 9 (.q 10 (.q 11 (.q 12 (.q 13 (.q 14 (.q 15 (.q 16 (.q 17 (.q 18 (.q 19 (.q 20 (.q 21 (.q 22 (.q 23 (.q 24 (.q 25 (.q 26 (.q 27 (.q 28 .done))))))))))))))))))))))))))))) else bif Nat.beq i 6 then some (some 4, false, [0, 1, 2, 3, 4], .q 0 (.q 1 (.q 2 (.f 3 (.f 4 (.done) .e) .e)))) else bif Nat.beq i 7 then some (none, false, [0, 1, 2, 3, 4, 5, 9, 6, 7, 8], .q 0 (.q 1 (.q 2 (.q 3 (.q 4 (.q 5 (.q 9 (.f 6 (.q 7 (.q 8 .done)) .e)))))))) else none), clo := true }
def btree_Tree_Range_1.W (id : Int) (p11_b p11_o : Nat) (p22_b p22_o : Nat) (p33_b p33_o : Nat) (p44_b p44_o : Nat) (p55_b p55_o : Nat) (p66_b p66_o : Nat) (h : Hp) (Q : Value → Hp → Prop) : Prop :=
  (∃ a1, (h.cell p11_b p11_o = some (.pointer a1)) ∧ FnH Tryz.prog (.func (Fn.func 48) #[] #[]) ([.pointer a1, .int .i64 id]) (h) (fun v2 h3 => ∃ a4, ∃ n5, (v2 = .tuple #[.pointer a4, .int .i64 n5]) ∧ bif hb (n5 != 0) then (Q (.tuple #[]) h3) else (∃ k6, ∃ k7, (a4 = some ⟨k6, k7, none⟩) ∧ ∃ n8, (h3.cell k6 k7 = some (.int .i64 n8)) ∧ bif hb (n8 == 2) then (∃ s9, (h3.cell p22_b p22_o = some (.string s9)) ∧ FnH Tryz.prog (.func (Fn.func 51) #[] #[]) ([.pointer a4, .string s9]) (h3) (fun v10 h11 => ∃ n12, (v10 = .int .i64 n12) ∧ ∃ (J13 : Int → Hp → Nat → Prop), (∃ k14, J13 n12 h11 k14) ∧ ∀ (n15 : Int), ∀ (x16 : Hp), ∀ (k17 : Nat), (J13 n15 x16 k17) → (∃ (J18 : Hp → Prop), (∀ (x19 : Hp), (J18 x19) → (∃ (v20 : Value), (x19.cell p66_b p66_o = some v20) ∧ FnH Tryz.prog (.func (Fn.func 50) #[] #[]) ([.pointer a4, .int .i64 n15]) (x19) (fun v21 h22 => ∃ n23, (v21 = .int .i64 n23) ∧ (Gx.Sub x19 h22) ∧ FnH Tryz.prog (v20) ([.int .i64 n23]) (h22) (fun v24 h25 => (v24 = .tuple #[]) ∧ ∃ k26, (k26 < k17) ∧ J13 (IntKind.i64.wrap (n15 + 1)) h25 k26)))) ∧ ∃ k27, ∃ k28, (a4 = some ⟨k27, k28, none⟩) ∧ ∃ a29, ∃ k30, ∃ k31, (x16.cell k27 (k28 + 2) = some (.slice a29 k30 k31)) ∧ bif hb (decide (n15 < Int.ofNat k30)) then (∃ a32, ∃ k33, ∃ k34, (x16.cell p33_b p33_o = some (.slice a32 k33 k34)) ∧ ∃ n35, (x16.cell p44_b p44_o = some (.int .i64 n35)) ∧ bif hb (decide (Int.ofNat k33 < n35)) then (bif hb (decide (n15 < 0)) then (J18 x16) else (∃ k36, ∃ k37, (a4 = some ⟨k36, k37, none⟩) ∧ ∃ a38, ∃ k39, ∃ k40, (x16.cell k36 (k37 + 2) = some (.slice a38 k39 k40)) ∧ (0 ≤ n15) ∧ (n15 < Int.ofNat k39) ∧ ∃ k41, ∃ k42, (a38 = some ⟨k41, k42, none⟩) ∧ ∃ s43, (x16.cell k41 (k42 + n15.toNat * 3) = some (.string s43)) ∧ ∃ s44, (x16.cell p55_b p55_o = some (.string s44)) ∧ bif bltS s43 s44 || beqS s43 s44 then (J18 x16) else (Q (.tuple #[]) x16))) else (Q (.tuple #[]) x16)) else (Q (.tuple #[]) x16)))) else (∃ k45, ∃ k46, (a4 = some ⟨k45, k46, none⟩) ∧ ∃ a47, ∃ k48, ∃ k49, (h3.cell k45 (k46 + 2) = some (.slice a47 k48 k49)) ∧ ∃ s50, (h3.cell p22_b p22_o = some (.string s50)) ∧ FnH Tryz.prog (.func (Fn.func 49) #[] #[]) ([.pointer a4, .string s50]) (h3) (fun v51 h52 => ∃ n53, (v51 = .int .i64 n53) ∧ (Gx.Sub h3 h52) ∧ (0 ≤ n53) ∧ (n53 ≤ Int.ofNat k48) ∧ ∃ (J54 : Int → Hp → Nat → Prop), (∃ k55, J54 0 h52 k55) ∧ ∀ (n56 : Int), ∀ (x57 : Hp), ∀ (k58 : Nat), (J54 n56 x57 k58) → (bif hb (decide (n56 < Int.ofNat (k48 - n53.toNat))) then ((0 ≤ n56) ∧ (n56 < Int.ofNat (k48 - n53.toNat)) ∧ ∃ k59, ∃ k60, (slA k49 n53.toNat 3 a47 = some ⟨k59, k60, none⟩) ∧ ∃ s61, (x57.cell k59 (k60 + n56.toNat * 3) = some (.string s61)) ∧ ∃ s62, (x57.cell k59 (k60 + n56.toNat * 3 + 1) = some (.string s62)) ∧ ∃ n63, (x57.cell k59 (k60 + n56.toNat * 3 + 1 + 1) = some (.int .i64 n63)) ∧ ∃ s64, (x57.cell p55_b p55_o = some (.string s64)) ∧ bif !(bltS s61 s64 || beqS s61 s64) then (Q (.tuple #[]) x57) else (∃ a65, ∃ k66, ∃ k67, (x57.cell p33_b p33_o = some (.slice a65 k66 k67)) ∧ ∃ n68, (x57.cell p44_b p44_o = some (.int .i64 n68)) ∧ bif hb (decide (Int.ofNat k66 ≥ n68)) then (Q (.tuple #[]) x57) else (∃ a69, ∃ k70, ∃ k71, (x57.cell p33_b p33_o = some (.slice a69 k70 k71)) ∧ ∀ (k72 : Nat), (x57 k72 = none) → (∃ (xs73 : List Value), (SliceAt (x57.upd k72 (.cells #[.string s61, .string s62] 42 (0, 0))) (some ⟨k72, 0, none⟩) (2) (xs73)) ∧ ∃ (J74 : Option Addr → Nat → Hp → Prop), (∀ (a75 : Option Addr), ∀ (k76 : Nat), ∀ (x77 : Hp), (J74 a75 k76 x77) → ((StoreOk x77 p33_b p33_o 1) ∧ ∃ k78, (k78 < k58) ∧ J54 (IntKind.i64.wrap (n56 + 1)) (x77.put p33_b p33_o [.slice a75 (k70 + 1) k76]) k78)) ∧ appendC Tryz.prog 42 a69 k70 k71 (x57.upd k72 (.cells #[.string s61, .string s62] 42 (0, 0))) xs73 1 J74)))) else (Q (.tuple #[]) x57)))))))
theorem btree_Tree_Range_1.calls (id : Int) (p11_b p11_o : Nat) (p22_b p22_o : Nat) (p33_b p33_o : Nat) (p44_b p44_o : Nat) (p55_b p55_o : Nat) (p66_b p66_o : Nat) {h : Hp} {Q : Value → Hp → Prop} (hW : btree_Tree_Range_1.W id p11_b p11_o p22_b p22_o p33_b p33_o p44_b p44_o p55_b p55_o p66_b p66_o h Q) : CallsH Tryz.prog 63 #[.int .i64 id, .pointer (some ⟨p11_b, p11_o, none⟩), .pointer (some ⟨p22_b, p22_o, none⟩), .pointer (some ⟨p33_b, p33_o, none⟩), .pointer (some ⟨p44_b, p44_o, none⟩), .pointer (some ⟨p55_b, p55_o, none⟩), .pointer (some ⟨p66_b, p66_o, none⟩)] h Q := by
  have hE_ : bodyW Tryz.prog btree_Tree_Range_1.H Tryz.f63 [.val (.int .i64 id), .ptr p11_b p11_o, .ptr p22_b p22_o, .ptr p33_b p33_o, .ptr p44_b p44_o, .ptr p55_b p55_o, .ptr p66_b p66_o] h Q = btree_Tree_Range_1.W id p11_b p11_o p22_b p22_o p33_b p33_o p44_b p44_o p55_b p55_o p66_b p66_o h Q := by kernel_rfl
  rw [← hE_] at hW
  exact calls_of_body (H := btree_Tree_Range_1.H) (args := [.val (.int .i64 id), .ptr p11_b p11_o, .ptr p22_b p22_o, .ptr p33_b p33_o, .ptr p44_b p44_o, .ptr p55_b p55_o, .ptr p66_b p66_o]) Tryz.func63 Tryz.ntmps63 rfl rfl hW

def btree_Tree_Check_1.H : Hints := { N := 127, loc := (fun i => Nat.beq i 17 || false), join := (fun i => bif Nat.beq i 3 then some [] else none), loop := (fun i => bif Nat.beq i 9 then some [.slot 15 (.str), .slot 55 (.int .i64)] else bif Nat.beq i 22 then some [.slot 18 (.int .i64)] else none), ifc := 0, order := (fun i => bif Nat.beq i 25 then some (some 8, false, [0, 1, 2, 4, 5, 6, 7, 3, 8, 9], .q 0 (.q 1 (.q 2 (.q 4 (.q 5 (.q 6 (.q 7 (.f 3 (.f 8 (.q 9 .done) .e) .e)))))))) else none), clo := true }
def btree_Tree_Check_1.W (id : Int) (depth : Int) (p2 : ByteArray) (to : ByteArray) (p44_b p44_o : Nat) (p55_b p55_o : Nat) (p66_b p66_o : Nat) (p77_b p77_o : Nat) (h : Hp) (Q : Value → Hp → Prop) : Prop :=
  (∃ (J1 : Hp → Prop), (∀ (x2 : Hp), (J1 x2) → (∃ (a3 : Option Nat), (x2.cell p44_b p44_o = some (.map a3)) ∧ ∃ k4, ∃ (x5 : Obj), ∃ (xs6 : List (Value × Value)), (a3 = some k4) ∧ (x2 k4 = some x5) ∧ (MapObj Tryz.prog 3 x5 xs6) ∧ ∀ (x7 : Obj), (MapObj Tryz.prog 3 x7 (mset xs6 (.int .i64 id) (.bool true))) → (∃ a8, ((x2.upd k4 x7).cell p55_b p55_o = some (.pointer a8)) ∧ FnH Tryz.prog (.func (Fn.func 48) #[] #[]) ([.pointer a8, .int .i64 id]) (x2.upd k4 x7) (fun v9 h10 => ∃ a11, ∃ n12, (v9 = .tuple #[.pointer a11, .int .i64 n12]) ∧ bif hb (n12 != 0) then (Q (.int .i64 n12) h10) else (∃ k13, ∃ k14, (a11 = some ⟨k13, k14, none⟩) ∧ ∃ a15, ∃ k16, ∃ k17, (h10.cell k13 (k14 + 2) = some (.slice a15 k16 k17)) ∧ ∃ (J18 : ByteArray → Int → Hp → Nat → Prop), (∃ k19, J18 p2 0 h10 k19) ∧ ∀ (s20 : ByteArray), ∀ (n21 : Int), ∀ (x22 : Hp), ∀ (k23 : Nat), (J18 s20 n21 x22 k23) → (bif hb (decide (n21 < Int.ofNat k16)) then ((0 ≤ n21) ∧ (n21 < Int.ofNat k16) ∧ ∃ k24, ∃ k25, (a15 = some ⟨k24, k25, none⟩) ∧ ∃ s26, (x22.cell k24 (k25 + n21.toNat * 3) = some (.string s26)) ∧ ∃ s27, (x22.cell k24 (k25 + n21.toNat * 3 + 1) = some (.string s27)) ∧ ∃ n28, (x22.cell k24 (k25 + n21.toNat * 3 + 1 + 1) = some (.int .i64 n28)) ∧ bif hb (decide (n21 > 0)) then (bif bltS s26 s20 || beqS s26 s20 then (Q (.int .i64 4) x22) else (bif bltS s26 s20 then (Q (.int .i64 4) x22) else (bif !beqS to (bytesL []) then (bif !bltS s26 to then (Q (.int .i64 4) x22) else (∃ k29, (k29 < k23) ∧ J18 s26 (IntKind.i64.wrap (n21 + 1)) x22 k29)) else (∃ k30, (k30 < k23) ∧ J18 s26 (IntKind.i64.wrap (n21 + 1)) x22 k30)))) else (bif bltS s26 s20 then (Q (.int .i64 4) x22) else (bif !beqS to (bytesL []) then (bif !bltS s26 to then (Q (.int .i64 4) x22) else (∃ k31, (k31 < k23) ∧ J18 s26 (IntKind.i64.wrap (n21 + 1)) x22 k31)) else (∃ k32, (k32 < k23) ∧ J18 s26 (IntKind.i64.wrap (n21 + 1)) x22 k32)))) else (∃ k33, ∃ k34, (a11 = some ⟨k33, k34, none⟩) ∧ ∃ n35, (x22.cell k33 k34 = some (.int .i64 n35)) ∧ bif hb (n35 == 1) then (∃ n36, (x22.cell p66_b p66_o = some (.int .i64 n36)) ∧ bif hb (n36 == 0) then ((StoreOk x22 p66_b p66_o 1) ∧ ∃ n37, ((x22.put p66_b p66_o [.int .i64 depth]).cell p66_b p66_o = some (.int .i64 n37)) ∧ bif hb (n37 != depth) then (Q (.int .i64 4) (x22.put p66_b p66_o [.int .i64 depth])) else (Q (.int .i64 0) (x22.put p66_b p66_o [.int .i64 depth]))) else (∃ n38, (x22.cell p66_b p66_o = some (.int .i64 n38)) ∧ bif hb (n38 != depth) then (Q (.int .i64 4) x22) else (Q (.int .i64 0) x22))) else (∃ (J39 : Int → Hp → Nat → Prop), (∃ k40, J39 (-1) x22 k40) ∧ ∀ (n41 : Int), ∀ (x42 : Hp), ∀ (k43 : Nat), (J39 n41 x42 k43) → (∃ k44, ∃ k45, (a11 = some ⟨k44, k45, none⟩) ∧ ∃ a46, ∃ k47, ∃ k48, (x42.cell k44 (k45 + 2) = some (.slice a46 k47 k48)) ∧ bif hb (decide (n41 < Int.ofNat k47)) then (FnH Tryz.prog (.func (Fn.func 66) #[] #[]) ([.pointer a11, .int .i64 n41, .string p2, .string to]) (x42) (fun v49 h50 => ∃ s51, ∃ s52, (v49 = .tuple #[.string s51, .string s52]) ∧ ∃ (v53 : Value), (h50.cell p77_b p77_o = some v53) ∧ FnH Tryz.prog (.func (Fn.func 50) #[] #[]) ([.pointer a11, .int .i64 n41]) (h50) (fun v54 h55 => ∃ n56, (v54 = .int .i64 n56) ∧ (Gx.Sub h50 h55) ∧ FnH Tryz.prog (v53) ([.int .i64 n56, .int .i64 (IntKind.i64.wrap (depth + 1)), .string s51, .string s52]) (h55) (fun v57 h58 => ∃ n59, (v57 = .int .i64 n59) ∧ bif hb (n59 != 0) then (Q (.int .i64 n59) h58) else (∃ k60, (k60 < k43) ∧ J39 (IntKind.i64.wrap (n41 + 1)) h58 k60))))) else (Q (.int .i64 0) x42)))))))))) ∧ ∃ (a61 : Option Nat), (h.cell p44_b p44_o = some (.map a61)) ∧ ∃ k62, ∃ (x63 : Obj), ∃ (xs64 : List (Value × Value)), (a61 = some k62) ∧ (h k62 = some x63) ∧ (MapObj Tryz.prog 3 x63 xs64) ∧ ∃ b65, ∃ b66, (LookOk xs64 (.int .i64 id) (.bool false) (.bool b65) b66) ∧ bif b65 then (Q (.int .i64 4) h) else (∃ a67, (h.cell p55_b p55_o = some (.pointer a67)) ∧ ∃ k68, ∃ k69, (a67 = some ⟨k68, k69, none⟩) ∧ ∃ a70, (h.cell k68 k69 = some (.pointer a70)) ∧ FnH Tryz.prog (.func (Fn.func 65) #[] #[]) ([.pointer a70, .int .i64 id]) (h) (fun v71 h72 => ∃ b73, (v71 = .bool b73) ∧ bif !b73 then (Q (.int .i64 4) h72) else (bif hb (id == 0) then (Q (.int .i64 4) h72) else (J1 h72)))))
theorem btree_Tree_Check_1.calls (id : Int) (depth : Int) (p2 : ByteArray) (to : ByteArray) (p44_b p44_o : Nat) (p55_b p55_o : Nat) (p66_b p66_o : Nat) (p77_b p77_o : Nat) {h : Hp} {Q : Value → Hp → Prop} (hW : btree_Tree_Check_1.W id depth p2 to p44_b p44_o p55_b p55_o p66_b p66_o p77_b p77_o h Q) : CallsH Tryz.prog 64 #[.int .i64 id, .int .i64 depth, .string p2, .string to, .pointer (some ⟨p44_b, p44_o, none⟩), .pointer (some ⟨p55_b, p55_o, none⟩), .pointer (some ⟨p66_b, p66_o, none⟩), .pointer (some ⟨p77_b, p77_o, none⟩)] h Q := by
  have hE_ : bodyW Tryz.prog btree_Tree_Check_1.H Tryz.f64 [.val (.int .i64 id), .val (.int .i64 depth), .val (.string p2), .val (.string to), .ptr p44_b p44_o, .ptr p55_b p55_o, .ptr p66_b p66_o, .ptr p77_b p77_o] h Q = btree_Tree_Check_1.W id depth p2 to p44_b p44_o p55_b p55_o p66_b p66_o p77_b p77_o h Q := by kernel_rfl
  rw [← hE_] at hW
  exact calls_of_body (H := btree_Tree_Check_1.H) (args := [.val (.int .i64 id), .val (.int .i64 depth), .val (.string p2), .val (.string to), .ptr p44_b p44_o, .ptr p55_b p55_o, .ptr p66_b p66_o, .ptr p77_b p77_o]) Tryz.func64 Tryz.ntmps64 rfl rfl hW

def sort_Search.H : Hints := { N := 26, loc := (fun _ => false), join := (fun _ => none), loop := (fun i => bif Nat.beq i 2 then some [.slot 5 (.int .i64), .slot 6 (.int .i64)] else none), ifc := 0, order := (fun _ => none), clo := true }
def sort_Search.W (n : Int) (f : Value) (h : Hp) (Q : Value → Hp → Prop) : Prop :=
  (∃ (J1 : Int → Int → Hp → Nat → Prop), (∃ k2, J1 0 n h k2) ∧ ∀ (n3 : Int), ∀ (n4 : Int), ∀ (x5 : Hp), ∀ (k6 : Nat), (J1 n3 n4 x5 k6) → (bif hb (decide (n3 < n4)) then ((Int.ofNat 0 ≤ 1) ∧ FnH Tryz.prog (f) ([.int .i64 (IntKind.i64.wrap (ishr IntKind.u64 (IntKind.u64.wrap (IntKind.i64.wrap (n3 + n4))) 1))]) (x5) (fun v7 h8 => ∃ b9, (v7 = .bool b9) ∧ bif !b9 then (∃ k10, (k10 < k6) ∧ J1 (IntKind.i64.wrap (IntKind.i64.wrap (ishr IntKind.u64 (IntKind.u64.wrap (IntKind.i64.wrap (n3 + n4))) 1) + 1)) n4 h8 k10) else (∃ k11, (k11 < k6) ∧ J1 n3 (IntKind.i64.wrap (ishr IntKind.u64 (IntKind.u64.wrap (IntKind.i64.wrap (n3 + n4))) 1)) h8 k11))) else (Q (.int .i64 n3) x5)))
theorem sort_Search.calls (n : Int) (f : Value) {h : Hp} {Q : Value → Hp → Prop} (hW : sort_Search.W n f h Q) : CallsH Tryz.prog 89 #[.int .i64 n, f] h Q := by
  have hE_ : bodyW Tryz.prog sort_Search.H Tryz.f89 [.val (.int .i64 n), .val (f)] h Q = sort_Search.W n f h Q := by kernel_rfl
  rw [← hE_] at hW
  exact calls_of_body (H := sort_Search.H) (args := [.val (.int .i64 n), .val (f)]) Tryz.func89 Tryz.ntmps89 rfl rfl hW

end Go.Proofs.YthbogjbcecmopaaGreatDoor
