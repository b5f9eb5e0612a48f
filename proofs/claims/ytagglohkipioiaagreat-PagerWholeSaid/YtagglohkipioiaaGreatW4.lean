/- A failure is set, happens, and is over. Conditions: the disk stands as it is named. -/
import Derived.Test.YtagglohkipioiaaGreatW3
import Derived.Test.YtagglohkipioiaaGreatP4
import Derived.Test.YtagglohkipioiaaGreatGD
namespace Go.Proofs.YtagglohkipioiaaGreat
open Go.Gx
set_option maxRecDepth 100000
set_option linter.unusedVariables false

variable {h : Hp} {db : Nat} {S : Nat → Prop} {D : Dk} {K : Value → Hp → Prop}
theorem fuse_spec (H : DkAt h db S D) (hd : D.down = false) (hl : 0 < D.l.length) (c : Nat) (hc : c < 9223372036854775808) (hK : ∀ h', DkAt h' db S { D with fuse := c } → Step S h S h' → K (.int .i64 0) h') :
    CallsH Tryz.prog disk_Disk_Fuse.id #[.pointer (some ⟨db, 0, none⟩), .int .i64 (c : Nat)] h K := by
  apply disk_Disk_Fuse.calls
  unfold disk_Disk_Fuse.W
  refine use_spec H 0 ⟨_, rfl, split_ne (fun e => absurd (Dk.use_ok (i := 0) hd hl) e) fun _ => split_dec (fun e => by omega) fun _ => ?_⟩
  obtain ⟨la, lc, wa, wc, n, h1, h2, h3, h4, h5, h6⟩ := H.at_
  have kd : Keep (fun c => c = db) h (h.put db (0 + 2) [.int .i64 (c : Nat)]) := Keep.put _ _ _ _ rfl
  have B : Blk (h.put db (0 + 2) [.int .i64 (c : Nat)]) db 108 [.slice la D.l.length lc, .slice wa D.ws.length wc, .int .i64 (c : Nat), .int .i64 n, .bool D.down] := h1.put 2 _
  exact ⟨h1.store (by show 2 + 1 ≤ 5; omega), hK _ ⟨⟨la, lc, wa, wc, n, B, h2.keep kd fun c hc e => (h4 c hc).1 e, h3.keep kd fun c hc e => h5 c hc e, h4, h5, h6⟩, H.idx, H.len, H.lsz, H.wlen, hc⟩ ⟨kd.mono fun c hc => (h6 c).2 (.inl hc), fun c hc => .inl hc⟩⟩
theorem start_spec (H : DkAt h db S D) (hd : D.down = true) (hw : D.ws = []) (hK : ∀ h', DkAt h' db S { D with down := false } → Step S h S h' → K (.int .i64 0) h') : CallsH Tryz.prog disk_Disk_Start.id #[.pointer (some ⟨db, 0, none⟩)] h K := by
  apply disk_Disk_Start.calls
  unfold disk_Disk_Start.W
  obtain ⟨la, lc, wa, wc, n, h1, h2, h3, h4, h5, h6⟩ := H.at_
  have kd : Keep (fun c => c = db) h (h.put db (0 + 4) [.bool false]) := Keep.put _ _ _ _ rfl
  have B : Blk (h.put db (0 + 4) [.bool false]) db 108 [.slice la D.l.length lc, .slice wa D.ws.length wc, .int .i64 (D.fuse : Nat), .int .i64 n, .bool false] := h1.put 4 _
  refine ⟨_, h1.cell' 4 rfl, split_not (fun e => by rw [hd] at e; cases e) fun _ => ⟨_, _, _, h1.cell' 1 rfl, split_dec (fun e => by
    have e : (D.ws.length : Int) > 0 := e
    rw [hw] at e; exact absurd e (by decide)) fun _ => ⟨h1.store (by show 4 + 1 ≤ 5; omega), hK _ ⟨⟨la, lc, wa, wc, n, B, h2.keep kd fun c hc e => (h4 c hc).1 e, h3.keep kd fun c hc e => h5 c hc e, h4, h5, h6⟩, H.idx, H.len, H.lsz, H.wlen, H.fuse⟩ ⟨kd.mono fun c hc => (h6 c).2 (.inl hc), fun c hc => .inl hc⟩⟩⟩⟩
theorem picked_spec {k : Nat} {pa : Option Addr} {pc : Nat} {ps : List Bool} {i : Nat} (B : h.cell k 0 = some (.slice pa ps.length pc)) (R : RowAt boolC 1 h pa ps) (hK : ∀ b, K (.bool b) h) : CallsH Tryz.prog disk_Disk_Fail_1.id #[.int .i64 (i : Nat), .pointer (some ⟨k, 0, none⟩)] h K := by
  apply disk_Disk_Fail_1.calls
  unfold disk_Disk_Fail_1.W
  refine ⟨_, _, _, B, split_dec (fun g => ?_) fun _ => hK _⟩
  have g : i < ps.length := by have : (i : Int) < (ps.length : Int) := g; omega
  obtain ⟨b, o, ea, hc⟩ := R.get boolC_len (by decide) (List.getElem?_eq_getElem g)
  exact ⟨_, _, _, B, by omega, by show (i : Int) < (ps.length : Int); omega, b, o, ea, _, by rw [Int.toNat_natCast]; exact hc 0 _ rfl, hK _⟩
set_option maxHeartbeats 1000000 in
theorem fail_spec (H : DkAt h db S D) {pa : Option Addr} {pc : Nat} {ps : List Bool} (R : RowAt boolC 1 h pa ps) (hpa : ps = [] ∨ ∀ c, blkOf pa c → ¬ S c)
    (hK : ∀ h' S' W, W.Sublist D.ws → DkAt h' db S' ⟨settleL D.l W, [], 0, true⟩ → Step S h S' h' → K (.tuple #[]) h') : CallsH Tryz.prog disk_Disk_Fail.id #[.pointer (some ⟨db, 0, none⟩), .slice pa ps.length pc] h K := by
  apply disk_Disk_Fail.calls
  unfold disk_Disk_Fail.W
  intro k1 hk1
  have s1 := Sub.upd hk1 (.cells #[.slice pa ps.length pc] 31 (0, 0))
  have Bk : Blk (h.upd k1 (.cells #[.slice pa ps.length pc] 31 (0, 0))) k1 31 [.slice pa ps.length pc] := Blk.new _ _ _ _
  have R1 := R.sub s1
  obtain ⟨la, lc, wa, wc, n, h1, h2, h3, h4, h5, h6⟩ := H.at_
  have nla : ∀ c, blkOf la c → c ≠ k1 := fun c hc e => Own.in_heap h2 hc (e ▸ hk1)
  have h1' := h1.sub s1
  have h2' := h2.sub s1
  have h3' := h3.sub s1
  generalize h.upd k1 (.cells #[.slice pa ps.length pc] 31 (0, 0)) = y at s1 Bk R1 h1' h2' h3'
  have hw := H.wlen
  refine disk_Disk_settle_1f52.calls db 0 k1 0 ?_
  unfold disk_Disk_settle_1f52.W
  refine ⟨_, _, _, h1'.cell' 1 rfl, fun k x m => ∃ (j : Nat) (W : List (Nat × ByteArray)), k = (j : Int) ∧ j ≤ D.ws.length ∧ m = D.ws.length - j ∧ W.Sublist (D.ws.take j) ∧ Keep (blkOf la) y x ∧ OwnR strC 1 x 9 la lc (settleL D.l W), ⟨_, 0, [], rfl, Nat.zero_le _, rfl, List.nil_sublist _, Keep.refl _ _, h2'⟩, ?_⟩
  rintro k x m ⟨j, W, rfl, hj, rfl, hW, kx, ox⟩
  have Bx := h1'.keep kx fun hc => (h4 _ hc).1 rfl
  have wx := h3'.keep kx fun c hc hc' => (h4 c hc').2 hc
  have Bkx := Bk.keep kx fun hc => nla _ hc rfl
  have Rx : RowAt boolC 1 x pa ps := by
    rcases hpa with e | hpa
    · rw [e]; exact RowAt.nil _ _
    · exact R1.keep kx fun c hc hc2 => hpa c hc ((h6 c).2 (.inr (.inl hc2)))
  have hsl := settleL_len W D.l
  have hmem : ∀ w ∈ W, w ∈ D.ws := fun w hw => List.mem_of_mem_take (hW.subset hw)
  refine split_dec (fun g => ?_) fun g => ?_
  · have g : j < D.ws.length := by have : (j : Int) < (D.ws.length : Int) := g; omega
    have hw2 : D.ws[j]? = some D.ws[j] := List.getElem?_eq_getElem g
    have hwi := (H.idx D.ws[j] (List.getElem_mem g)).1
    generalize D.ws[j] = w at hw2 hwi
    obtain ⟨b2, o2, ea2, hc2⟩ := wx.row.get wrC_len (by decide) hw2
    have htk : D.ws.take (j + 1) = D.ws.take j ++ [w] := by rw [List.take_add_one, hw2]; rfl
    have next : IntKind.i64.wrap ((j : Int) + 1) = ((j + 1 : Nat) : Int) := by rw [wid (by omega) (by omega)]; omega
    have e : 0 + w.1 * 1 + 0 = 0 + (w.1 : Int).toNat * 1 := by rw [Int.toNat_natCast]; omega
    refine ⟨by omega, by show (j : Int) < (D.ws.length : Int); omega, b2, o2, ea2, _, hc2 0 _ rfl, _, hc2 1 _ rfl, picked_spec (Bkx.cell' 0 rfl) Rx fun b => ⟨_, rfl, split_cond (fun _ => ?_) fun _ => ?_⟩⟩
    · obtain ⟨b, eb, so, op⟩ := ox.put strC_len (i := w.1) (j := 0) (x := (settleL D.l W)[w.1]'(by omega)) (y := w.2) (vs := [.string w.2]) (List.getElem?_eq_getElem (by omega)) (by decide) (Nat.le_refl 1) rfl
      refine ⟨_, _, _, Bx.cell' 0 rfl, by omega, by show (w.1 : Int) < (D.l.length : Int); omega, b, 0, eb, by rw [← e]; exact so, ?_⟩
      rw [← e]
      refine ⟨D.ws.length - (j + 1), by omega, j + 1, W ++ [w], next, by omega, rfl, ?_, kx.trans (Keep.put _ _ _ _ ⟨0, none, eb⟩), ?_⟩
      · rw [htk]; exact hW.append (List.Sublist.refl _)
      · rw [settle_append]; exact op
    · refine ⟨D.ws.length - (j + 1), by omega, j + 1, W, next, by omega, rfl, ?_, kx, ox⟩
      rw [htk]; exact hW.trans (List.sublist_append_left _ _)
  · have hW2 : W.Sublist D.ws := hW.trans (List.take_sublist _ _)
    have B2 : Blk (x.put db (0 + 1) [.slice none 0 0]) db 108 [.slice la D.l.length lc, .slice none 0 0, .int .i64 (D.fuse : Nat), .int .i64 n, .bool D.down] := Bx.put 1 _
    have B3 : Blk ((x.put db (0 + 1) [.slice none 0 0]).put db (0 + 4) [.bool true]) db 108 [.slice la D.l.length lc, .slice none 0 0, .int .i64 (D.fuse : Nat), .int .i64 n, .bool true] := B2.put 4 _
    have B4 : Blk (((x.put db (0 + 1) [.slice none 0 0]).put db (0 + 4) [.bool true]).put db (0 + 2) [.int .i64 0]) db 108 [.slice la D.l.length lc, .slice none 0 0, .int .i64 ((0 : Nat) : Int), .int .i64 n, .bool true] := B3.put 2 _
    have kp : ∀ (z : Hp) (o : Nat) (vs : List Value), Keep (fun c => c = db) z (z.put db o vs) := fun z o vs => Keep.put _ z o vs rfl
    have kd := ((kp x (0 + 1) [.slice none 0 0]).trans (kp _ (0 + 4) [.bool true])).trans (kp _ (0 + 2) [.int .i64 0])
    refine ⟨Bx.store (by show 1 + 1 ≤ 5; omega), rfl, B2.store (by show 4 + 1 ≤ 5; omega), B3.store (by show 2 + 1 ≤ 5; omega), hK _ (fun c => c = db ∨ blkOf la c) W hW2 ⟨⟨la, lc, none, 0, n, ?_, ox.keep kd fun c hc e => (h4 c hc).1 e, OwnR.nil _ _, fun c hc => ⟨(h4 c hc).1, fun ⟨o, s, e⟩ => by cases e⟩, (fun c ⟨o, s, e⟩ => by cases e), fun c => ⟨fun hc => hc.imp id .inl, fun hc => hc.imp id fun hc => hc.elim id fun ⟨o, s, e⟩ => by cases e⟩⟩, (fun w hw => by cases hw), ?_, settleL_sz _ _ H.lsz (fun w hw => (H.idx w (hmem w hw)).2), Nat.zero_le _, by show (0 : Nat) < _; decide⟩ ⟨?_, fun c hc => .inl ((h6 c).2 (hc.imp id .inl))⟩⟩
    · show Blk _ db 108 [.slice la (settleL D.l W).length lc, .slice none 0 0, .int .i64 ((0 : Nat) : Int), .int .i64 n, .bool true]
      rw [hsl]; exact B4
    · show (settleL D.l W).length ≤ 2048
      rw [hsl]; exact H.len
    · exact ((s1.keep S).trans (kx.mono fun c hc => (h6 c).2 (.inr (.inl hc)))).trans (kd.mono fun c hc => (h6 c).2 (.inl hc))
end Go.Proofs.YtagglohkipioiaaGreat
