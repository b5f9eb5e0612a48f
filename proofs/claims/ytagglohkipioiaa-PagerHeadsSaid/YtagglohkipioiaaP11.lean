/- PagerHeads over any memory: the law returns true. Condition: none beyond the reading of its argument. -/
import Derived.Test.YtagglohkipioiaaP10
namespace Go.Proofs.Ytagglohkipioiaa
open Go.Gx
set_option maxRecDepth 100000
set_option linter.unusedVariables false

theorem slice_take {h : Hp} {a : Option Addr} {n m : Nat} {xs : List Value} (H : SliceAt h a n xs) (hm : m ≤ n) : SliceAt h a m (xs.take m) := by
  obtain ⟨h1, h2⟩ := H
  refine ⟨by rw [List.length_take]; omega, ?_⟩
  rcases h2 with h2 | ⟨b, o, e, hc⟩
  · exact .inl (by omega)
  · refine .inr ⟨b, o, e, fun i hi => ?_⟩
    rw [List.length_take] at hi
    rw [hc i (by omega), List.getElem_take]
def filled1024 (l : List UInt8) : ByteArray := ⟨(l.take 1024 ++ List.replicate (1024 - l.length) 0).toArray⟩
theorem filled1024_size (l : List UInt8) : (filled1024 l).size = 1024 := by
  rw [← size_len]
  show (l.take 1024 ++ List.replicate (1024 - l.length) 0).length = 1024
  rw [List.length_append, List.length_take, List.length_replicate]; omega
theorem filled1024_put (l : List UInt8) : setL (repV 1024 [.int .u8 0]) 0 (rowC byteC (l.take 1024)) = bytesV (filled1024 l) := by
  have e : repV 1024 [Value.int .u8 0] = rowC byteC (List.replicate 1024 0) := by
    rw [← zeroB_bytes]; exact (rowC_bytes (zeroB 1024)).symm
  have hl : (rowC byteC (l.take 1024)).length = min 1024 l.length := by rw [rowC_length byteC_len, List.length_take, Nat.mul_one]
  have := @setL_append [] (rowC byteC (List.replicate 1024 0)) (rowC byteC (l.take 1024)) 0 rfl (by rw [hl, rowC_length byteC_len, List.length_replicate]; omega)
  rw [List.nil_append, List.nil_append, hl] at this
  rw [e, this]
  have h2 := rowC_drop byteC_len (List.replicate 1024 (0 : UInt8)) (min 1024 l.length)
  rw [Nat.mul_one] at h2
  rw [h2, ← rowC_append, List.drop_replicate, ← rowC_bytes]
  show _ = rowC byteC (l.take 1024 ++ List.replicate (1024 - l.length) 0)
  rw [show 1024 - min 1024 l.length = 1024 - l.length by omega]
set_option maxHeartbeats 1000000 in
theorem heads_core {h : Hp} {ha : Option Addr} {hc : Nat} (pages : Int) (l : List UInt8) (H : RowAt byteC 1 h ha l) : CallsH Try.prog 4 #[.int .i64 pages, .slice ha l.length hc] h fun v h' => v = .bool true ∧ Sub h h' := by
  apply law14_PagerHeads.calls
  unfold law14_PagerHeads.W
  have live : ∀ x, Sub h x → CallsH Try.prog 13 #[] x fun v h' => ∃ b : Bool, v = .bool b ∧ (Value.bool b = .bool true ∧ Sub h h') := fun x s => lives_spec fun h' s' => ⟨_, rfl, rfl, s.trans s'⟩
  by_cases hp : pages < 2 ∨ pages > 10
  · refine opened_bad pages hp ⟨_, _, _, rfl, split_cond (fun _ => split_dec (fun _ => live h (Sub.refl h)) fun e1 => split_dec (fun _ => live h (Sub.refl h)) fun e2 => by omega) fun e => by cases e⟩
  obtain ⟨n, rfl⟩ : ∃ n : Nat, pages = (n : Int) := ⟨pages.toNat, by omega⟩
  have dl : 8 * n + 1 ≤ (Dk.new (8 * n + 1)).l.length := by show _ ≤ (List.replicate _ _).length; rw [List.length_replicate]; exact Nat.le_refl _
  have dw : (Dk.new (8 * n + 1)).ws = [] := rfl
  have df : (Dk.new (8 * n + 1)).fuse = 0 := rfl
  have dd : (Dk.new (8 * n + 1)).down = false := rfl
  refine opened_spec n (by omega) (by omega) fun h2 pb jb db S s2 E f2 => ?_
  generalize Dk.new (8 * n + 1) = D at dl dw df dd E
  refine ⟨_, _, _, rfl, split_cond (fun e => by cases e) fun _ => split_dec (fun _ => split_dec (fun e => by omega) fun _ => split_dec (fun e => by omega) fun _ => split_cond (fun _ => live h2 s2) fun e => by cases e) fun g => ?_⟩
  have g : l.length ≤ 3000 := by have : ¬ (l.length : Int) > 3000 := g; omega
  refine ⟨by decide, by decide, by decide, by decide, fun k24 hk24 => ?_⟩
  have n24 : h k24 = none := s2.none hk24
  have B0 : Blk (h2.upd k24 (.cells (repV 1024 [.int .u8 0]).toArray 5 (0, 0))) k24 5 (repV 1024 [.int .u8 0]) := Blk.new _ _ _ _
  have s24 : Sub h2 (h2.upd k24 (.cells (repV 1024 [.int .u8 0]).toArray 5 (0, 0))) := Sub.upd hk24 _
  have exs : (rowC byteC l).take (cpyM l.length 1024) = rowC byteC (l.take 1024) := by
    have e : cpyM l.length 1024 = min l.length 1024 := rfl
    have := rowC_take byteC_len l (min l.length 1024)
    rw [Nat.mul_one] at this
    rw [e, this]
    congr 1
    by_cases h' : l.length ≤ 1024
    · rw [Nat.min_eq_left h', List.take_of_length_le (Nat.le_refl _), List.take_of_length_le h']
    · rw [Nat.min_eq_right (by omega)]
  have hH := slice_take (H.sub (s2.trans s24)) (m := cpyM l.length 1024) (by show min l.length 1024 ≤ _; omega)
  rw [exs] at hH
  have hl2 : (rowC byteC (l.take 1024)).length ≤ 1024 := by rw [rowC_length byteC_len, List.length_take]; omega
  refine ⟨_, hH, fun x => Sub h2 x ∧ Blk x k24 5 (bytesV (filled1024 l)), ?_, .inr ⟨k24, 0, rfl, rowC_plain byteC_plain _, B0.store (by rw [rep1024_len]; omega), ?_, ?_⟩⟩
  rotate_left
  · exact (Keep.put (fun c => c = k24) _ _ _ rfl).sub s24 fun c e => by rw [e]; exact hk24
  · have := B0.put 0 (rowC byteC (l.take 1024))
    rw [filled1024_put] at this
    exact this
  have hbsz := filled1024_size l
  generalize filled1024 l = b at hbsz
  rintro x ⟨sx, Bx⟩
  have hbl : (bytesV b).length = 1024 := by rw [← rowC_bytes, rowC_length byteC_len, size_len, hbsz]
  refine ⟨b, Bx.slice hbl, fun k29 hk29 => ?_⟩
  have s29 : Sub x (x.upd k29 (.cells #[.int .i64 0, .string b] 41 (0, 0))) := Sub.upd hk29 _
  obtain ⟨S0, mb, pa, pc, Q, e⟩ := E.ex
  have J := e.j
  have J29 := J.sub (sx.trans s29)
  have R : RowAt wrC 2 (x.upd k29 (.cells #[.int .i64 0, .string b] 41 (0, 0))) (some ⟨k29, 0, none⟩) [(0, b)] := RowAt.blk (Blk.new x k29 41 (wrC (0, b))) wrC_len
  refine jcommit_spec (cs := [(0, b)]) (lc := 1) J29 dd dw R (by show 1 ≤ 128; decide) (by simp) (fun c hc hS => by obtain ⟨o, s, e'⟩ := hc; cases e'; exact J.in_heap hS ((sx.none hk29))) (fun c hc => by rw [List.mem_singleton.1 hc]; exact ⟨by show 0 < n; omega, hbsz⟩) (by simp) fun h31 S' ds hperm _ J31 st31 => ?_
  have hds : ds = [(0, b)] := List.perm_singleton.1 hperm
  subst hds
  obtain ⟨c1, c2, c3, c4, c5, c6, c7⟩ := commit_own (n := n) (ds := [(0, b)]) dd df dw (fun c hc => by rw [List.mem_singleton.1 hc]; exact ⟨hbsz, by show 0 < n; omega⟩) dl
  have own0 := c7 0
  clear c3 c4 c5 c6 c7
  generalize commitD n D [(0, b)] = rr at J31 c1 c2 own0 ⊢
  have own0 : rr.1.own n 0 = b := own0
  obtain ⟨D', er⟩ := rr
  refine ⟨er, rfl, split_ne (fun e => absurd c1 e) fun _ => ?_⟩
  have B31 : Blk h31 k24 5 (bytesV b) := (Bx.sub s29).keep st31.1 fun hS => J.in_heap hS hk24
  have s31 : Sub h h31 := st31.1.sub (s2.trans (sx.trans s29)) fun c hc => by
    have hS : S c := (e.s c).2 (.inr (.inr (.inl hc)))
    exact f2 c hS
  have st0 : ∀ c, S' c → h c = none := fun c hc => by
    rcases st31.2 c hc with h' | h'
    · exact f2 c ((e.s c).2 (.inr (.inr (.inl h'))))
    · exact s2.none (sx.none (s29.none h'))
  refine popen_spec J31 c2 (by omega) (fun hz no h34 s34 => ?_) fun Hh hHh h34 qb S34 nq st34 E34 => ?_
  · rw [own0] at hz no
    refine ⟨_, _, rfl, b, (B31.sub s34).slice hbl, right_spec hbsz (by omega) (by omega) (fun h' => ?_) fun _ _ h39 s39 => ⟨_, rfl, split_not (fun _ => split_cond (fun _ => split_eq (fun _ => live h39 (s31.trans (s34.trans s39))) fun e => absurd rfl e) fun e => by cases e) fun e => by cases e⟩⟩
    rcases h' with h' | h'
    · exact absurd h' hz
    · exact absurd ((okHead_iff (by omega) (by omega)).2 h') no
  · rw [own0] at hHh
    have s34 : Sub h h34 := st34.1.sub s31 st0
    have kb : ∀ {y : Hp}, Sub h34 y → Blk y k24 5 (bytesV b) := fun sy => by
      refine Blk.sub (B31.keep st34.1 fun hS => ?_) sy
      rcases st31.2 _ hS with h' | h'
      · exact J.in_heap h' hk24
      · have := Bx.sub s29
        unfold Blk at this
        rw [this] at h'; cases h'
    refine ⟨_, _, rfl, b, (kb (Sub.refl _)).slice hbl, right_spec hbsz (by omega) (by omega) (fun hr h39 s39 => ⟨_, rfl, split_not (fun e => by cases e) fun _ => split_cond (fun e => by cases e) fun _ => split_ne (fun e => absurd rfl e) fun _ => ?_⟩) fun hz no => ?_⟩
    rotate_left
    · rcases hHh with ⟨e, _⟩ | ⟨_, ok, _⟩
      · exact absurd e hz
      · exact absurd ((okHead_iff (by omega) (by omega)).1 ok) no
    have E39 := E34.sub s39
    have s39h := s34.trans s39
    refine state_spec E39 fun h45 ua uc da dc s45 U V _ _ => ⟨_, _, _, _, _, _, _, _, _, _, _, rfl, ?_⟩
    have s45h := s39h.trans s45
    have ok := E39.ok.now
    have fin : ∀ z, Sub h z → ∀ (t : ByteArray), t = tabB (encN Hh.s Hh.r Hh.u n) → cond (beqS t b) (CallsH Try.prog 13 #[] z fun v h' => ∃ b : Bool, v = .bool b ∧ (Value.bool b = .bool true ∧ Sub h h'))
        (cond (Go.Gx.hb (((Hh.s : Nat) : Int) == 0)) (CallsH Try.prog 13 #[] z fun v h' => ∃ b : Bool, v = .bool b ∧ (Value.bool b = .bool true ∧ Sub h h')) (Value.bool false = .bool true ∧ Sub h z)) := fun z sz t ht => by
      refine split_beqS (fun _ => live z sz) fun ne => split_eq (fun _ => live z sz) fun e0 => ?_
      rcases hHh with ⟨_, rfl⟩ | ⟨_, okh, rfl⟩
      · exact absurd rfl e0
      · have := ((okHead_iff (by omega) (by omega)).1 okh).bytes
        exact absurd (ht.trans this) ne
    have rb : ∀ K' : Value → Hp → Prop, (∀ y, Sub h45 y → K' (.string (tabB (encN Hh.s Hh.r Hh.u n))) y) → CallsH Try.prog 18 #[.agg (stC ua n uc da n dc Hh.r Hh.s).toArray] h45 K' := fun K' hK' =>
      rbytes_spec U.row (by omega) (by have := ok.ser; have : Hh.s ≤ 9223372036854775807 := this; omega) (fun k hk => by have := (ok.roots k hk).1; have : Hh.r k < 128 := this; omega) hK'
    refine ⟨rb _ fun y sy => ⟨_, rfl, b, (kb (s39.trans (s45.trans sy))).slice hbl, fin y (s45h.trans sy) _ rfl⟩, b, (kb (s39.trans s45)).slice hbl, Sub.refl _, rb _ fun y sy => ⟨_, rfl, fin y (s45h.trans sy) _ rfl⟩⟩
end Go.Proofs.Ytagglohkipioiaa
