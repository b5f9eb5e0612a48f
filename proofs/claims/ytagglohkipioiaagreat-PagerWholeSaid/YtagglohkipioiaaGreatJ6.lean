/- What a commit does to a disk, failures and all. Conditions: right changes, one of a page; nothing waits ahead of it. -/
import Derived.Test.YtagglohkipioiaaGreatJ3
import Derived.Test.YtagglohkipioiaaGreatSF0
import Derived.Test.YtagglohkipioiaaGreatGB
namespace Go.Proofs.YtagglohkipioiaaGreat
open Go.Gx
set_option maxRecDepth 100000
set_option linter.unusedVariables false

theorem byteV (m : Nat) (h : m < 256) : byteC (UInt8.ofNat m) = [.int .u8 (m : Nat)] := by
  unfold byteC
  have : (UInt8.ofNat m).toNat = m := by simp; omega
  rw [this]
def orBit (b : UInt8) (k : Nat) : UInt8 := UInt8.ofNat (IntKind.u8.wrap (ior IntKind.u8 ((b.toNat : Nat) : Int) (IntKind.u8.wrap (ishl IntKind.u8 1 ((k : Nat) : Int))))).toNat
theorem orBit_C (b : UInt8) (k : Nat) : byteC (orBit b k) = [.int .u8 (IntKind.u8.wrap (ior IntKind.u8 ((b.toNat : Nat) : Int) (IntKind.u8.wrap (ishl IntKind.u8 1 ((k : Nat) : Int)))))] := by
  unfold orBit
  generalize ior IntKind.u8 ((b.toNat : Nat) : Int) (IntKind.u8.wrap (ishl IntKind.u8 1 ((k : Nat) : Int))) = x
  have h := wrap8 x
  rw [byteV _ (by omega)]
  congr 2; omega
def setBit (L : List UInt8) (p : Nat) : List UInt8 := L.set (p / 8) (orBit (L.getD (p / 8) 0) (p % 8))
theorem setBit_len (L : List UInt8) (p : Nat) : (setBit L p).length = L.length := List.length_set ..
def markL (ds : List Ch) : List UInt8 := ds.foldl (fun L c => setBit L c.1) (List.replicate 256 0)
theorem markL_len : ∀ (ds : List Ch), (markL ds).length = 256 := by
  intro ds
  unfold markL
  have : ∀ (ds : List Ch) (L : List UInt8), (ds.foldl (fun L c => setBit L c.1) L).length = L.length := by
    intro ds
    induction ds with
    | nil => intro L; rfl
    | cons d ds ih => intro L; rw [List.foldl_cons, ih, setBit_len]
  rw [this, List.length_replicate]
theorem markL_snoc (l : List Ch) (c : Ch) : markL (l ++ [c]) = setBit (markL l) c.1 := by unfold markL; rw [List.foldl_append]; rfl
def markB (ds : List Ch) : ByteArray := ⟨(markL ds).toArray⟩
theorem markB_size (ds : List Ch) : (markB ds).size = 256 := by rw [← size_len]; exact markL_len ds
def andD (r : Dk × Int) (f : Dk → Dk × Int) : Dk × Int := if r.2 = 0 then f r.1 else r
def commitD (n : Nat) (D : Dk) (ds : List Ch) : Dk × Int :=
  andD (flD (wrs D (logW ds))) fun D1 => andD (flD (wrs D1 [(0, markB ds)])) fun D2 => andD (flD (wrs D2 (ownW n ds))) fun D3 => flD (wrs D3 [(0, zeroB 256)])
theorem flD_ok {r : Dk × Int} (h : (flD r).2 = 0) : (flD r).1.ws = [] ∧ (flD r).1.l.length = r.1.l.length := by
  unfold flD at h ⊢
  by_cases h1 : r.2 ≠ 0
  · rw [if_pos h1] at h; exact absurd h h1
  · rw [if_neg h1] at h ⊢
    by_cases h2 : r.1.down = true
    · rw [if_pos h2] at h; cases h
    · rw [if_neg h2]; exact ⟨rfl, settleL_len _ _⟩
variable {h : Hp} {jb db n : Nat} {S : Nat → Prop} {D : Dk} {K : Value → Hp → Prop}
theorem jcommit_spec (J : JAt h jb db S n D) (hup : D.down = false) (hws : D.ws = []) {la : Option Addr} {lc : Nat} {cs : List Ch} (R : RowAt wrC 2 h la cs) (hl : cs.length ≤ 128) (hne : cs ≠ []) (hla : ∀ c, blkOf la c → ¬ S c)
    (hc : ∀ c ∈ cs, c.1 < n ∧ c.2.size = 1024) (hd : (cs.map (·.1)).Nodup)
    (hK : ∀ h' S' ds, ds.Perm cs → ds.Pairwise (fun a b => a.1 ≤ b.1) → JAt h' jb db S' n (commitD n D ds).1 → Step S h S' h' → K (.int .i64 (commitD n D ds).2) h') :
    CallsH Tryz.prog journal_Journal_Commit.id #[.pointer (some ⟨jb, 0, none⟩), .slice la cs.length lc] h K := by
  have hn2 := J.n2
  have hln := J.len
  apply journal_Journal_Commit.calls
  unfold journal_Journal_Commit.W
  refine check_ok J R (by omega) hc hd fun h1 s1 => ⟨_, rfl, split_ne (fun e => absurd rfl e) fun _ => ?_⟩
  have J1 := J.sub s1
  obtain ⟨S0, k1, k2, k3⟩ := J1.step
  refine ⟨_, k2.cell' 0 rfl, up_spec k1 ⟨_, rfl, ?_⟩⟩
  rw [hup]
  refine split_eq (fun e => by
    have e : (cs.length : Int) = 0 := e
    exact absurd (List.eq_nil_of_length_eq_zero (by omega)) hne) fun _ => ?_
  refine slices_Values_journal_Change_journal_Change_.calls la cs.length lc fun kv hkv => ⟨_, rfl, ?_⟩
  have sv := Sub.upd hkv (.cells #[.slice la cs.length lc] 104 (0, 0))
  refine sortedfunc_spec la lc cs (by omega) kv ((Blk.new h1 kv 104 [.slice la cs.length lc]).cell' 0 rfl) ((R.sub s1).sub sv) (fun c hm => by have := (hc c hm).1; omega) fun h2 a13 c15 ds hp hs N2 => ⟨_, _, _, rfl, ?_⟩
  have hdl : ds.length = cs.length := hp.length_eq
  have hdc : ∀ c ∈ ds, c.1 < n ∧ c.2.size = 1024 := fun c hm => hc c (hp.mem_iff.1 hm)
  have J2 := (J1.sub sv).sub N2.sub
  have s2 : Sub h h2 := (s1.trans sv).trans N2.sub
  have ha13 : ∀ c, blkOf a13 c → h c = none := fun c hcb => (s1.trans sv).none (N2.new c hcb)
  refine ⟨by decide, by decide, by decide, by decide, fun k16 hk16 => ?_⟩
  have n16 : h k16 = none := s2.none hk16
  have O16 : OwnR byteC 1 (h2.upd k16 (.cells (repV 256 [.int .u8 0]).toArray 5 (0, 0))) 5 (some ⟨k16, 0, none⟩) 256 (markL []) := by
    have e : rowC byteC (List.replicate 256 0) = repV 256 [.int .u8 0] := by
      have := rowC_bytes (zeroB 256)
      rw [zeroB_bytes] at this; exact this
    refine ⟨by show (rowC byteC (List.replicate 256 0)).length = 256 * 1; rw [e]; rfl, Nat.le_refl _, .inr ⟨k16, [], rfl, ?_, rfl⟩⟩
    show Blk _ k16 5 (rowC byteC (List.replicate 256 0) ++ [])
    rw [e, List.append_nil]; exact Blk.new _ _ _ _
  refine ⟨fun i x m => ∃ j : Nat, i = (j : Int) ∧ j ≤ ds.length ∧ m = ds.length - j ∧ Sub h2 x ∧ OwnR byteC 1 x 5 (some ⟨k16, 0, none⟩) 256 (markL (ds.take j)), ⟨_, 0, rfl, Nat.zero_le _, rfl, Sub.upd hk16 _, O16⟩, ?_⟩
  rintro i x m ⟨j, rfl, hj, rfl, sx, ox⟩
  refine split_dec (fun g => ?_) fun g => ?_
  · have g : j < ds.length := by have : (j : Int) < (ds.length : Int) := g; omega
    have hq : ds[j]? = some ds[j] := List.getElem?_eq_getElem g
    have hcm := (hdc ds[j] (List.getElem_mem g)).1
    generalize ds[j] = c at hq hcm
    obtain ⟨b, o, ea, hcell⟩ := (N2.own.sub sx).row.get wrC_len (by decide) hq
    have hml := markL_len (ds.take j)
    have e1 : (c.1 : Int).tdiv 8 = ((c.1 / 8 : Nat) : Int) := by rw [Int.tdiv_eq_ediv_of_nonneg (by omega)]; omega
    have e2 : (c.1 : Int).tmod 8 = ((c.1 % 8 : Nat) : Int) := by rw [Int.tmod_eq_emod_of_nonneg (by omega)]; omega
    have e3 : IntKind.i64.wrap ((c.1 / 8 : Nat) : Int) = ((c.1 / 8 : Nat) : Int) := wid (by omega) (by omega)
    have hx : (markL (ds.take j))[c.1 / 8]? = some ((markL (ds.take j)).getD (c.1 / 8) 0) := by
      rw [List.getD_eq_getElem?_getD, List.getElem?_eq_getElem (by omega)]; rfl
    obtain ⟨b2, eb2, hcell2⟩ := RowAt.own_get byteC_len (by decide) ox hx
    obtain ⟨b3, eb3, so, op⟩ := ox.put byteC_len (j := 0) (y := orBit ((markL (ds.take j)).getD (c.1 / 8) 0) (c.1 % 8)) (vs := [.int .u8 (IntKind.u8.wrap (ior IntKind.u8 ((((markL (ds.take j)).getD (c.1 / 8) 0).toNat : Nat) : Int) (IntKind.u8.wrap (ishl IntKind.u8 1 ((c.1 % 8 : Nat) : Int)))))]) hx (by decide) (Nat.le_refl 1) (orBit_C _ _).symm
    cases eb2; cases eb3
    have eidx : (((c.1 / 8 : Nat) : Int)).toNat = c.1 / 8 := Int.toNat_natCast _
    refine ⟨by omega, by show (j : Int) < (ds.length : Int); omega, b, o, ea, _, hcell 0 _ rfl, _, hcell 1 _ rfl, ?_⟩
    rw [e1, e2, e3, eidx]
    refine ⟨by decide, by omega, by omega, k16, 0, rfl, _, hcell2 0 _ rfl, by decide, by omega, by omega, by omega, k16, 0, rfl, so, ds.length - (j + 1), by omega, j + 1, by rw [wid (by omega) (by omega)]; omega, by omega, rfl, ?_, ?_⟩
    · exact (Keep.put (fun c => c = k16) x _ _ rfl).sub sx fun c e => by rw [e]; exact hk16
    · rw [List.take_add_one, hq]
      show OwnR _ _ _ _ _ _ (markL (_ ++ [c]))
      rw [markL_snoc]; exact op
  have hje : j = ds.length := by
    have : ¬ (j : Int) < (ds.length : Int) := g
    omega
  subst hje
  rw [List.take_length] at ox
  have J3 := J2.sub sx
  have notS : ∀ {S1 : Nat → Prop} {y : Hp} (st : Step S x S1 y) (c : Nat), h c = none → x c ≠ none → ¬ S1 c := by
    intro S1 y st c hcn hx hS1
    rcases st.2 c hS1 with h' | h'
    · exact J.in_heap h' hcn
    · exact hx h'
  have hx13 : ∀ c, blkOf a13 c → x c ≠ none := fun c hcb => Own.in_heap (N2.own.sub sx) hcb
  have hx16 : x k16 ≠ none := Own.in_heap ox ⟨0, none, rfl⟩
  have base : Step S h S x := Step.sub (s2.trans sx)
  have hds : ∀ {S1 : Nat → Prop} {y : Hp}, Step S x S1 y → RowAt wrC 2 y a13 ds ∧ ∀ c, blkOf a13 c → ¬ S1 c := fun st =>
    ⟨(N2.own.sub sx).row.keep st.1 fun c hcb hS => J.in_heap hS (ha13 c hcb), fun c hcb => notS st c (ha13 c hcb) (hx13 c hcb)⟩
  have hmk : ∀ {S1 : Nat → Prop} {y : Hp}, Step S x S1 y → SliceAt y (some ⟨k16, 0, none⟩) 256 (bytesV (markB ds)) := fun st => by
    have := (ox.keep st.1 fun c hcb hS => by obtain ⟨o, s, e⟩ := hcb; cases e; exact J.in_heap hS n16).row
    unfold RowAt at this
    rw [markL_len] at this
    rw [← rowC_bytes]; exact this
  have hcd := hK
  unfold commitD andD at hcd
  refine layAll_log J3 (hds (Step.refl _ _)).1 (hds (Step.refl _ _)).2 hdc (by omega) (by rw [hws]; exact Nat.zero_le _) fun h33 S3 J33 st3 => ⟨_, rfl, ?_⟩
  refine flushed_spec J33 _ fun h36 S4 J36 st4 => ⟨_, rfl, ?_⟩
  have e4 : flD ((wrs D (logW ds)).1, (wrs D (logW ds)).2) = flD (wrs D (logW ds)) := rfl
  rw [e4] at J36 ⊢
  have st34 := st3.trans st4
  refine split_ne (fun e => ?_) fun e => ?_
  · have := hcd h36 S4 ds hp hs
    rw [if_neg e] at this
    exact this J36 (base.trans st34)
  have ok1 := flD_ok e
  have hcd1 := fun (h' : Hp) (S' : Nat → Prop) => hcd h' S' ds hp hs
  simp only [if_pos e] at hcd1
  generalize flD (wrs D (logW ds)) = r1 at J36 hcd1 ok1 e
  have hl1 : r1.1.l.length = D.l.length := ok1.2.trans (by rw [wrs_l])
  obtain ⟨S5, q1, q2, q3⟩ := J36.step
  refine ⟨_, q2.cell' 0 rfl, markB ds, hmk st34, Sub.refl _, ?_⟩
  refine jwrite_spec (i := 0) J36 (by omega) (markB ds) (markB_size ds) (by rw [ok1.1]; decide) fun h41 S6 J41 st6 => ⟨_, rfl, ?_⟩
  refine flushed_spec J41 _ fun h44 S7 J44 st7 => ⟨_, rfl, ?_⟩
  have e5 : flD ((wrs r1.1 [(0, markB ds)]).1, (wrs r1.1 [(0, markB ds)]).2) = flD (wrs r1.1 [(0, markB ds)]) := rfl
  rw [e5] at J44 ⊢
  have st37 := st34.trans (st6.trans st7)
  refine split_ne (fun e => ?_) fun e => ?_
  · have := hcd1 h44 S7
    rw [if_neg e] at this
    exact this J44 (base.trans st37)
  have ok2 := flD_ok e
  simp only [if_pos e] at hcd1
  generalize flD (wrs r1.1 [(0, markB ds)]) = r2 at J44 hcd1 ok2 e
  have hl2 : r2.1.l.length = D.l.length := ok2.2.trans (by rw [wrs_l, hl1])
  refine layAll_own J44 (hds st37).1 (hds st37).2 hdc (by omega) (by rw [ok2.1]; exact Nat.zero_le _) fun h47 S8 J47 st8 => ⟨_, rfl, ?_⟩
  refine flushed_spec J47 _ fun h50 S9 J50 st9 => ⟨_, rfl, ?_⟩
  have e6 : flD ((wrs r2.1 (ownW n ds)).1, (wrs r2.1 (ownW n ds)).2) = flD (wrs r2.1 (ownW n ds)) := rfl
  rw [e6] at J50 ⊢
  have st39 := st37.trans (st8.trans st9)
  refine split_ne (fun e => ?_) fun e => ?_
  · have := hcd1 h50 S9
    rw [if_neg e] at this
    exact this J50 (base.trans st39)
  have ok3 := flD_ok e
  simp only [if_pos e] at hcd1
  generalize flD (wrs r2.1 (ownW n ds)) = r3 at J50 hcd1 ok3 e
  have hl3 : r3.1.l.length = D.l.length := ok3.2.trans (by rw [wrs_l, hl2])
  obtain ⟨SA, q4, q5, q6⟩ := J50.step
  refine ⟨_, q5.cell' 0 rfl, by decide, by decide, by decide, by decide, fun k53 hk53 => ?_⟩
  have s53 := Sub.upd hk53 (.cells (repV 256 [.int .u8 0]).toArray 5 (0, 0))
  refine ⟨s53, zeroB 256, zero_slice (Hp.upd_same _ _ _), s53, ?_⟩
  refine jwrite_spec (i := 0) (J50.sub s53) (by omega) (zeroB 256) (zeroB_size 256) (by rw [ok3.1]; decide) fun h56 SB J56 stB => ⟨_, rfl, ?_⟩
  refine flushed_spec J56 _ fun h59 SC J59 stC => ⟨_, rfl, ?_⟩
  have e7 : flD ((wrs r3.1 [(0, zeroB 256)]).1, (wrs r3.1 [(0, zeroB 256)]).2) = flD (wrs r3.1 [(0, zeroB 256)]) := rfl
  rw [e7] at J59 ⊢
  exact hcd1 h59 SC J59 (base.trans (st39.trans ((Step.sub s53).trans (stB.trans stC))))
end Go.Proofs.YtagglohkipioiaaGreat
