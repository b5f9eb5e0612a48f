/- Free pages, writing, pointing, savepoints, going back, aborting. Conditions: the pager stands as it is named. Which pages a commit would change. Conditions: the pager stands as it is named. -/
import Derived.Test.YtagglohkipioiaaGreatP13
namespace Go.Proofs.YtagglohkipioiaaGreat
open Go.Gx
set_option maxRecDepth 100000
set_option linter.unusedVariables false

variable {h : Hp} {pb jb db n : Nat} {S : Nat → Prop} {D : Dk} {P : Pg} {K : Value → Hp → Prop}
def Pg.write (P : Pg) (i : Nat) (s : ByteArray) : Pg := { P with d := dset P.d i s }
def Pg.point (P : Pg) (k i : Nat) : Pg := { P with now := { P.now with r := upR P.now.r k i } }
def Pg.save (P : Pg) : Pg := { P with pts := P.pts ++ [(P.now, P.d)] }
def Pg.back (P : Pg) (k : Nat) (q : Hd × List Ch) : Pg := { P with now := q.1, d := q.2, pts := P.pts.take k }
def Pg.reset (g : Hd) : Pg := ⟨g, g, [], []⟩
def Pg.freeN (P : Pg) (j : Nat) : Nat := ((List.range j).filter fun i => !P.now.u i).length
theorem freeN_step (P : Pg) (j : Nat) : P.freeN (j + 1) = P.freeN j + (if P.now.u j then 0 else 1) := by
  unfold Pg.freeN
  rw [List.range_succ, List.filter_append, List.length_append]
  cases h : P.now.u j
  · rw [List.filter_cons_of_pos (by rw [h]; rfl)]; rfl
  · rw [List.filter_cons_of_neg (by rw [h]; simp)]; rfl
theorem freeN_le (P : Pg) (j : Nat) : P.freeN j ≤ j := by
  unfold Pg.freeN
  exact Nat.le_trans (List.length_filter_le _ _) (by rw [List.length_range]; exact Nat.le_refl _)
theorem free_spec (E : PgAt h pb jb db S n D P) (hK : K (.int .i64 (P.freeN n : Nat)) h) : CallsH Tryz.prog pager_Pager_Free.id #[.pointer (some ⟨pb, 0, none⟩)] h K := by
  have hn := E.n2
  apply pager_Pager_Free.calls
  unfold pager_Pager_Free.W
  refine pages_spec E ⟨_, rfl, fun c i x m => ∃ j : Nat, i = (j : Int) ∧ j ≤ n ∧ m = n - j ∧ x = h ∧ c = (P.freeN j : Nat), ⟨_, 0, rfl, Nat.zero_le _, rfl, rfl, rfl⟩, ?_⟩
  rintro c i x m ⟨j, rfl, hj, rfl, rfl, rfl⟩
  have hle := freeN_le P j
  refine split_dec (fun g => ?_) fun g => ?_
  · have g : j < n := by have : (j : Int) < (n : Int) := g; omega
    have idx : 0 + 134 + 5 + (j : Int).toNat * 1 = 134 + 5 + j := by rw [Int.toNat_natCast]; omega
    obtain ⟨S0, mb, pa, pc, Q, e⟩ := E.ex
    have hs := freeN_step P j
    refine ⟨by omega, by omega, _, by rw [idx]; exact e.blk.cell' _ (pgC_used (by omega)), split_not (fun eu => ⟨n - (j + 1), by omega, j + 1, ?_, by omega, rfl, rfl, ?_⟩) fun eu => ⟨n - (j + 1), by omega, j + 1, ?_, by omega, rfl, rfl, ?_⟩⟩
    · rw [wid (by omega) (by omega)]; omega
    · rw [hs, eu, wid (by omega) (by omega)]
      show ((P.freeN j : Nat) : Int) + 1 = ((P.freeN j + 1 : Nat) : Int)
      omega
    · rw [wid (by omega) (by omega)]; omega
    · rw [hs, eu]; rfl
  · have : j = n := by
      have : ¬ (j : Int) < (n : Int) := g
      omega
    subst this
    exact hK
theorem pwrite_spec (E : PgAt h pb jb db S n D P) (i : Int) (s : ByteArray) (hF : P.why n i ≠ 0 → K (.int .i64 (P.why n i)) h) (hL : P.why n i = 0 → s.size ≠ 1024 → K (.int .i64 1) h)
    (hG : ∀ k : Nat, i = (k : Int) → P.why n i = 0 → s.size = 1024 → ∀ h', PgAt h' pb jb db S n D (P.write k s) → Step S h S h' → K (.int .i64 0) h') :
    CallsH Tryz.prog pager_Pager_Write.id #[.pointer (some ⟨pb, 0, none⟩), .int .i64 i, .string s] h K := by
  apply pager_Pager_Write.calls
  unfold pager_Pager_Write.W
  refine puse_spec E i ⟨_, rfl, split_ne (fun e => hF e) fun e0 => split_ne (fun e => hL e0 fun e' => e (by show (s.size : Int) = 1024; omega)) fun e => ?_⟩
  have hs : s.size = 1024 := by
    have : (s.size : Int) = 1024 := e
    omega
  obtain ⟨j, rfl, h1, h2, h3⟩ := why_ok e0
  obtain ⟨S0, mb, pa, pc, Q, e⟩ := E.ex
  obtain ⟨o, ho, hm⟩ := e.d
  have hmpb : mb ≠ pb := e.d.ne e.blk
  refine ⟨_, by rw [Nat.zero_add]; exact e.blk.cell' _ pgC_map, mb, o, mapD P.d, rfl, ho, hm, fun o' hm' => ?_⟩
  rw [mapD_set] at hm'
  obtain ⟨e', st⟩ := e.put (now' := P.now) (d' := dset P.d j s) (Keep.upd o' (.inl (.inr rfl))) (by
    have := e.blk
    unfold Blk at this ⊢
    rw [Hp.upd_ne _ _ (Ne.symm hmpb)]; exact this) ⟨o', Hp.upd_same _ _ _, hm'⟩
  exact hG j rfl e0 hs _ ⟨⟨S0, mb, pa, pc, Q, e'⟩, E.ok.put E.ok.now (E.ok.d.set h1 h2 hs), E.up⟩ st
theorem HdOk.point {n : Nat} {H : Hd} (O : HdOk n H) {k i : Nat} (hi : i < 128) (hu : i ≠ 0 → H.u i = true) : HdOk n { H with r := upR H.r k i } := by
  refine ⟨O.below, fun t ht => ?_, O.zero, O.ser⟩
  show upR H.r k i t < 128 ∧ (upR H.r k i t ≠ 0 → H.u (upR H.r k i t) = true)
  unfold upR
  by_cases e : t = k
  · rw [if_pos e]; exact ⟨hi, hu⟩
  · rw [if_neg e]; exact O.roots t ht
theorem ppoint_spec (E : PgAt h pb jb db S n D P) (k i : Int) (hF : ∀ v : Int, K (.int .i64 v) h) (hG : ∀ t j : Nat, k = (t : Int) → i = (j : Int) → t < 4 → (j = 0 ∨ P.why n i = 0) → ∀ h', PgAt h' pb jb db S n D (P.point t j) → Step S h S h' → K (.int .i64 0) h') :
    CallsH Tryz.prog pager_Pager_Point.id #[.pointer (some ⟨pb, 0, none⟩), .int .i64 k, .int .i64 i] h K := by
  have hn := E.n2
  apply pager_Pager_Point.calls
  unfold pager_Pager_Point.W
  refine split_dec (fun _ => hF _) fun k0 => split_dec (fun _ => hF _) fun k4 => ⟨fun x => x = h ∧ ∃ j : Nat, i = (j : Int) ∧ (j = 0 ∨ P.why n i = 0), ?_, split_ne (fun e => puse_spec E i ⟨_, rfl, split_ne (fun _ => hF _) fun e0 => ⟨rfl, ?_⟩⟩) fun e => ⟨rfl, 0, e, .inl rfl⟩⟩
  · rintro x ⟨rfl, j, rfl, hj⟩
    obtain ⟨t, rfl⟩ : ∃ t : Nat, k = (t : Int) := ⟨k.toNat, by omega⟩
    have ht : t < 4 := by omega
    have idx : 0 + 134 + 1 + (t : Int).toNat * 1 = 134 + 1 + t := by rw [Int.toNat_natCast]; omega
    rw [idx]
    obtain ⟨S0, mb, pa, pc, Q, e⟩ := E.ex
    have B2 := e.blk.put (134 + 1 + t) [.int .i64 ((j : Nat) : Int)]
    rw [pgC_setR _ _ ht] at B2
    have kp : Keep (fun c => c = pb ∨ c = mb) x (x.put pb (134 + 1 + t) [.int .i64 ((j : Nat) : Int)]) := Keep.put _ x _ _ (.inl rfl)
    have hmpb : mb ≠ pb := e.d.ne e.blk
    obtain ⟨e', st⟩ := e.put (now' := { P.now with r := upR P.now.r t j }) (d' := P.d) kp B2 (e.d.keep (Keep.put (fun c => c = pb) x _ _ rfl) hmpb)
    have hj2 : j < 128 ∧ (j ≠ 0 → P.now.u j = true) := by
      rcases hj with rfl | hj
      · exact ⟨by decide, fun h => absurd rfl h⟩
      · obtain ⟨j', ej, h1, h2, h3⟩ := why_ok hj
        have : j = j' := by omega
        subst this
        exact ⟨by omega, fun _ => h3⟩
    exact ⟨by omega, by omega, e.blk.store (by rw [pgC_len]; show 134 + 1 + t + 1 ≤ 269; omega), hG t j rfl rfl ht hj _ ⟨⟨S0, mb, pa, pc, Q, e'⟩, E.ok.put (E.ok.now.point hj2.1 hj2.2) E.ok.d, E.up⟩ st⟩
  · have e0 : P.why n i = 0 := e0
    obtain ⟨j, rfl, _⟩ := why_ok e0
    exact ⟨j, rfl, .inr e0⟩
/-! ### all anew -/
theorem PgEx.fresh {S0 : Nat → Prop} {mb : Nat} {pa : Option Addr} {pc : Nat} {Q : List Pt} (E : PgEx h pb jb db S S0 n D P mb pa pc Q) {h' : Hp} {k : Nat} {g n' : Hd} (hk : h k = none) (kp : Keep (fun c => c = pb) h h')
    (B : Blk h' pb 87 (pgC jb g n' k none 0 0)) (Dm : DAt h' k []) :
    PgEx h' pb jb db (fun c => c = pb ∨ c = k ∨ S0 c) S0 n D ⟨g, n', [], []⟩ k none 0 [] ∧ Step S h (fun c => c = pb ∨ c = k ∨ S0 c) h' := by
  refine ⟨⟨B, E.j.out kp fun c hc e => E.n1 (e ▸ hc), Dm, OwnR.nil _ _, (fun q hq => by cases hq), rfl, E.n1, fun hc => E.j.in_heap hc hk, (fun q hq => by cases hq), (fun c hc => by obtain ⟨o, s, e⟩ := hc; cases e), by simp, fun c => ⟨?_, ?_⟩⟩, kp.mono fun c e => (E.s c).2 (.inl e), ?_⟩
  · rintro (h' | h' | h')
    · exact .inl h'
    · exact .inr (.inl h')
    · exact .inr (.inr (.inl h'))
  · rintro (h' | h' | h' | ⟨o, s, e⟩ | ⟨q, hq, _⟩)
    · exact .inl h'
    · exact .inr (.inl h')
    · exact .inr (.inr h')
    · cases e
    · cases hq
  · rintro c (rfl | rfl | hc)
    · exact .inl ((E.s _).2 (.inl rfl))
    · exact .inr hk
    · exact .inl ((E.s _).2 (.inr (.inr (.inl hc))))
theorem POk.reset {g : Hd} (h : HdOk n g) : POk n (Pg.reset g) := ⟨h, h, DOk.nil n, (fun q hq => by cases hq), Nat.zero_le _⟩
theorem abort_spec (E : PgAt h pb jb db S n D P) (hK : ∀ h' S', PgAt h' pb jb db S' n D (Pg.reset P.good) → Step S h S' h' → K (.tuple #[]) h') : CallsH Tryz.prog pager_Pager_Abort.id #[.pointer (some ⟨pb, 0, none⟩)] h K := by
  apply pager_Pager_Abort.calls
  unfold pager_Pager_Abort.W
  obtain ⟨S0, mb, pa, pc, Q, e⟩ := E.ex
  refine ⟨_, e.blk.cell' 0 pgC_0, jread_spec (i := 0) e.j (by have := e.j.n1; omega) E.up fun h3 s3 => ⟨_, _, rfl, split_eq (fun _ => ?_) fun e => absurd rfl e⟩⟩
  have e3 := e.sub s3
  refine ⟨P.good.c, P.good.len, e3.blk.cellsAt fun i hi => by rw [Nat.zero_add]; exact pgC_good (by rw [P.good.len] at hi; exact hi), fun k7 hk7 o8 m8 => ⟨P.good.len, P.good.plain, ?_⟩⟩
  have s7 := Sub.upd hk7 o8
  have B0 := e3.blk.sub s7
  have B1 := B0.put 134 P.good.c
  rw [pgC_setNow] at B1
  have B2 := B1.put 267 [.map (some k7)]
  rw [pgC_setMap] at B2
  have B3 := B2.put 268 [.slice none 0 0]
  rw [pgC_setPts] at B3
  have hne : k7 ≠ pb := fun e' => by have := e3.blk; unfold Blk at this; rw [← e', hk7] at this; cases this
  have kp : ∀ (z : Hp) (o : Nat) (vs : List Value), Keep (fun c => c = pb) z (z.put pb o vs) := fun z o vs => Keep.put _ z o vs rfl
  have k3 := ((s7.keep (fun c => c = pb)).trans (kp _ 134 P.good.c)).trans ((kp _ 267 [.map (some k7)]).trans (kp _ 268 [.slice none 0 0]))
  obtain ⟨e', st⟩ := e3.fresh hk7 k3 B3 ⟨o8, by rw [put_ne _ _ _ hne, put_ne _ _ _ hne, put_ne _ _ _ hne, Hp.upd_same], m8⟩
  refine ⟨?_, ?_, ?_, hK _ _ ⟨⟨S0, k7, none, 0, [], e'⟩, POk.reset E.ok.good, E.up⟩ ((Step.sub s3).trans st)⟩
  · rw [P.good.len]; exact B0.store (by rw [pgC_len]; decide)
  · exact B1.store (by rw [pgC_len]; decide)
  · exact B2.store (by rw [pgC_len]; decide)
/-! ### savepoints -/
theorem appTPt : AppT Tryz.prog 98 134 176 := AppT.of (by kernel_rfl)
theorem z125 : zeroL Tryz.prog 98 = headC 0 (fun _ => 0) (fun _ => false) ++ [.map none] := by kernel_rfl
theorem ptMake (q : Pt) : setL (zeroRow Tryz.prog 98 1) 0 (setL (setL (zeroL Tryz.prog 98) 0 q.h.c) 133 [.map (some q.m)]) = ptC q := by
  have l0 := headC_len 0 (fun _ => 0) (fun _ => false)
  have e1 : setL (setL (zeroL Tryz.prog 98) 0 q.h.c) 133 [.map (some q.m)] = ptC q := by
    rw [z125, setL_left _ _ _ _ (by rw [q.h.len, l0]; decide), setL_all (by rw [q.h.len, l0]), show (133 : Nat) = q.h.c.length + 0 by rw [q.h.len], setL_right]; rfl
  rw [e1, setL_all]
  rw [ptC_len]
  unfold zeroRow
  rw [z125]
  show _ = (headC 0 (fun _ => 0) (fun _ => false) ++ [Value.map none] ++ []).length
  rw [List.append_nil, List.length_append, l0]; rfl
set_option maxHeartbeats 1000000 in
theorem save_spec (E : PgAt h pb jb db S n D P) (hF : P.pts.length = 16 → K (.tuple #[.int .i64 0, .int .i64 5]) h)
    (hG : P.pts.length < 16 → ∀ h' S', PgAt h' pb jb db S' n D P.save → Step S h S' h' → K (.tuple #[.int .i64 (P.pts.length : Nat), .int .i64 0]) h') :
    CallsH Tryz.prog pager_Pager_Save.id #[.pointer (some ⟨pb, 0, none⟩)] h K := by
  apply pager_Pager_Save.calls
  unfold pager_Pager_Save.W
  obtain ⟨S0, mb, pa, pc, Q, e⟩ := E.ex
  have hQ : Q.length = P.pts.length := by rw [← e.pts, List.length_map]
  have few := E.ok.few
  refine ⟨_, _, _, by rw [Nat.zero_add]; exact e.blk.cell' _ pgC_pts, split_eq (fun g => hF (by have : (Q.length : Int) = 16 := g; omega)) fun g => ?_⟩
  have g : P.pts.length < 16 := by
    have : ¬ (Q.length : Int) = 16 := g
    omega
  refine ⟨_, _, _, by rw [Nat.zero_add]; exact e.blk.cell' _ pgC_pts, P.now.c, P.now.len, e.blk.cellsAt fun i hi => by rw [Nat.zero_add]; exact pgC_now (by rw [P.now.len] at hi; exact hi), _, by rw [Nat.zero_add]; exact e.blk.cell' _ pgC_map, ?_⟩
  refine clone_spec e.d fun k o hk Dk => ⟨_, rfl, Sub.upd hk o, P.now.len, rfl, ?_⟩
  generalize eh : h.upd k o = h10 at Dk
  have s10 : Sub h h10 := by rw [← eh]; exact Sub.upd hk o
  rw [ptMake ⟨P.now, k, P.d⟩]
  refine ⟨by
    have l0 := headC_len 0 (fun _ => 0) (fun _ => false)
    rw [setL_len, setL_len, z125, List.length_append, l0]; rfl, fun k12 hk12 => ?_⟩
  have s12 := Sub.upd hk12 (.cells (ptC ⟨P.now, k, P.d⟩).toArray 98 (0, 0))
  generalize ey : h10.upd k12 (.cells (ptC ⟨P.now, k, P.d⟩).toArray 98 (0, 0)) = y12 at s12
  have B12 : Blk y12 k12 98 (ptC ⟨P.now, k, P.d⟩) := by rw [← ey]; exact Blk.new _ _ _ _
  have s0 := s10.trans s12
  have e12 := e.sub s0
  refine ⟨s0, _, B12.slice (ptC_len _), fun a' c' y => OwnR ptC 134 y 98 a' c' (Q ++ [⟨P.now, k, P.d⟩]) ∧ Keep (blkOf pa) y12 y ∧ ∀ b, blkOf a' b → blkOf pa b ∨ y12 b = none, ?_, ?_⟩
  rotate_left
  · refine append_ownR appTPt ptC_len ptC_plain (M := [⟨P.now, k, P.d⟩]) e12.own rfl rfl (rowC_one _).symm (by rw [hQ]; show (2 * (P.pts.length + 1) + 768) * 176 ≤ _; omega) fun a' c' h' o1 o2 o3 => ⟨o1, o2, o3⟩
  rintro a' c' y ⟨o1, o2, o3⟩
  have hkpb : k ≠ pb := fun e' => by have := e.blk; unfold Blk at this; rw [← e', hk] at this; cases this
  have notPa : ∀ c, h c = none → ¬ blkOf pa c := fun c hc hb => Own.in_heap e.own hb hc
  have By : Blk y pb 87 (pgC jb P.good P.now mb pa Q.length pc) := e12.blk.keep o2 fun hb => (e.n4 _ hb).2 rfl
  have Bz := By.put 268 [.slice a' (Q.length + 1) c']
  rw [pgC_setPts] at Bz
  have kz : Keep (fun c => c = pb) y (y.put pb 268 [.slice a' (Q.length + 1) c']) := Keep.put _ y _ _ rfl
  have ha : ∀ c, blkOf a' c → blkOf pa c ∨ h c = none := fun c hc => (o3 c hc).imp id fun h' => s0.none h'
  have hapb : ∀ c, blkOf a' c → c ≠ pb := fun c hc e' => by
    rcases ha c hc with h' | h'
    · exact (e.n4 c h').2 e'
    · have := e.blk; unfold Blk at this; rw [← e', h'] at this; cases this
  refine ⟨By.store (by rw [pgC_len]; decide), _, _, _, by rw [Nat.zero_add]; exact Bz.cell' _ pgC_pts, ?_⟩
  have ew : IntKind.i64.wrap (((Q.length + 1 : Nat) : Int) - 1) = (P.pts.length : Nat) := by rw [wid (by omega) (by omega)]; omega
  show K (.tuple #[.int .i64 (IntKind.i64.wrap (((Q.length + 1 : Nat) : Int) - 1)), .int .i64 0]) _
  rw [ew]
  rw [Nat.zero_add]
  have dk : ∀ {c : Nat} {L : List Ch}, DAt y12 c L → ¬ blkOf pa c → c ≠ pb → DAt (y.put pb 268 [.slice a' (Q.length + 1) c']) c L := fun H h1 h2 => (H.keep o2 h1).keep kz h2
  refine hG g _ (fun c => c = pb ∨ c = mb ∨ S0 c ∨ blkOf a' c ∨ ∃ q ∈ Q ++ [⟨P.now, k, P.d⟩], q.m = c) ⟨⟨S0, mb, a', c', Q ++ [⟨P.now, k, P.d⟩], ⟨?_, ?_, ?_, ?_, ?_, ?_, e.n1, e.n2, ?_, ?_, ?_, ?_⟩⟩, ⟨E.ok.good, E.ok.now, E.ok.d, ?_, ?_⟩, E.up⟩ ⟨?_, ?_⟩
  · rw [List.length_append]; exact Bz
  · exact (e12.j.out o2 fun c hc hb => (e.n4 c hb).1 hc).out kz fun c hc e' => e.n1 (e' ▸ hc)
  · exact dk e12.d (fun hb => e.d.ne_own e.own hb rfl) (e.d.ne e.blk)
  · exact o1.keep kz hapb
  · intro q hq
    rcases List.mem_append.1 hq with hq | hq
    · exact dk (e12.ds q hq) (fun hb => (e.ds q hq).ne_own e.own hb rfl) ((e.ds q hq).ne e.blk)
    · rw [List.mem_singleton.1 hq]
      exact dk (Dk.sub s12) (notPa k hk) hkpb
  · rw [List.map_append, e.pts]; rfl
  · intro q hq
    rcases List.mem_append.1 hq with hq | hq
    · exact e.n3 q hq
    · rw [List.mem_singleton.1 hq]; exact fun hc => e.j.in_heap hc hk
  · intro c hc
    refine ⟨fun hS => ?_, hapb c hc⟩
    rcases ha c hc with h' | h'
    · exact (e.n4 c h').1 hS
    · exact e.j.in_heap hS h'
  · rw [List.map_append, ← List.cons_append]
    rw [List.nodup_append]
    refine ⟨e.n5, by simp, fun a ha b hb => ?_⟩
    have hb : b = k := by simpa using hb
    rw [hb]
    rintro rfl
    rcases List.mem_cons.1 ha with h' | h'
    · obtain ⟨o', ho', _⟩ := e.d
      rw [← h', hk] at ho'; cases ho'
    · obtain ⟨q, hq, h'⟩ := List.mem_map.1 h'
      obtain ⟨o', ho', _⟩ := e.ds q hq
      rw [h', hk] at ho'; cases ho'
  · exact fun c => Iff.rfl
  · intro q hq
    rcases List.mem_append.1 hq with hq | hq
    · exact E.ok.pts q hq
    · rw [List.mem_singleton.1 hq]; exact ⟨E.ok.now, E.ok.d⟩
  · show (P.pts ++ _).length ≤ 16
    rw [List.length_append]; show P.pts.length + 1 ≤ 16; omega
  · exact ((s0.keep S).trans (o2.mono fun c hc => (e.s c).2 (.inr (.inr (.inr (.inl hc)))))).trans (kz.mono fun c hc => (e.s c).2 (.inl hc))
  · rintro c (h' | h' | h' | h' | ⟨q, hq, h'⟩)
    · exact .inl ((e.s c).2 (.inl h'))
    · exact .inl ((e.s c).2 (.inr (.inl h')))
    · exact .inl ((e.s c).2 (.inr (.inr (.inl h'))))
    · exact (ha c h').imp (fun h2 => (e.s c).2 (.inr (.inr (.inr (.inl h2))))) id
    · rcases List.mem_append.1 hq with hq | hq
      · exact .inl ((e.s c).2 (.inr (.inr (.inr (.inr ⟨q, hq, h'⟩)))))
      · rw [List.mem_singleton.1 hq] at h'
        exact .inr (by rw [← h']; exact hk)
theorem slA_zero (m s : Nat) (a : Option Addr) : slA m 0 s a = a := by
  unfold slA
  split
  · rfl
  · cases a with
    | none => rfl
    | some a => obtain ⟨b, o, sp⟩ := a; rw [Nat.zero_mul]; rfl
set_option maxHeartbeats 1000000 in
theorem back_spec (E : PgAt h pb jb db S n D P) (i : Int) (hF : (i < 0 ∨ i ≥ (P.pts.length : Int)) → K (.int .i64 6) h)
    (hG : ∀ (k : Nat) q, i = (k : Int) → P.pts[k]? = some q → ∀ h' S', PgAt h' pb jb db S' n D (P.back k q) → Step S h S' h' → K (.int .i64 0) h') :
    CallsH Tryz.prog pager_Pager_Back.id #[.pointer (some ⟨pb, 0, none⟩), .int .i64 i] h K := by
  apply pager_Pager_Back.calls
  unfold pager_Pager_Back.W
  obtain ⟨S0, mb, pa, pc, Q, e⟩ := E.ex
  have hQ : Q.length = P.pts.length := by rw [← e.pts, List.length_map]
  refine split_dec (fun g => hF (.inl g)) fun g0 => ⟨_, _, _, by rw [Nat.zero_add]; exact e.blk.cell' _ pgC_pts, split_dec (fun g => hF (.inr (by have : i ≥ (Q.length : Int) := g; omega))) fun g1 => ?_⟩
  obtain ⟨k, rfl⟩ : ∃ k : Nat, i = (k : Int) := ⟨i.toNat, by omega⟩
  have hk : k < Q.length := by
    have : ¬ (k : Int) ≥ (Q.length : Int) := g1
    omega
  have hq : Q[k]? = some Q[k] := List.getElem?_eq_getElem hk
  generalize Q[k] = q at hq
  have hqm : q ∈ Q := List.mem_of_getElem? hq
  have hpt : P.pts[k]? = some (q.h, q.d) := by rw [← e.pts, List.getElem?_map, hq]; rfl
  obtain ⟨b, o, ea, hc⟩ := e.own.row.get ptC_len (by decide) hq
  have hcl : ∀ i, i < 133 → (ptC q)[i]? = q.h.c[i]? := fun i hi => by unfold ptC; rw [List.getElem?_append_left (by rw [q.h.len]; exact hi)]
  have hcm : (ptC q)[133]? = some (.map (some q.m)) := by
    unfold ptC
    rw [List.getElem?_append_right (by rw [q.h.len]; decide), q.h.len]; rfl
  have B1 := e.blk.put 134 q.h.c
  rw [pgC_setNow] at B1
  have B2 := B1.put 267 [.map (some q.m)]
  rw [pgC_setMap] at B2
  have B3 := B2.put 268 [.slice pa k pc]
  rw [pgC_setPts] at B3
  have kp : ∀ (z : Hp) (o : Nat) (vs : List Value), Keep (fun c => c = pb) z (z.put pb o vs) := fun z o vs => Keep.put _ z o vs rfl
  have k3 := (kp h 134 q.h.c).trans ((kp _ 267 [.map (some q.m)]).trans (kp _ 268 [.slice pa k pc]))
  have own' : OwnR ptC 134 h 98 pa pc (Q.take k) := by
    unfold OwnR
    rw [List.length_take, Nat.min_eq_left (Nat.le_of_lt hk), ← rowC_take ptC_len]
    exact Own.take e.own (Nat.le_of_lt hk)
  have tk : ∀ x ∈ Q.take k, x ∈ Q := fun x hx => List.mem_of_mem_take hx
  have hidx : (k : Int).toNat = k := Int.toNat_natCast k
  refine ⟨_, _, _, by rw [Nat.zero_add]; exact e.blk.cell' _ pgC_pts, by omega, by show (k : Int) < (Q.length : Int); omega, b, o, ea, q.h.c, q.h.len, ?_, _, _, _, by rw [Nat.zero_add]; exact e.blk.cell' _ pgC_pts, by omega, by show (k : Int) < (Q.length : Int); omega, b, o, ea, _, ?_, q.h.len, q.h.plain, ?_, ?_, _, _, _, by rw [Nat.zero_add, Nat.zero_add]; exact B2.cell' _ pgC_pts, by omega, ?_, ?_, ?_⟩
  · rw [hidx]
    intro i hi
    have hi' : i < 133 := by rw [q.h.len] at hi; exact hi
    exact hc i _ (by rw [hcl i hi', List.getElem?_eq_getElem hi])
  · rw [hidx]; exact hc 133 _ hcm
  · rw [q.h.len]; exact e.blk.store (by rw [pgC_len]; decide)
  · rw [Nat.zero_add]; exact B1.store (by rw [pgC_len]; decide)
  · have := e.own.le
    show (k : Int) ≤ (pc : Int)
    omega
  · rw [Nat.zero_add, Nat.zero_add]; exact B2.store (by rw [pgC_len]; decide)
  · rw [slA_zero, hidx, Nat.zero_add, Nat.zero_add, Nat.zero_add]
    have hm2 : mb ∉ Q.map (·.m) ∧ (Q.map (·.m)).Nodup := List.nodup_cons.1 e.n5
    refine hG k (q.h, q.d) rfl hpt _ (fun c => c = pb ∨ c = q.m ∨ S0 c ∨ blkOf pa c ∨ ∃ x ∈ Q.take k, x.m = c) ⟨⟨S0, q.m, pa, pc, Q.take k, ⟨?_, e.j.out k3 fun c hc e' => e.n1 (e' ▸ hc), (e.ds q hqm).keep k3 ((e.ds q hqm).ne e.blk), own'.keep k3 fun c hc => (e.n4 c hc).2, fun x hx => (e.ds x (tk x hx)).keep k3 ((e.ds x (tk x hx)).ne e.blk), ?_, e.n1, e.n3 q hqm, fun x hx => e.n3 x (tk x hx), e.n4, ?_, fun c => Iff.rfl⟩⟩, ⟨E.ok.good, (E.ok.pts (q.h, q.d) (List.mem_of_getElem? hpt)).1, (E.ok.pts (q.h, q.d) (List.mem_of_getElem? hpt)).2, fun x hx => E.ok.pts x (List.mem_of_mem_take hx), ?_⟩, E.up⟩ ⟨k3.mono fun c hc => (e.s c).2 (.inl hc), ?_⟩
    · rw [List.length_take, Nat.min_eq_left (Nat.le_of_lt hk)]; exact B3
    · show (Q.take k).map _ = P.pts.take k
      rw [List.map_take, e.pts]
    · have hd : Q = Q.take k ++ q :: Q.drop (k + 1) := by
        have h2 := (List.getElem?_eq_some_iff.1 hq).2
        rw [← h2, ← List.drop_eq_getElem_cons, List.take_append_drop]
      have := hm2.2
      rw [hd, List.map_append, List.map_cons, List.nodup_append] at this
      refine List.nodup_cons.2 ⟨fun hx => this.2.2 _ hx _ List.mem_cons_self rfl, this.1⟩
    · have := E.ok.few
      show (P.pts.take k).length ≤ 16
      rw [List.length_take]; omega
    · rintro c (h' | h' | h' | h' | ⟨x, hx, h'⟩)
      · exact .inl ((e.s c).2 (.inl h'))
      · exact .inl ((e.s c).2 (.inr (.inr (.inr (.inr ⟨q, hqm, h'.symm⟩)))))
      · exact .inl ((e.s c).2 (.inr (.inr (.inl h'))))
      · exact .inl ((e.s c).2 (.inr (.inr (.inr (.inl h')))))
      · exact .inl ((e.s c).2 (.inr (.inr (.inr (.inr ⟨x, tk x hx, h'⟩)))))
end Go.Proofs.YtagglohkipioiaaGreat
namespace Go.Proofs.YtagglohkipioiaaGreat
open Go.Gx
set_option maxRecDepth 100000
set_option linter.unusedVariables false

variable {h : Hp} {pb jb db n : Nat} {S : Nat → Prop} {D : Dk} {P : Pg} {K : Value → Hp → Prop}
theorem appTInt : AppT Tryz.prog 3 1 8 := AppT.of (by kernel_rfl)
def Pg.hd0 (P : Pg) : List Nat := if P.now.same P.good then [] else [0]
set_option maxHeartbeats 1000000 in
theorem changed_spec (E : PgAt h pb jb db S n D P) (hK : ∀ h' a c, NewR keyC 1 3 h h' a c (P.chg D n) → K (.slice a (P.chg D n).length c) h') :
    CallsH Tryz.prog pager_Pager_Changed.id #[.pointer (some ⟨pb, 0, none⟩)] h K := by
  have hn := E.n2
  apply pager_Pager_Changed.calls
  unfold pager_Pager_Changed.W
  obtain ⟨S0, mb, pa, pc, Q, e⟩ := E.ex
  have hl0 : P.hd0.length ≤ 1 := by unfold Pg.hd0; split <;> decide
  refine ⟨fun a l c x => NewR keyC 1 3 h x a c P.hd0 ∧ l = P.hd0.length, ?_, P.now.c, P.now.len, e.blk.cellsAt fun i hi => by rw [Nat.zero_add]; exact pgC_now (by rw [P.now.len] at hi; exact hi), P.good.c, P.good.len, e.blk.cellsAt fun i hi => by rw [Nat.zero_add]; exact pgC_good (by rw [P.good.len] at hi; exact hi), P.now.lits, P.good.lits, E.ok.now.lits, E.ok.good.lits, ?_⟩
  rotate_left
  · rw [Hd.leq]
    refine split_not (fun es => fun k hk => ?_) fun es => ?_
    · have es : P.now.same P.good = false := es
      have B := Blk.new h k 3 (keyC 0)
      have s1 := Sub.upd hk (.cells (keyC 0).toArray 3 (0, 0))
      exact ⟨_, B.slice rfl, fun a' c' y => NewR keyC 1 3 h y a' c' P.hd0, fun a' c' y N => ⟨N, by unfold Pg.hd0; rw [es]; rfl⟩, append_row appTInt keyC_len keyC_plain (M := [0]) ((NewR.nil 3 h).upd s1) rfl rfl rfl (by decide) fun a' c' y N => by unfold Pg.hd0; rw [es]; exact N⟩
    · have es : P.now.same P.good = true := es
      exact ⟨by unfold Pg.hd0; rw [es]; exact NewR.nil 3 h, by unfold Pg.hd0; rw [es]; rfl⟩
  rintro a l c x ⟨N, rfl⟩
  have ex := e.sub N.sub
  refine ⟨_, by rw [Nat.zero_add]; exact ex.blk.cell' _ pgC_map, mkeys_spec fun k hk => ⟨_, rfl, ?_⟩⟩
  have s8 := Sub.upd hk (.cells #[.map (some mb)] 84 (0, 0))
  have N8 := N.upd s8
  have e8 := ex.sub s8
  refine sortedk_spec ((Blk.new x k 84 [.map (some mb)]).cell' 0 rfl) e8.d E.ok.d hn fun h11 ka kc ks hp hs NK => ?_
  have hks := keys_eq E.ok.d hp hs
  have hkl : ks.length ≤ 128 := by
    rw [hp.length_eq, List.length_map]
    exact Nat.le_trans E.ok.d.len hn
  have NB := N8.upd NK.sub
  have eB := e8.sub NK.sub
  refine ⟨_, _, _, rfl, fun a l c i y m => ∃ j : Nat, i = (j : Int) ∧ j ≤ ks.length ∧ m = ks.length - j ∧ (OwnR keyC 1 y 3 ka kc ks ∧ ∀ b, blkOf ka b → ¬ blkOf a b) ∧ NewR keyC 1 3 h y a c (P.hd0 ++ (ks.take j).filter (P.diff D n)) ∧ l = (P.hd0 ++ (ks.take j).filter (P.diff D n)).length, ⟨_, 0, rfl, Nat.zero_le _, rfl, ⟨NK.own, fun b hb hb' => ?_⟩, ?_, ?_⟩, ?_⟩
  · exact Own.in_heap N8.own hb' (NK.new b hb)
  · rw [List.take_zero, List.filter_nil, List.append_nil]; exact NB
  · rw [List.take_zero, List.filter_nil, List.append_nil]
  rintro a l c i y m ⟨j, rfl, hj, rfl, ⟨OK, dj⟩, Ny, rfl⟩
  have ey := e.sub Ny.sub
  refine split_dec (fun g => ?_) fun g => ?_
  · have g : j < ks.length := by have : (j : Int) < (ks.length : Int) := g; omega
    obtain ⟨p, hpj⟩ : ∃ p, ks[j]? = some p := ⟨_, List.getElem?_eq_getElem g⟩
    have hpm : p ∈ ks := List.mem_of_getElem? hpj
    have hpn : p < n ∧ (dget P.d p).isSome = true := by
      rw [hks, List.mem_filter, List.mem_range] at hpm; exact hpm
    obtain ⟨s, hsd⟩ := Option.isSome_iff_exists.1 hpn.2
    obtain ⟨kb, ko, ea, hcell⟩ := OK.row.get keyC_len (by decide) hpj
    have htk : ks.take (j + 1) = ks.take j ++ [p] := by rw [List.take_add_one, hpj]; rfl
    have hlen : (P.hd0 ++ (ks.take j).filter (P.diff D n)).length ≤ 129 := by
      rw [List.length_append]
      have := List.length_filter_le (P.diff D n) (ks.take j)
      rw [List.length_take] at this
      omega
    refine ⟨by omega, by show (j : Int) < (ks.length : Int); omega, kb, ko, ea, _, by rw [Int.toNat_natCast]; exact hcell 0 _ rfl, _, ey.blk.cell' 0 pgC_0, jread_spec ey.j hpn.1 E.up fun h28 s28 => ⟨_, _, rfl, split_ne (fun e => absurd rfl e) fun _ => ?_⟩⟩
    have e28 := ey.sub s28
    obtain ⟨o, ho, hm⟩ := e28.d
    have hg := mapD_get P.d p
    rw [hsd] at hg
    refine ⟨_, by rw [Nat.zero_add]; exact e28.blk.cell' _ pgC_map, mb, o, _, rfl, ho, hm, s, true, .inl ⟨rfl, hg⟩, ?_⟩
    rw [beqS_val]
    have next : ((j : Nat) : Int) + 1 = ((j + 1 : Nat) : Int) := by omega
    by_cases hd : D.own n p = s
    · have hdf : P.diff D n p = false := by unfold Pg.diff; rw [hsd, hd]; simp
      rw [decide_eq_true hd]
      refine ⟨ks.length - (j + 1), by omega, j + 1, by rw [wid (by omega) (by omega)]; omega, by omega, rfl, ⟨OK.sub s28, dj⟩, ?_, ?_⟩
      · rw [htk, List.filter_append, List.filter_cons_of_neg (by rw [hdf]; simp), List.filter_nil, List.append_nil]; exact Ny.upd s28
      · rw [htk, List.filter_append, List.filter_cons_of_neg (by rw [hdf]; simp), List.filter_nil, List.append_nil]
    · have hdt : P.diff D n p = true := by unfold Pg.diff; rw [hsd]; simp [hd]
      rw [decide_eq_false hd]
      intro k44 hk44
      have s44 := Sub.upd hk44 (.cells (keyC p).toArray 3 (0, 0))
      have B44 := Blk.new h28 k44 3 (keyC p)
      have fl : (ks.take (j + 1)).filter (P.diff D n) = (ks.take j).filter (P.diff D n) ++ [p] := by
        rw [htk, List.filter_append, List.filter_cons_of_pos hdt, List.filter_nil]
      have Nz := (Ny.upd s28).upd s44
      have Oz := (OK.sub s28).sub s44
      refine ⟨_, B44.slice rfl, fun a' c' z => NewR keyC 1 3 h z a' c' (P.hd0 ++ (ks.take (j + 1)).filter (P.diff D n)) ∧ OwnR keyC 1 z 3 ka kc ks ∧ ∀ b, blkOf ka b → ¬ blkOf a' b, fun a' c' z hz => ⟨ks.length - (j + 1), by omega, j + 1, by rw [wid (by omega) (by omega)]; omega, by omega, rfl, hz.2, hz.1, ?_⟩, ?_⟩
      · rw [fl, ← List.append_assoc, List.length_append (bs := [p])]; rfl
      · refine append_ownR appTInt keyC_len keyC_plain (M := [p]) Nz.own rfl rfl (rowC_one _).symm ?_ fun a' c' z o1 o2 o3 => ⟨⟨o2.sub Nz.sub Nz.new, fun b hb => (o3 b hb).elim (Nz.new b) fun hn => Nz.sub.none hn, ?_⟩, Oz.keep o2 dj, fun b hb hb' => ?_⟩
        · show (2 * ((P.hd0 ++ (ks.take j).filter (P.diff D n)).length + 1) + 768) * 8 ≤ _
          omega
        · rw [fl, ← List.append_assoc]; exact o1
        · exact (o3 b hb').elim (dj b hb) fun hn => Own.in_heap Oz hb hn
  · have : j = ks.length := by
      have : ¬ (j : Int) < (ks.length : Int) := g
      omega
    subst this
    have ec : P.hd0 ++ (ks.take ks.length).filter (P.diff D n) = P.chg D n := by
      rw [List.take_length, hks, filter_keys]; rfl
    rw [ec] at Ny ⊢
    exact hK y a c Ny
end Go.Proofs.YtagglohkipioiaaGreat
