/- Which pages a commit would change. Conditions: the pager stands as it is named. -/
import Derived.Test.YtagglohkipioiaaGreatP15
namespace Go.Proofs.YtagglohkipioiaaGreat
open Go.Gx
set_option maxRecDepth 100000
set_option linter.unusedVariables false

variable {h : Hp} {pb jb db n : Nat} {S : Nat → Prop} {D : Dk} {P : Pg} {K : Value → Hp → Prop}
theorem appTInt : AppT Tryz.prog 3 1 8 := AppT.of (by kernel_rfl)
def Pg.hd0 (P : Pg) : List Nat := if P.now.same P.good then [] else [0]
set_option maxHeartbeats 1000000 in
theorem changed_spec (E : PgAt h pb jb db S n D P) (hK : ∀ h' a c, NewR keyC 1 3 h h' a c (P.chg D n) → K (.slice a (P.chg D n).length c) h') :
    CallsH Tryz.prog pager_Pager_Changed.id #[.pointer (some ⟨pb, 0, none⟩)] h K := by
  have hn := E.n2
  apply pager_Pager_Changed.calls
  unfold pager_Pager_Changed.W
  obtain ⟨S0, mb, pa, pc, Q, e⟩ := E.ex
  have hl0 : P.hd0.length ≤ 1 := by unfold Pg.hd0; split <;> decide
  refine ⟨fun a l c x => NewR keyC 1 3 h x a c P.hd0 ∧ l = P.hd0.length, ?_, P.now.c, P.now.len, e.blk.cellsAt fun i hi => by rw [Nat.zero_add]; exact pgC_now (by rw [P.now.len] at hi; exact hi), P.good.c, P.good.len, e.blk.cellsAt fun i hi => by rw [Nat.zero_add]; exact pgC_good (by rw [P.good.len] at hi; exact hi), P.now.lits, P.good.lits, E.ok.now.lits, E.ok.good.lits, ?_⟩
  rotate_left
  · rw [Hd.leq]
    refine split_not (fun es => fun k hk => ?_) fun es => ?_
    · have es : P.now.same P.good = false := es
      have B := Blk.new h k 3 (keyC 0)
      have s1 := Sub.upd hk (.cells (keyC 0).toArray 3 (0, 0))
      exact ⟨_, B.slice rfl, fun a' c' y => NewR keyC 1 3 h y a' c' P.hd0, fun a' c' y N => ⟨N, by unfold Pg.hd0; rw [es]; rfl⟩, append_row appTInt keyC_len keyC_plain (M := [0]) ((NewR.nil 3 h).upd s1) rfl rfl rfl (by decide) fun a' c' y N => by unfold Pg.hd0; rw [es]; exact N⟩
    · have es : P.now.same P.good = true := es
      exact ⟨by unfold Pg.hd0; rw [es]; exact NewR.nil 3 h, by unfold Pg.hd0; rw [es]; rfl⟩
  rintro a l c x ⟨N, rfl⟩
  have ex := e.sub N.sub
  refine ⟨_, by rw [Nat.zero_add]; exact ex.blk.cell' _ pgC_map, mkeys_spec fun k hk => ⟨_, rfl, ?_⟩⟩
  have s8 := Sub.upd hk (.cells #[.map (some mb)] 84 (0, 0))
  have N8 := N.upd s8
  have e8 := ex.sub s8
  refine sortedk_spec ((Blk.new x k 84 [.map (some mb)]).cell' 0 rfl) e8.d E.ok.d hn fun h11 ka kc ks hp hs NK => ?_
  have hks := keys_eq E.ok.d hp hs
  have hkl : ks.length ≤ 128 := by
    rw [hp.length_eq, List.length_map]
    exact Nat.le_trans E.ok.d.len hn
  have NB := N8.upd NK.sub
  have eB := e8.sub NK.sub
  refine ⟨_, _, _, rfl, fun a l c i y m => ∃ j : Nat, i = (j : Int) ∧ j ≤ ks.length ∧ m = ks.length - j ∧ (OwnR keyC 1 y 3 ka kc ks ∧ ∀ b, blkOf ka b → ¬ blkOf a b) ∧ NewR keyC 1 3 h y a c (P.hd0 ++ (ks.take j).filter (P.diff D n)) ∧ l = (P.hd0 ++ (ks.take j).filter (P.diff D n)).length, ⟨_, 0, rfl, Nat.zero_le _, rfl, ⟨NK.own, fun b hb hb' => ?_⟩, ?_, ?_⟩, ?_⟩
  · exact Own.in_heap N8.own hb' (NK.new b hb)
  · rw [List.take_zero, List.filter_nil, List.append_nil]; exact NB
  · rw [List.take_zero, List.filter_nil, List.append_nil]
  rintro a l c i y m ⟨j, rfl, hj, rfl, ⟨OK, dj⟩, Ny, rfl⟩
  have ey := e.sub Ny.sub
  refine split_dec (fun g => ?_) fun g => ?_
  · have g : j < ks.length := by have : (j : Int) < (ks.length : Int) := g; omega
    obtain ⟨p, hpj⟩ : ∃ p, ks[j]? = some p := ⟨_, List.getElem?_eq_getElem g⟩
    have hpm : p ∈ ks := List.mem_of_getElem? hpj
    have hpn : p < n ∧ (dget P.d p).isSome = true := by
      rw [hks, List.mem_filter, List.mem_range] at hpm; exact hpm
    obtain ⟨s, hsd⟩ := Option.isSome_iff_exists.1 hpn.2
    obtain ⟨kb, ko, ea, hcell⟩ := OK.row.get keyC_len (by decide) hpj
    have htk : ks.take (j + 1) = ks.take j ++ [p] := by rw [List.take_add_one, hpj]; rfl
    have hlen : (P.hd0 ++ (ks.take j).filter (P.diff D n)).length ≤ 129 := by
      rw [List.length_append]
      have := List.length_filter_le (P.diff D n) (ks.take j)
      rw [List.length_take] at this
      omega
    refine ⟨by omega, by show (j : Int) < (ks.length : Int); omega, kb, ko, ea, _, by rw [Int.toNat_natCast]; exact hcell 0 _ rfl, _, ey.blk.cell' 0 pgC_0, jread_spec ey.j hpn.1 E.up fun h28 s28 => ⟨_, _, rfl, split_ne (fun e => absurd rfl e) fun _ => ?_⟩⟩
    have e28 := ey.sub s28
    obtain ⟨o, ho, hm⟩ := e28.d
    have hg := mapD_get P.d p
    rw [hsd] at hg
    refine ⟨_, by rw [Nat.zero_add]; exact e28.blk.cell' _ pgC_map, mb, o, _, rfl, ho, hm, s, true, .inl ⟨rfl, hg⟩, ?_⟩
    rw [beqS_val]
    have next : ((j : Nat) : Int) + 1 = ((j + 1 : Nat) : Int) := by omega
    by_cases hd : D.own n p = s
    · have hdf : P.diff D n p = false := by unfold Pg.diff; rw [hsd, hd]; simp
      rw [decide_eq_true hd]
      refine ⟨ks.length - (j + 1), by omega, j + 1, by rw [wid (by omega) (by omega)]; omega, by omega, rfl, ⟨OK.sub s28, dj⟩, ?_, ?_⟩
      · rw [htk, List.filter_append, List.filter_cons_of_neg (by rw [hdf]; simp), List.filter_nil, List.append_nil]; exact Ny.upd s28
      · rw [htk, List.filter_append, List.filter_cons_of_neg (by rw [hdf]; simp), List.filter_nil, List.append_nil]
    · have hdt : P.diff D n p = true := by unfold Pg.diff; rw [hsd]; simp [hd]
      rw [decide_eq_false hd]
      intro k44 hk44
      have s44 := Sub.upd hk44 (.cells (keyC p).toArray 3 (0, 0))
      have B44 := Blk.new h28 k44 3 (keyC p)
      have fl : (ks.take (j + 1)).filter (P.diff D n) = (ks.take j).filter (P.diff D n) ++ [p] := by
        rw [htk, List.filter_append, List.filter_cons_of_pos hdt, List.filter_nil]
      have Nz := (Ny.upd s28).upd s44
      have Oz := (OK.sub s28).sub s44
      refine ⟨_, B44.slice rfl, fun a' c' z => NewR keyC 1 3 h z a' c' (P.hd0 ++ (ks.take (j + 1)).filter (P.diff D n)) ∧ OwnR keyC 1 z 3 ka kc ks ∧ ∀ b, blkOf ka b → ¬ blkOf a' b, fun a' c' z hz => ⟨ks.length - (j + 1), by omega, j + 1, by rw [wid (by omega) (by omega)]; omega, by omega, rfl, hz.2, hz.1, ?_⟩, ?_⟩
      · rw [fl, ← List.append_assoc, List.length_append (bs := [p])]; rfl
      · refine append_ownR appTInt keyC_len keyC_plain (M := [p]) Nz.own rfl rfl (rowC_one _).symm ?_ fun a' c' z o1 o2 o3 => ⟨⟨o2.sub Nz.sub Nz.new, fun b hb => (o3 b hb).elim (Nz.new b) fun hn => Nz.sub.none hn, ?_⟩, Oz.keep o2 dj, fun b hb hb' => ?_⟩
        · show (2 * ((P.hd0 ++ (ks.take j).filter (P.diff D n)).length + 1) + 768) * 8 ≤ _
          omega
        · rw [fl, ← List.append_assoc]; exact o1
        · exact (o3 b hb').elim (dj b hb) fun hn => Own.in_heap Oz hb hn
  · have : j = ks.length := by
      have : ¬ (j : Int) < (ks.length : Int) := g
      omega
    subst this
    have ec : P.hd0 ++ (ks.take ks.length).filter (P.diff D n) = P.chg D n := by
      rw [List.take_length, hks, filter_keys]; rfl
    rw [ec] at Ny ⊢
    exact hK y a c Ny
end Go.Proofs.YtagglohkipioiaaGreat
