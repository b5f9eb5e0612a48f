/- A journal on a disk: what its writing does. Conditions: it stands as it is named, with room. -/
import Derived.Test.YtagglohkipioiaaJ1
namespace Go.Proofs.Ytagglohkipioiaa
open Go.Gx
set_option maxRecDepth 100000
set_option linter.unusedVariables false

/-! ### writes one behind another -/
def wrs : Dk → List (Nat × ByteArray) → Dk × Int
  | D, [] => (D, 0)
  | D, w :: l => if D.down then (D, 10) else wrs (D.write w.1 w.2) l
theorem wrs_cons (D : Dk) (w : Nat × ByteArray) (l : List (Nat × ByteArray)) : wrs D (w :: l) = if D.down then (D, 10) else wrs (D.write w.1 w.2) l := rfl
theorem wrs_append : ∀ (a b : List (Nat × ByteArray)) (D : Dk), wrs D (a ++ b) = if (wrs D a).2 = 0 then wrs (wrs D a).1 b else wrs D a
  | [], b, D => by simp [wrs]
  | w :: a, b, D => by
    rw [List.cons_append, wrs_cons, wrs_cons]
    cases hd : D.down with
    | true => simp
    | false => simp only [Bool.false_eq_true, if_false]; exact wrs_append a b _
theorem wrs_l : ∀ (a : List (Nat × ByteArray)) (D : Dk), (wrs D a).1.l = D.l
  | [], D => rfl
  | w :: a, D => by
    unfold wrs
    cases hd : D.down with
    | true => rfl
    | false => simp only [Bool.false_eq_true, if_false]; exact wrs_l a _
theorem wrs_ws : ∀ (a : List (Nat × ByteArray)) (D : Dk), (wrs D a).1.ws.length ≤ D.ws.length + a.length
  | [], D => by simp [wrs]
  | w :: a, D => by
    unfold wrs
    cases hd : D.down with
    | true => simp
    | false =>
      simp only [Bool.false_eq_true, if_false]
      have := wrs_ws a (D.write w.1 w.2)
      have e : (D.write w.1 w.2).ws.length = D.ws.length + 1 := by show (D.ws ++ [_]).length = _; simp
      simp only [List.length_cons]; omega
theorem wrs_err : ∀ (a : List (Nat × ByteArray)) (D : Dk), (wrs D a).2 = 0 ∨ (wrs D a).2 = 10
  | [], D => .inl rfl
  | w :: a, D => by
    unfold wrs
    cases hd : D.down with
    | true => exact .inr rfl
    | false => simp only [Bool.false_eq_true, if_false]; exact wrs_err a _
/-- A page's parts, from a sector on. -/
def parts (at_ : Nat) (s : ByteArray) : List (Nat × ByteArray) := (List.range 4).map fun i => (at_ + i, s.extract (i * 256) ((i + 1) * 256))
theorem parts_len (at_ : Nat) (s : ByteArray) : (parts at_ s).length = 4 := by unfold parts; simp
theorem parts_get {at_ : Nat} {s : ByteArray} {j : Nat} (hj : j < 4) : (parts at_ s)[j]? = some (at_ + j, s.extract (j * 256) ((j + 1) * 256)) := by
  unfold parts
  rw [List.getElem?_map, List.getElem?_range hj]; rfl
def flD (r : Dk × Int) : Dk × Int := if r.2 ≠ 0 then r else if r.1.down then (r.1, 10) else (r.1.flush, 0)
variable {h : Hp} {jb db n : Nat} {S : Nat → Prop} {D : Dk} {K : Value → Hp → Prop}
theorem use_down {i : Nat} (hd : D.down = true) : D.use (i : Nat) = 10 := by unfold Dk.use; rw [hd, if_pos rfl]
/-- One write. -/
theorem jwrite_spec (J : JAt h jb db S n D) {i : Nat} (hi : i < D.l.length) (s : ByteArray) (hs : s.size = 256) (hw : D.ws.length < 4096)
    (hK : ∀ h' S', JAt h' jb db S' n (wrs D [(i, s)]).1 → Step S h S' h' → K (.int .i64 (wrs D [(i, s)]).2) h') : CallsH Try.prog disk_Disk_Write.id #[.pointer (some ⟨db, 0, none⟩), .int .i64 (i : Nat), .string s] h K := by
  obtain ⟨S0, h1, h2, h3⟩ := J.step
  cases hd : D.down with
  | true =>
    have e : wrs D [(i, s)] = (D, 10) := by unfold wrs; rw [hd, if_pos rfl]
    rw [e] at hK
    refine write_bad h1 _ _ (by rw [use_down hd]; decide) ?_
    rw [use_down hd]
    exact hK h S J (Step.refl _ _)
  | false =>
    have e : wrs D [(i, s)] = (D.write i s, 0) := by unfold wrs; rw [hd]; rfl
    rw [e] at hK
    refine write_spec h1 hi hd s hs hw fun h' S' H' st => ?_
    obtain ⟨S2, J2, st2⟩ := h3 h' S' _ H' st rfl
    exact hK h' S2 J2 st2
theorem lay_spec (J : JAt h jb db S n D) {at_ : Nat} (hat : at_ + 4 ≤ D.l.length) (s : ByteArray) (hs : s.size = 1024) (hw : D.ws.length + 4 ≤ 4096)
    (hK : ∀ h' S', JAt h' jb db S' n (wrs D (parts at_ s)).1 → Step S h S' h' → K (.int .i64 (wrs D (parts at_ s)).2) h') : CallsH Try.prog journal_Journal_lay.id #[.pointer (some ⟨jb, 0, none⟩), .int .i64 (at_ : Nat), .string s] h K := by
  apply journal_Journal_lay.calls
  unfold journal_Journal_lay.W
  have hll : D.l.length ≤ 2048 := by obtain ⟨S0, h1, h2, h3⟩ := J.step; exact h1.len
  refine ⟨fun i x m => ∃ (j : Nat) (S' : Nat → Prop), i = (j : Int) ∧ j ≤ 4 ∧ m = 4 - j ∧ JAt x jb db S' n (wrs D ((parts at_ s).take j)).1 ∧ Step S h S' x ∧ (wrs D ((parts at_ s).take j)).2 = 0, ⟨_, 0, S, rfl, by decide, rfl, J, Step.refl _ _, rfl⟩, ?_⟩
  rintro i x m ⟨j, S', rfl, hj, rfl, Jx, st, e0⟩
  refine split_dec (fun g => ?_) fun g => ?_
  · have g : j < 4 := by have : (j : Int) < 4 := g; omega
    have hp := parts_get (at_ := at_) (s := s) g
    have ht : (parts at_ s).take (j + 1) = (parts at_ s).take j ++ [(at_ + j, s.extract (j * 256) ((j + 1) * 256))] := by rw [List.take_add_one, hp]; rfl
    have hw1 : wrs D ((parts at_ s).take (j + 1)) = wrs (wrs D ((parts at_ s).take j)).1 [(at_ + j, s.extract (j * 256) ((j + 1) * 256))] := by rw [ht, wrs_append, if_pos e0]
    have hall : (parts at_ s) = (parts at_ s).take (j + 1) ++ (parts at_ s).drop (j + 1) := (List.take_append_drop _ _).symm
    obtain ⟨S0, h1, h2, h3⟩ := Jx.step
    have hl := wrs_l ((parts at_ s).take j) D
    have hws := wrs_ws ((parts at_ s).take j) D
    have hpl : ((parts at_ s).take j).length = j := by rw [List.length_take, parts_len]; omega
    have e1 : IntKind.i64.wrap ((j : Int) * 256) = ((j * 256 : Nat) : Int) := by rw [wid (by omega) (by omega)]; omega
    have e2 : IntKind.i64.wrap (IntKind.i64.wrap ((j : Int) + 1) * 256) = (((j + 1) * 256 : Nat) : Int) := by
      rw [wid (x := (j : Int) + 1) (by omega) (by omega), wid (by omega) (by omega)]; omega
    have e3 : IntKind.i64.wrap ((at_ : Int) + (j : Int)) = ((at_ + j : Nat) : Int) := by rw [wid (by omega) (by omega)]; omega
    rw [e1, e2, e3]
    refine ⟨_, h2.cell' 0 rfl, by omega, by show (((j + 1) * 256 : Nat) : Int) ≤ (s.size : Int); omega, by omega, by show ((j * 256 : Nat) : Int) ≤ ((((j + 1) * 256 : Nat) : Int).toNat : Int); omega, ?_⟩
    rw [Int.toNat_natCast, Int.toNat_natCast]
    refine jwrite_spec Jx (by rw [hl]; omega) _ (by rw [ByteArray.size_extract]; omega) (by omega) fun h' S2 J2 st2 => ⟨_, rfl, ?_⟩
    rw [← hw1] at J2 ⊢
    refine split_ne (fun e => ?_) fun e => ⟨4 - (j + 1), by omega, j + 1, S2, by rw [wid (by omega) (by omega)]; omega, by omega, rfl, J2, st.trans st2, e⟩
    have e' : wrs D (parts at_ s) = wrs D ((parts at_ s).take (j + 1)) := by
      conv => lhs; rw [hall, wrs_append, if_neg e]
    have := hK h' S2
    rw [e'] at this
    exact this J2 (st.trans st2)
  · have : j = 4 := by
      have : ¬ (j : Int) < 4 := g
      omega
    subst this
    rw [List.take_of_length_le (by rw [parts_len]; exact Nat.le_refl _)] at Jx e0
    have := hK x S' Jx st
    rw [e0] at this
    exact this
theorem flushed_spec (J : JAt h jb db S n D) (e : Int) (hK : ∀ h' S', JAt h' jb db S' n (flD (D, e)).1 → Step S h S' h' → K (.int .i64 (flD (D, e)).2) h') : CallsH Try.prog journal_Journal_flushed.id #[.pointer (some ⟨jb, 0, none⟩), .int .i64 e] h K := by
  obtain ⟨S0, h1, h2, h3⟩ := J.step
  have := J.len
  apply journal_Journal_flushed.calls
  unfold journal_Journal_flushed.W
  refine split_ne (fun he => ?_) fun he => ⟨_, h2.cell' 0 rfl, ?_⟩
  · have e1 : flD (D, e) = (D, e) := if_pos he
    rw [e1] at hK
    exact hK h S J (Step.refl _ _)
  · subst he
    cases hd : D.down with
    | true =>
      have e1 : flD (D, 0) = (D, 10) := by unfold flD; rw [if_neg (by simp), if_pos hd]
      rw [e1] at hK
      have h0 : D.use 0 = 10 := use_down (i := 0) hd
      refine flush_bad h1 (by rw [h0]; decide) ⟨_, rfl, ?_⟩
      rw [h0]
      exact hK h S J (Step.refl _ _)
    | false =>
      have e1 : flD (D, 0) = (D.flush, 0) := by unfold flD; rw [if_neg (by simp), if_neg (by simp [hd])]
      rw [e1] at hK
      refine flush_spec h1 (by omega) hd fun h' S' H' st => ⟨_, rfl, ?_⟩
      obtain ⟨S2, J2, st2⟩ := h3 h' S' _ H' st (settleL_len _ _)
      exact hK h' S2 J2 st2
/-! ### the pages of changes -/
def logW (cs : List (Nat × ByteArray)) : List (Nat × ByteArray) := cs.flatMap fun c => parts (1 + 4 * c.1) c.2
def ownW (n : Nat) (cs : List (Nat × ByteArray)) : List (Nat × ByteArray) := cs.flatMap fun c => parts (1 + 4 * (n + c.1)) c.2
theorem flatW_len (f : Nat × ByteArray → List (Nat × ByteArray)) (hf : ∀ c, (f c).length = 4) : ∀ cs : List (Nat × ByteArray), (cs.flatMap f).length = 4 * cs.length
  | [] => rfl
  | c :: cs => by rw [List.flatMap_cons, List.length_append, hf, flatW_len f hf cs, List.length_cons]; omega
theorem layAll_log (J : JAt h jb db S n D) {la : Option Addr} {lc : Nat} {cs : List (Nat × ByteArray)} (R : RowAt wrC 2 h la cs) (hla : ∀ c, blkOf la c → ¬ S c) (hc : ∀ c ∈ cs, c.1 < n ∧ c.2.size = 1024) (hcl : cs.length ≤ 128) (hw : D.ws.length ≤ 2048)
    (hK : ∀ h' S', JAt h' jb db S' n (wrs D (logW cs)).1 → Step S h S' h' → K (.int .i64 (wrs D (logW cs)).2) h') :
    CallsH Try.prog journal_Journal_layAll.id #[.pointer (some ⟨jb, 0, none⟩), .slice la cs.length lc, .func (.func 59) #[] #[]] h K := by
  apply journal_Journal_layAll_2f59.calls
  unfold journal_Journal_layAll_2f59.W
  have hn2 := J.n2
  have hln := J.len
  refine ⟨fun i x m => ∃ (j : Nat) (S' : Nat → Prop), i = (j : Int) ∧ j ≤ cs.length ∧ m = cs.length - j ∧ JAt x jb db S' n (wrs D (logW (cs.take j))).1 ∧ Step S h S' x ∧ (wrs D (logW (cs.take j))).2 = 0, ⟨_, 0, S, rfl, Nat.zero_le _, rfl, J, Step.refl _ _, rfl⟩, ?_⟩
  rintro i x m ⟨j, S', rfl, hj, rfl, Jx, st, e0⟩
  refine split_dec (fun g => ?_) fun g => ?_
  · have g : j < cs.length := by have : (j : Int) < (cs.length : Int) := g; omega
    have hq : cs[j]? = some cs[j] := List.getElem?_eq_getElem g
    have hcj := hc cs[j] (List.getElem_mem g)
    have hdr : cs = cs.take (j + 1) ++ cs.drop (j + 1) := (List.take_append_drop _ _).symm
    generalize cs[j] = c at hq hcj
    obtain ⟨b, o, ea, hcell⟩ := (R.keep st.1 hla).get wrC_len (by decide) hq
    have ht : logW (cs.take (j + 1)) = logW (cs.take j) ++ parts (1 + 4 * c.1) c.2 := by
      unfold logW
      rw [List.take_add_one, hq, List.flatMap_append]; simp
    have hw1 : wrs D (logW (cs.take (j + 1))) = wrs (wrs D (logW (cs.take j))).1 (parts (1 + 4 * c.1) c.2) := by rw [ht, wrs_append, if_pos e0]
    have hl := wrs_l (logW (cs.take j)) D
    have hws := wrs_ws (logW (cs.take j)) D
    have hpl : (logW (cs.take j)).length = 4 * j := by
      unfold logW
      rw [flatW_len _ (fun c => parts_len _ _), List.length_take]; omega
    have e1 : IntKind.i64.wrap (1 + IntKind.i64.wrap (4 * (c.1 : Int))) = ((1 + 4 * c.1 : Nat) : Int) := by
      rw [wid (x := 4 * (c.1 : Int)) (by omega) (by omega), wid (by omega) (by omega)]; omega
    refine ⟨by omega, by show (j : Int) < (cs.length : Int); omega, b, o, ea, _, hcell 0 _ rfl, _, hcell 1 _ rfl, journal_Journal_Commit_2.calls _ ⟨_, rfl, Sub.refl _, ?_⟩⟩
    rw [e1]
    refine lay_spec Jx (by rw [hl]; omega) c.2 hcj.2 (by omega) fun h' S2 J2 st2 => ⟨_, rfl, ?_⟩
    rw [← hw1] at J2 ⊢
    refine split_ne (fun e => ?_) fun e => ⟨cs.length - (j + 1), by omega, j + 1, S2, by rw [wid (by omega) (by omega)]; omega, by omega, rfl, J2, st.trans st2, e⟩
    have e' : wrs D (logW cs) = wrs D (logW (cs.take (j + 1))) := by
      have e2 : logW cs = logW (cs.take (j + 1)) ++ logW (cs.drop (j + 1)) := by
        conv => lhs; rw [hdr]
        unfold logW; rw [List.flatMap_append]
      rw [e2, wrs_append, if_neg e]
    have := hK h' S2
    rw [e'] at this
    exact this J2 (st.trans st2)
  · have : j = cs.length := by
      have : ¬ (j : Int) < (cs.length : Int) := g
      omega
    subst this
    rw [List.take_length] at Jx e0
    have := hK x S' Jx st
    rw [e0] at this
    exact this
theorem layAll_own (J : JAt h jb db S n D) {la : Option Addr} {lc : Nat} {cs : List (Nat × ByteArray)} (R : RowAt wrC 2 h la cs) (hla : ∀ c, blkOf la c → ¬ S c) (hc : ∀ c ∈ cs, c.1 < n ∧ c.2.size = 1024) (hcl : cs.length ≤ 128) (hw : D.ws.length ≤ 2048)
    (hK : ∀ h' S', JAt h' jb db S' n (wrs D (ownW n cs)).1 → Step S h S' h' → K (.int .i64 (wrs D (ownW n cs)).2) h') :
    CallsH Try.prog journal_Journal_layAll.id #[.pointer (some ⟨jb, 0, none⟩), .slice la cs.length lc, .func (.func 61) #[.pointer (some ⟨jb, 0, none⟩)] #[]] h K := by
  apply journal_Journal_layAll_2m61.calls
  unfold journal_Journal_layAll_2m61.W
  have hn2 := J.n2
  have hln := J.len
  refine ⟨fun i x m => ∃ (j : Nat) (S' : Nat → Prop), i = (j : Int) ∧ j ≤ cs.length ∧ m = cs.length - j ∧ JAt x jb db S' n (wrs D (ownW n (cs.take j))).1 ∧ Step S h S' x ∧ (wrs D (ownW n (cs.take j))).2 = 0, ⟨_, 0, S, rfl, Nat.zero_le _, rfl, J, Step.refl _ _, rfl⟩, ?_⟩
  rintro i x m ⟨j, S', rfl, hj, rfl, Jx, st, e0⟩
  refine split_dec (fun g => ?_) fun g => ?_
  · have g : j < cs.length := by have : (j : Int) < (cs.length : Int) := g; omega
    have hq : cs[j]? = some cs[j] := List.getElem?_eq_getElem g
    have hcj := hc cs[j] (List.getElem_mem g)
    have hdr : cs = cs.take (j + 1) ++ cs.drop (j + 1) := (List.take_append_drop _ _).symm
    generalize cs[j] = c at hq hcj
    obtain ⟨b, o, ea, hcell⟩ := (R.keep st.1 hla).get wrC_len (by decide) hq
    have ht : ownW n (cs.take (j + 1)) = ownW n (cs.take j) ++ parts (1 + 4 * (n + c.1)) c.2 := by
      unfold ownW
      rw [List.take_add_one, hq, List.flatMap_append]; simp
    have hw1 : wrs D (ownW n (cs.take (j + 1))) = wrs (wrs D (ownW n (cs.take j))).1 (parts (1 + 4 * (n + c.1)) c.2) := by rw [ht, wrs_append, if_pos e0]
    have hl := wrs_l (ownW n (cs.take j)) D
    have hws := wrs_ws (ownW n (cs.take j)) D
    have hpl : (ownW n (cs.take j)).length = 4 * j := by
      unfold ownW
      rw [flatW_len _ (fun c => parts_len _ _), List.length_take]; omega
    refine ⟨by omega, by show (j : Int) < (cs.length : Int); omega, b, o, ea, _, hcell 0 _ rfl, _, hcell 1 _ rfl, jown_spec Jx c.1 (by omega) ⟨_, rfl, Sub.refl _, ?_⟩⟩
    refine lay_spec Jx (by rw [hl]; omega) c.2 hcj.2 (by omega) fun h' S2 J2 st2 => ⟨_, rfl, ?_⟩
    rw [← hw1] at J2 ⊢
    refine split_ne (fun e => ?_) fun e => ⟨cs.length - (j + 1), by omega, j + 1, S2, by rw [wid (by omega) (by omega)]; omega, by omega, rfl, J2, st.trans st2, e⟩
    have e' : wrs D (ownW n cs) = wrs D (ownW n (cs.take (j + 1))) := by
      have e2 : ownW n cs = ownW n (cs.take (j + 1)) ++ ownW n (cs.drop (j + 1)) := by
        conv => lhs; rw [hdr]
        unfold ownW; rw [List.flatMap_append]
      rw [e2, wrs_append, if_neg e]
    have := hK h' S2
    rw [e'] at this
    exact this J2 (st.trans st2)
  · have : j = cs.length := by
      have : ¬ (j : Int) < (cs.length : Int) := g
      omega
    subst this
    rw [List.take_length] at Jx e0
    have := hK x S' Jx st
    rw [e0] at this
    exact this
end Go.Proofs.Ytagglohkipioiaa
