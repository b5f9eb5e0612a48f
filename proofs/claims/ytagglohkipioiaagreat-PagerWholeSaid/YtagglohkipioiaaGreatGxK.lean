/- Plain laws of maps as lists of entries. Conditions: those that each lemma names. -/
import Derived.Test.YtagglohkipioiaaGreatGxR
namespace Go.Gx
theorem mget_mset (m : List (Value × Value)) (k v k' : Value) : (k' = k → mget (mset m k v) k' = some v) ∧ (k' ≠ k → mget (mset m k v) k' = mget m k') := by
  unfold mset
  cases h : mget m k with
  | some u =>
    simp only []
    constructor
    · rintro rfl
      unfold mget at h ⊢
      induction m with
      | nil => simp at h
      | cons e m ih =>
        rw [List.map_cons]
        by_cases he : e.1 = k'
        · rw [if_pos he, List.find?_cons_of_pos (by simp)]; rfl
        · rw [if_neg he, List.find?_cons_of_neg (by simpa using he)]
          rw [List.find?_cons_of_neg (by simpa using he)] at h
          exact ih h
    · intro hn
      clear h
      unfold mget
      congr 1
      have : ∀ m : List (Value × Value), (m.map fun e => @ite _ (e.1 = k) (Classical.propDecidable _) (k, v) e).find? (fun e => @decide (e.1 = k') (Classical.propDecidable _)) = m.find? (fun e => @decide (e.1 = k') (Classical.propDecidable _)) := by
        intro m
        induction m with
        | nil => rfl
        | cons e m ih =>
          rw [List.map_cons]
          by_cases he : e.1 = k
          · rw [if_pos he, List.find?_cons_of_neg (by simpa using fun h => hn h.symm), List.find?_cons_of_neg (by simpa using fun h => hn (h.symm.trans he)), ih]
          · rw [if_neg he]
            by_cases hk : e.1 = k'
            · rw [List.find?_cons_of_pos (by simpa using hk), List.find?_cons_of_pos (by simpa using hk)]
            · rw [List.find?_cons_of_neg (by simpa using hk), List.find?_cons_of_neg (by simpa using hk), ih]
      rw [this]
  | none =>
    simp only []
    constructor
    · rintro rfl
      unfold mget at h ⊢
      rw [Option.map_eq_none_iff] at h
      rw [List.find?_append, h]
      simp
    · intro hn
      unfold mget
      rw [List.find?_append]
      have : [(k, v)].find? (fun e => @decide (e.1 = k') (Classical.propDecidable _)) = none := by
        rw [List.find?_cons_of_neg (by simpa using fun h => hn h.symm)]; rfl
      rw [this]; simp
theorem YieldH.mono {P : Program} {l : Nat} {args : List Value} {h : Hp} {Q Q' : Value → Hp → Prop} (H : YieldH P l args h Q) (hq : ∀ v h', Q v h' → Q' v h') : YieldH P l args h Q' := fun w hw =>
  let ⟨fn, t, a, b, h1, h2⟩ := H w hw
  ⟨fn, t, a, b, h1, RoundIn.mono h2 fun _ _ ⟨v, h', e, q, r, s⟩ => ⟨v, h', e, hq v h' q, r, s⟩⟩
theorem mget_nil (k : Value) : mget [] k = none := rfl
theorem Sub.own {h x : Hp} (s : Sub h x) {b : Nat} (hb : h b = Option.none) (o : Obj) : Sub h (x.upd b o) := fun c y e => by
  rw [Hp.upd_ne _ _ (fun e' => by rw [e', hb] at e; cases e)]
  exact s c y e
end Go.Gx
