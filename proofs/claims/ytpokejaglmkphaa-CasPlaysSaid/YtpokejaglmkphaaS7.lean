/- The digest of a state of package sha, and of some bytes. Conditions: the bytes lie in memory as they are named; fewer than 2^44. -/
import Derived.Test.YtpokejaglmkphaaS6
namespace Go.Proofs.Ytpokejaglmkphaa
open Go.Gx
set_option maxRecDepth 100000

theorem word_cells (w : BitVec 32) : [Value.int IntKind.u8 (IntKind.u8.wrap (ishr IntKind.u32 (u32 w) 24)), Value.int IntKind.u8 (IntKind.u8.wrap (ishr IntKind.u32 (u32 w) 16)), Value.int IntKind.u8 (IntKind.u8.wrap (ishr IntKind.u32 (u32 w) 8)), Value.int IntKind.u8 (IntKind.u8.wrap (u32 w))] = cells8 (word4 w) := by
  have e : ∀ q : Nat, ((UInt8.ofNat q).toNat : Int) = ((q % 256 : Nat) : Int) := u8_ofNat
  have s : ∀ k : Int, 0 ≤ k → k ≤ 32 → IntKind.u8.wrap (ishr IntKind.u32 (u32 w) k) = ((w.toNat / 2 ^ k.toNat % 256 : Nat) : Int) := by
    intro k h0 h1
    rw [u32_shr _ _ h0 h1, wrap8]
    unfold u32
    rw [BitVec.toNat_ushiftRight, Nat.shiftRight_eq_div_pow]; omega
  rw [s 24 (by decide) (by decide), s 16 (by decide) (by decide), s 8 (by decide) (by decide)]
  have s0 : IntKind.u8.wrap (u32 w) = ((w.toNat % 256 : Nat) : Int) := by rw [wrap8]; unfold u32; omega
  rw [s0]
  unfold word4 cells8
  simp only [List.map_cons, List.map_nil, e]
  rfl
theorem sum_spec {h : Hp} {hb : Nat} {m : List UInt8} {a : Option Addr} {l c : Nat} (H : Blk h hb tHash (hashC (stF m).list a l c (m.length : Nat))) (ho : Own h tB 1 a l c (cells8 (rsF m))) (hm : m.length < 1152921504606846976)
    {K : Value → Hp → Prop} (hK : ∀ h', Sub h h' → K (.string ⟨(dg m).toArray⟩) h') : CallsH Try.prog sha_Hash_Sum.id #[.pointer (some ⟨hb, 0, none⟩)] h K := by
  have hl : l = m.length % 64 := by
    have := ho.1
    rw [cells8_length, rsF_length] at this; omega
  have hrl := rsF_length m
  apply sha_Hash_Sum.calls
  unfold sha_Hash_Sum.W
  refine ⟨_, _, _, H.cell' (0 + 72) (hashC_r rfl _ _ _ _).1, _, H.cell' (0 + 73) (hashC_r rfl _ _ _ _).2, fun k5 hk5 => ⟨Sub.upd hk5 _, cells8 (rsF m), by simpa using ho.slice.sub (Sub.upd hk5 _), ?_⟩⟩
  have hO1 : Own (h.upd k5 (Obj.cells #[] 5 (0, 0))) tB 1 (some ⟨k5, 0, none⟩) 0 0 [] := ⟨rfl, Nat.le_refl _, .inr ⟨k5, [], rfl, Blk.new _ _ _ [], rfl⟩⟩
  refine ⟨fun a' c' x => Sub h x ∧ (∀ b, blkOf a' b → h b = none) ∧ Own x tB 1 a' (0 + l) c' ([] ++ cells8 (rsF m)), ?_, append_new appT8 (Sub.upd hk5 _) (by rintro b ⟨o, s, e⟩; cases e; exact hk5) hO1 (by rw [cells8_length]; omega) (cells8_plain _) (by omega) fun a' c' x g1 g2 g3 => ⟨g1, g2, g3⟩⟩
  rintro a1 c1 x1 ⟨hs1, hf1, ho1⟩
  refine ⟨hs1, pad_spec m.length hm fun x2 pa pl pc hs2 hf2 ho2 => ⟨_, _, _, rfl, cells8 (padB m.length), by simpa using ho2.slice, ?_⟩⟩
  have hpl : pl = (padB m.length).length := by
    have := ho2.1
    rw [cells8_length] at this; omega
  have hpl2 := padB_length m.length
  have hpz : padZ m.length < 64 := by unfold padZ; omega
  refine ⟨fun a' c' x => Sub h x ∧ (∀ b, blkOf a' b → h b = none) ∧ Own x tB 1 a' (0 + l + pl) c' ([] ++ cells8 (rsF m) ++ cells8 (padB m.length)), ?_, append_new appT8 (hs1.trans hs2) hf1 (ho1.sub hs2) (by rw [cells8_length]; omega) (cells8_plain _) (by omega) fun a' c' x g1 g2 g3 => ⟨g1, g2, g3⟩⟩
  rintro a2 c2 x3 ⟨hs3, hf3, ho3⟩
  have hall : ([] ++ cells8 (rsF m) ++ cells8 (padB m.length)) = cells8 (rsF m ++ padB m.length) := by rw [cells8_append]; rfl
  rw [hall] at ho3
  have hdiv : (rsF m ++ padB m.length).length % 64 = 0 := by
    have := padB_all m.length
    rw [List.length_append, hrl]; omega
  have hlen : (rsF m ++ padB m.length).length = 0 + l + pl := by rw [List.length_append]; omega
  generalize hA : rsF m ++ padB m.length = all at *
  have hB3 := H.sub hs3
  have hcel : ∀ j, j < 8 → x3.cell hb (64 + j) = some (.int .u32 (u32 ((stF m).list.getD j 0))) := fun j hj => hB3.cell' _ (hashC_s rfl _ _ _ _ j hj)
  refine ⟨u32 (stF m).a, hcel 0 (by decide), u32 (stF m).b, hcel 1 (by decide), u32 (stF m).c, hcel 2 (by decide), u32 (stF m).d, hcel 3 (by decide), u32 (stF m).e, hcel 4 (by decide), u32 (stF m).f, hcel 5 (by decide), u32 (stF m).g, hcel 6 (by decide), u32 (stF m).h, hcel 7 (by decide), ?_⟩
  refine ⟨fun n a b c d e f g hh x m' => ∃ j : Nat, n = ((64 * j : Nat) : Int) ∧ 64 * j ≤ all.length ∧ m' = all.length - 64 * j ∧ Sub x3 x ∧ ∃ z : S8, z = blocksN (stF m) all j ∧ a = u32 z.a ∧ b = u32 z.b ∧ c = u32 z.c ∧ d = u32 z.d ∧ e = u32 z.e ∧ f = u32 z.f ∧ g = u32 z.g ∧ hh = u32 z.h,
    ⟨all.length, 0, rfl, by omega, rfl, Sub.refl _, stF m, rfl, rfl, rfl, rfl, rfl, rfl, rfl, rfl, rfl⟩, ?_⟩
  rintro n _ _ _ _ _ _ _ _ x m' ⟨j, rfl, hj, rfl, hsx, z, hz, rfl, rfl, rfl, rfl, rfl, rfl, rfl, rfl⟩
  have w1 : IntKind.i64.wrap (((64 * j : Nat) : Int) + 64) = ((64 * (j + 1) : Nat) : Int) := by rw [wid (by omega) (by omega)]; omega
  refine split_dec (fun h1 => ?_) (fun h1 => ?_)
  · have h1 : 64 * j < all.length := by
      have : ((64 * j : Nat) : Int) < ((0 + l + pl : Nat) : Int) := h1
      omega
    have hj2 : 64 * (j + 1) ≤ all.length := by omega
    have hc2 := ho3.2.1
    rw [w1]
    have ht : ((64 * (j + 1) : Nat) : Int).toNat = 64 * (j + 1) := rfl
    have ht2 : ((64 * j : Nat) : Int).toNat = 64 * j := rfl
    rw [ht, ht2, show 64 * (j + 1) - 64 * j = 64 by omega]
    refine ⟨by omega, by show ((64 * (j + 1) : Nat) : Int) ≤ ((c2 : Nat) : Int); omega, by omega, by show ((64 * j : Nat) : Int) ≤ ((64 * (j + 1) : Nat) : Int); omega, ?_⟩
    have hsl : SliceAt x (slA c2 (64 * j) 1 a2) 64 (cells8 ((all.drop (64 * j)).take 64)) := by
      have := (ho3.slice.sub hsx).part (m := c2) (l := 64 * j) (k := 64) (sz := 1) (by omega) (by omega)
      rw [Nat.mul_one] at this
      have e : cells8 ((all.drop (64 * j)).take 64) = ((cells8 all).drop (64 * j)).take 64 := by unfold cells8; rw [List.map_take, List.map_drop]
      rw [e]; exact this
    refine mix_spec (s := z) (block := (all.drop (64 * j)).take 64) kW_length (by simp; omega) (by omega) ((hB3.sub hsx).cellsAt fun i hi => by rw [Nat.zero_add]; exact hashC_k _ _ _ _ _ (by rw [bigV_length, wI_length, kW_length] at hi; exact hi)) hsl fun x' hs' => ?_
    exact ⟨_, _, _, _, _, _, _, _, rfl, all.length - 64 * (j + 1), by omega, j + 1, rfl, hj2, rfl, hsx.trans hs', mixF kW z ((all.drop (64 * j)).take 64), by rw [hz]; rfl, rfl, rfl, rfl, rfl, rfl, rfl, rfl, rfl⟩
  · have hj : 64 * j = all.length := by
      have : ¬ ((64 * j : Nat) : Int) < ((0 + l + pl : Nat) : Int) := h1
      omega
    have hze : z = endF m := by
      rw [hz]; unfold endF
      rw [hA]; congr 1; omega
    have hsh : Sub h x := hs3.trans hsx
    refine ⟨fun a l c i y m' => ∃ t : Nat, i = (t : Int) ∧ t ≤ 8 ∧ l = 4 * t ∧ m' = 8 - t ∧ Sub h y ∧ (∀ b, blkOf a b → h b = none) ∧ Own y tB 1 a l c (cells8 ((z.list.take t).flatMap word4)), ⟨8, 0, rfl, by omega, rfl, rfl, hsh, (by rintro b ⟨o, s, e⟩; cases e), Own.nil _ _ _⟩, ?_⟩
    rintro a l c i y m' ⟨t, rfl, ht, rfl, rfl, hsy, hfy, hoy⟩
    refine split_dec (fun h2 => ?_) (fun h2 => ?_)
    · have ht8 : t < 8 := by omega
      have z1 : (bigV .u32 (wI z.list))[((t : Nat) : Int).toNat * 1]? = some (.int .u32 (u32 (z.list.getD t 0))) := by
        rw [show ((t : Nat) : Int).toNat * 1 = t by omega, bigV_get, wI_get, getD_get ht8]; rfl
      refine ⟨by omega, by omega, _, z1, by decide, by decide, by decide, fun k hk => ?_⟩
      refine ⟨cells8 (word4 (z.list.getD t 0)), ?_, fun a' c' h' => Sub h h' ∧ (∀ b, blkOf a' b → h b = none) ∧ Own h' tB 1 a' (4 * t + 4) c' (cells8 ((z.list.take t).flatMap word4) ++ cells8 (word4 (z.list.getD t 0))), ?_, ?_⟩
      · rw [← word_cells]
        exact (Blk.new _ _ _ [_, _, _, _]).slice rfl
      · rintro a' c' h' ⟨g1, g2, g3⟩
        refine ⟨8 - (t + 1), by omega, t + 1, by rw [wid (by omega) (by omega)]; omega, by omega, by omega, rfl, g1, g2, ?_⟩
        rw [List.take_add_one, getD_get (l := z.list) ht8, List.flatMap_append, cells8_append]
        simpa using g3
      · exact append_new appT8 (hsy.trans (Sub.upd hk _)) hfy (hoy.sub (Sub.upd hk _)) rfl (cells8_plain _) (by omega) fun a' c' h' g1 g2 g3 => ⟨g1, g2, g3⟩
    · have ht : t = 8 := by omega
      subst ht
      have hoy : Own y tB 1 a (4 * 8) c (cells8 (z.list.flatMap word4)) := hoy
      refine ⟨⟨(dg m).toArray⟩, ?_, hK y hsy⟩
      have := hoy.slice
      rw [Nat.mul_one] at this
      rw [bytesV_cells]
      show SliceAt y a (4 * 8) (cells8 (dg m))
      unfold dg
      rw [← hze]; exact this
/-- sha.Sum: the digest of the bytes that a slice shows. -/
theorem shaSum_spec {h : Hp} {b : ByteArray} {ba : Option Addr} {bc : Nat} (hs : SliceAt h ba b.size (bytesV b)) (hc : b.size ≤ bc) (hin : ∀ c, blkOf ba c → h c ≠ none) (hn : b.size < 1152921504606846976)
    {K : Value → Hp → Prop} (hK : ∀ h', Sub h h' → K (.string (shaF b)) h') : CallsH Try.prog sha_Sum.id #[.slice ba b.size bc] h K := by
  apply sha_Sum.calls
  unfold sha_Sum.W
  have hlen : b.data.toList.length = b.size := by rw [Array.length_toList]; rfl
  refine new_spec fun h1 hb hs1 hn1 hB => ⟨_, rfl, ?_⟩
  rw [← hlen] at hc hs ⊢
  have ho : Own h1 tB 1 none 0 0 (cells8 (rsF [])) := Own.nil _ _ _
  refine write_spec (m := []) (bs := b.data.toList) (a := none) (l := 0) (c := 0) hB ho (hs.sub hs1) hc (fun c hc' => ⟨fun e => hin c hc' (hs1.none e), fun e => by rw [e] at hc'; exact hin hb hc' hn1, fun ⟨o, s, e⟩ => by cases e⟩) (by simp; omega) ?_
  intro h2 a' l' c' hk2 hd2 hB2 ho2 hnew
  refine ⟨rfl, sum_spec (m := [] ++ b.data.toList) hB2 ho2 (by simp; omega) fun h3 hs3 => ⟨_, rfl, hK h3 ?_⟩⟩
  refine Sub.trans ?_ hs3
  exact hk2.sub hs1 fun c hc' => by
    rcases hc' with hc' | ⟨o, s, e⟩
    · rw [hc']; exact hn1
    · cases e
end Go.Proofs.Ytpokejaglmkphaa
