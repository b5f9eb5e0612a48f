/- The ledger that is nil: LedgerNils over heaps. Conditions: none. -/
import Derived.Test.YtlklpdedppgkfaaL9
import Derived.Test.YtlklpdedppgkfaaFY
namespace Go.Proofs.Ytlklpdedppgkfaa
open Go.Gx
set_option maxRecDepth 100000
set_option linter.unusedVariables false
variable {h : Hp} {K : Value → Hp → Prop} {a : Option Addr} {c : Nat}
theorem nil_begun (hK : K (.tuple #[.agg #[.int .i64 0, .int .i64 0, .int .i64 0], .int .i64 1]) h) : CallsH Try.prog ledger_Ledger_begun.id #[.pointer none] h K := by
  apply ledger_Ledger_begun_n.calls
  exact hK
theorem nil_account (hK : K (.tuple #[.agg #[.int .i64 0, .int .i64 0, .int .i64 0], .bool false]) h) : CallsH Try.prog ledger_Ledger_account.id #[.pointer none] h K := by
  apply ledger_Ledger_account_n.calls
  exact hK
theorem nil_look (sum : ByteArray) (n : Int) (hK : K (.tuple #[.int .i64 0, .int .i64 0]) h) : CallsH Try.prog ledger_Ledger_look.id #[.pointer none, .agg #[.string sum, .int .i64 n]] h K := by
  apply ledger_Ledger_look_n.calls
  exact hK
theorem nil_create (q : Int) (hK : K (.int .i64 1) h) : CallsH Try.prog ledger_Ledger_Create.id #[.pointer none, .int .i64 q] h K := by
  apply ledger_Ledger_Create_n.calls
  exact hK
theorem nil_resize (q : Int) (hK : K (.int .i64 1) h) : CallsH Try.prog ledger_Ledger_Resize.id #[.pointer none, .int .i64 q] h K := by
  apply ledger_Ledger_Resize_n.calls
  exact nil_begun ⟨_, _, _, _, rfl, split_ne (fun _ => hK) fun e => absurd e (by decide)⟩
theorem nil_add (sum : ByteArray) (n size : Int) (hK : K (.int .i64 1) h) : CallsH Try.prog ledger_Ledger_Add.id #[.pointer none, .agg #[.string sum, .int .i64 n], .int .i64 size] h K := by
  apply ledger_Ledger_Add_n.calls
  exact nil_begun ⟨_, _, _, _, rfl, split_ne (fun _ => hK) fun e => absurd e (by decide)⟩
theorem nil_drop (sum : ByteArray) (n : Int) (hK : K (.int .i64 1) h) : CallsH Try.prog ledger_Ledger_Drop.id #[.pointer none, .agg #[.string sum, .int .i64 n]] h K := by
  apply ledger_Ledger_Drop_n.calls
  exact nil_begun ⟨_, _, _, _, rfl, split_ne (fun _ => hK) fun e => absurd e (by decide)⟩
theorem nil_record (n : Int) (hK : K (.int .i64 1) h) : CallsH Try.prog ledger_Ledger_Record.id #[.pointer none, .int .i64 n] h K := by
  apply ledger_Ledger_Record_n.calls
  exact nil_begun ⟨_, _, _, _, rfl, fun _ => False, fun x hx => hx.elim, split_ne (fun _ => hK) fun e => absurd e (by decide)⟩
theorem nil_exists (hK : K (.bool false) h) : CallsH Try.prog ledger_Ledger_Exists.id #[.pointer none] h K := by
  apply ledger_Ledger_Exists_n.calls
  exact nil_account ⟨_, _, _, _, rfl, hK⟩
theorem nil_quota (hK : K (.int .i64 0) h) : CallsH Try.prog ledger_Ledger_Quota.id #[.pointer none] h K := by
  apply ledger_Ledger_Quota_n.calls
  exact nil_account ⟨_, _, _, _, rfl, hK⟩
theorem nil_bytes (hK : K (.int .i64 0) h) : CallsH Try.prog ledger_Ledger_Bytes.id #[.pointer none] h K := by
  apply ledger_Ledger_Bytes_n.calls
  exact nil_account ⟨_, _, _, _, rfl, hK⟩
theorem nil_records (hK : K (.int .i64 0) h) : CallsH Try.prog ledger_Ledger_Records.id #[.pointer none] h K := by
  apply ledger_Ledger_Records_n.calls
  exact nil_account ⟨_, _, _, _, rfl, hK⟩
theorem nil_used (hK : K (.int .i64 0) h) : CallsH Try.prog ledger_Ledger_Used.id #[.pointer none] h K := by
  apply ledger_Ledger_Used_n.calls
  exact nil_account ⟨_, _, _, _, rfl, used_spec led0 led0_ok ⟨_, rfl, hK⟩⟩
theorem nil_count (sum : ByteArray) (n : Int) (hK : K (.int .i64 0) h) : CallsH Try.prog ledger_Ledger_Count.id #[.pointer none, .agg #[.string sum, .int .i64 n]] h K := by
  apply ledger_Ledger_Count_n.calls
  exact nil_look _ _ ⟨_, _, rfl, hK⟩
theorem nil_all (hK : K (.slice none 0 0) h) : CallsH Try.prog ledger_Ledger_All.id #[.pointer none] h K := by
  apply ledger_Ledger_All_n.calls
  exact hK
theorem nil_cost {rs : List Rh} (H : RowAt rhC 4 h a rs) (hl : rs.length ≤ 100) (hK : ∀ h', Sub h h' → K (.int .i64 0) h') :
    CallsH Try.prog ledger_Ledger_Cost.id #[.pointer none, .slice a rs.length c] h K := by
  apply ledger_Ledger_Cost_n.calls
  unfold ledger_Ledger_Cost_n.W
  intro k hk o ho
  refine ⟨fun n i y m => n = 0 ∧ ∃ (j : Nat) (o : Obj) (mm : List (Value × Value)), i = (j : Int) ∧ j ≤ rs.length ∧ m = rs.length - j ∧ Sub h y ∧ y k = some o ∧ MapObj Try.prog 38 o mm,
    ⟨_, rfl, 0, o, [], rfl, by omega, rfl, Sub.upd hk _, Hp.upd_same _ _ _, ho⟩, ?_⟩
  rintro n i y m ⟨rfl, j, o1, mm, rfl, hj, rfl, sy, hyk, M⟩
  refine split_dec (fun g => ?_) (fun g => hK y sy)
  have g : j < rs.length := by have : (j : Int) < (rs.length : Int) := g; omega
  have hr : rs[j]? = some rs[j] := List.getElem?_eq_getElem g
  generalize rs[j] = r at hr
  obtain ⟨b, p, ea, hcell⟩ := (H.sub sy).get rhC_len (by decide) hr
  refine ⟨by omega, by show (j : Int) < (rs.length : Int); omega, b, p, ea, _, hcell 0 _ rfl, _, hcell 1 _ rfl, _, hcell 2 _ rfl, _, hcell 3 _ rfl, k, o1, mm, rfl, hyk, M, fun o3 M3 => ⟨_, ?_, rfl, j + 1, o3, _, by rw [wid (by omega) (by omega)]; omega, by omega, rfl, sy.own hk o3, Hp.upd_same _ _ _, M3⟩⟩
  omega
theorem nil_cost1 {y : Hp} {k : Nat} (hk : y k = none) (sum : ByteArray) (n : Int) {z : Hp} (s : Sub (y.upd k (.cells #[.string sum, .int .i64 n, .int .i64 0, .int .i64 5] 55 (0, 0))) z) (hK : ∀ h', Sub z h' → K (.int .i64 0) h') :
    CallsH Try.prog ledger_Ledger_Cost.id #[.pointer none, .slice (some ⟨k, 0, none⟩) 1 1] z K := by
  have H : RowAt rhC 4 (y.upd k (.cells #[.string sum, .int .i64 n, .int .i64 0, .int .i64 5] 55 (0, 0))) (some ⟨k, 0, none⟩) [⟨sum, n, 0, 5⟩] := (Blk.new _ _ _ (rhC ⟨sum, n, 0, 5⟩)).slice rfl
  exact nil_cost (rs := [⟨sum, n, 0, 5⟩]) (H.sub s) (by show 1 ≤ 100; decide) hK
theorem nils_core (tenant o0 o1 o2 : Int) (o3 : ByteArray) (o4 : Int) :
    CallsH Try.prog 8 #[.int .i64 tenant, .agg #[.int .i64 o0, .int .i64 o1, .int .i64 o2, .string o3, .int .i64 o4]] h fun v h' => v = .bool true ∧ Sub h h' := by
  apply law22_LedgerNils.calls
  unfold law22_LedgerNils.W
  refine light_spec ⟨o0, o1, o2, o3, o4⟩ ⟨_, rfl, split_not (fun _ => live_ok (Sub.refl _)) fun _ => ?_⟩
  apply ledger_Open_z.calls
  have wz : IntKind.i64.wrap 0 = 0 := by decide
  refine ⟨_, _, rfl, split_cond (fun _ => split_eq (fun _ => ?_) fun e => absurd rfl e) fun e => by cases e⟩
  refine nil_create _ ⟨_, rfl, Sub.refl _, split_eq (fun _ => ?_) fun e => absurd rfl e⟩
  refine nil_resize _ ⟨_, rfl, Sub.refl _, split_eq (fun _ => ?_) fun e => absurd rfl e⟩
  refine nil_add _ _ _ ⟨_, rfl, Sub.refl _, split_eq (fun _ => ?_) fun e => absurd rfl e⟩
  refine nil_drop _ _ ⟨_, rfl, Sub.refl _, split_eq (fun _ => ?_) fun e => absurd rfl e⟩
  refine nil_record _ ⟨_, rfl, Sub.refl _, split_eq (fun _ => ?_) fun e => absurd rfl e⟩
  refine nil_exists ⟨_, rfl, Sub.refl _, split_not (fun _ => ?_) fun e => absurd e (by decide)⟩
  repeat' first
    | exact Sub.refl _
    | exact Sub.upd (by assumption) _
    | refine nil_quota ⟨_, rfl, ?_⟩
    | refine nil_bytes ⟨_, rfl, ?_⟩
    | refine nil_records ⟨_, rfl, ?_⟩
    | refine nil_used ⟨_, rfl, ?_⟩
    | refine nil_count _ _ ⟨_, rfl, ?_⟩
    | exact nil_cost1 (by assumption) _ _ (Sub.refl _) fun z s => ⟨_, rfl, nil_all ⟨_, _, _, rfl, split_eq (fun _ => live_ok ((Sub.upd (by assumption) _).trans s)) fun e => absurd (by decide) e⟩⟩
    | refine And.intro ?_ ?_
    | intro k hk
end Go.Proofs.Ytlklpdedppgkfaa
