/- ClockTells: the statement. -/
import Derived.Test.YtjcenhgfonhidaaClockF
import Derived.Test.YtjcenhgfonhidaaTlT
import Derived.Test.YtjcenhgfonhidaaRows
import Derived.ProofKit
namespace Go.Proofs.Ytjcenhgfonhidaa
open Go Go.Tl Go.RowKit Go.ChangeShapes Go.WideShapes Go.ChangeAt

theorem own : ownKnob Try.prog.godebug = none := by kernel_rfl
theorem laidOut : laidOutB Try.prog = true := by kernel_rfl

theorem rep_ints {W : World} {k k' : IntKind} {a b : Int} : Rep (wholeM W) [] (.agg [.int k a, .int k' b]) (.agg #[.int k a, .int k' b]) :=
  repL_agg.2 ⟨rfl, fun i x v hx hv => by
    match i with
    | 0 => cases hx; cases hv; exact .int _ _
    | 1 => cases hx; cases hv; exact .int _ _
    | i + 2 => cases hx⟩

/-- A clock that was handed over. -/
theorem open_clock {H : Type} {enc : TypeId × Value → H} {W : World} {base : Nat} {v : Value} {d : DataW H} {ps : List MemPlace} (hv : Value.okWide Try.prog W .any base 24 v) (hd : DataW.Trod enc Try.prog W 0 (fun _ => true) true 24 v d ps) :
    ∃ n l, v = .agg #[.int .u64 n, .int .u64 l] ∧ (0 ≤ n ∧ n < 18446744073709551616) ∧ (0 ≤ l ∧ l < 18446744073709551616) := by
  obtain ⟨cs, rfl, hsz⟩ := okWide_struct Try.underlying24 hv
  obtain ⟨fuel, hf⟩ := hd
  obtain ⟨y0, y1, m, _, hl, h0, h1⟩ := trod_struct2 Try.underlying24 hf
  have hc : Try.prog.cellsOf 22 = 1 := by kernel_rfl
  have hc2 : Try.prog.cellsOf 24 = 2 := by kernel_rfl
  obtain ⟨n, e0, _, w0⟩ := DataW.trod_int Try.underlying22 h0
  obtain ⟨l, e1, _, w1⟩ := DataW.trod_int Try.underlying22 h1
  rw [hc2] at hsz
  obtain ⟨cs⟩ := cs
  match cs, hsz with
  | [x, y], _ =>
    simp [Value.cells, hc] at e0 e1
    subst e0; subst e1
    simp [Lit.wf, IntKind.min, IntKind.max, IntKind.signed, IntKind.bits] at w0 w1
    exact ⟨n, l, rfl, by omega, by omega⟩

set_option maxRecDepth 100000 in
theorem lifted6 (os : Os) (started : os.Started) (H : Type) (enc : TypeId × Value → H) :
    ReturnsInHanded {} Try.checked os 6 .any (Rows.clockTellsSpec.pre6 enc Try.prog Try.f6 Rows.clockTellsRow.domain false) (Rows.clockTellsSpec.post enc Try.prog Try.f6 false true false false) := by
  refine returnsInHanded_of_change (C := Try.checked) own started (by kernel_rfl) Try.func6
    (ChangeSpec.witness6 (enc := enc) (C := Try.checked) false ⟨#[], #[.agg #[.int .u64 0, .int .u64 0], .int .i64 0], []⟩ 8 (by kernel_rfl) (by kernel_rfl) (by kernel_rfl) (by kernel_rfl)) ?_
  intro W base args ds gs before hval0 hW hcnd _
  have hval : ∀ (j : Nat) t v, Try.f6.params[j]? = some t → args[j]? = some v → Value.okWide Try.prog W .any base t v := hval0
  have hW' := hW
  obtain ⟨p, q, hA0, hV, rfl, hfz, hnd⟩ := hW
  have hA : DataW.TrodAll enc Try.prog W 0 (fun _ => true) true Try.f6.params.toList args.toList ds p := hA0
  rw [Try.params6] at hA hval
  obtain ⟨v0, v1, d0, d1, p0, p1, rfl, rfl, rfl, h0, h1⟩ := trodAll_two hA
  obtain ⟨n, l, rfl, hn, hl⟩ := open_clock (hval 0 24 v0 rfl rfl) h0
  obtain ⟨b, rfl, _, _, wb⟩ := open_int Try.underlying2 (hval 1 2 v1 rfl rfl) h1
  have hb : -9223372036854775808 ≤ b ∧ b < 9223372036854775808 := by
    simp [Lit.wf, IntKind.min, IntKind.max, IntKind.signed, IntKind.bits] at wb
    omega
  have hrep : RepL (wholeM W) [] [.agg [.int .u64 n, .int .u64 l], .int .i64 b] #[.agg #[.int .u64 n, .int .u64 l], .int .i64 b] := ⟨rfl, fun i x v hx hv => by
    match i with
    | 0 => cases hx; cases hv; exact rep_ints
    | 1 => cases hx; cases hv; exact .int _ _
    | i + 2 => cases hx⟩
  refine ((c6 n l b hn hl hb).calls (fun _ => rfl) hrep).mono fun e W' ⟨he, hw⟩ => ?_
  subst he
  exact ⟨_, rfl, post_true laidOut (by kernel_rfl) rfl Try.underlying4 rfl (by obtain ⟨rfl, rfl⟩ := trodVars_none hV; rfl) hW' hw⟩

theorem ClockTells_holds : Rows.ClockTellsSaid :=
  OpenClaim.holds_of_wide 6 Try.f6 rfl rfl rfl rfl rfl rfl rfl ⟨rfl, rfl, rfl, rfl, rfl⟩ rfl rfl rfl rfl rfl (by kernel_rfl) Try.func6 (by kernel_rfl)
    (of_decide_eq_true (by kernel_rfl)) (by unfold Func.isWrapper; first | (rw [if_pos (by decide +kernel)]; kernel_rfl) | (rw [if_neg (by decide +kernel)]; exact ⟨rfl, rfl⟩))
    (fun os started H enc _ => lifted6 os started H enc)

end Go.Proofs.Ytjcenhgfonhidaa

