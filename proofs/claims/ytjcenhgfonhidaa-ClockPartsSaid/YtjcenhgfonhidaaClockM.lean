/- ClockParts: the statement. -/
import Derived.Test.YtjcenhgfonhidaaClockL
import Derived.Test.YtjcenhgfonhidaaTlU
import Derived.Test.YtjcenhgfonhidaaRows
import Derived.ProofKit
namespace Go.Proofs.Ytjcenhgfonhidaa
open Go Go.Tl Go.RowKit Go.ChangeShapes Go.WideShapes Go.ChangeAt
open Go.Proofs.Ytjcenhgfonhidaa

theorem own : ownKnob Try.prog.godebug = none := by kernel_rfl
theorem laidOut : laidOutB Try.prog = true := by kernel_rfl

theorem shape_clock {d : Nat} {cs : List AV} (h : Shape Try.prog (d + 2) 24 cs) : ∃ n l, cs = [.int .u64 n, .int .u64 l] ∧ (0 ≤ n ∧ n < 18446744073709551616) ∧ (0 ≤ l ∧ l < 18446744073709551616) := by
  have hc : Try.prog.cellsOf 22 = 1 := by kernel_rfl
  have hc2 : Try.prog.cellsOf 24 = 2 := by kernel_rfl
  unfold Shape at h
  simp only [Try.underlying24] at h
  obtain ⟨hl, hf⟩ := h
  rw [hc2] at hl
  match cs, hl with
  | [x, y], _ =>
    have h0 := hf _ (List.mem_cons_self ..)
    have h1 := hf _ (List.mem_cons_of_mem _ (List.mem_cons_self ..))
    simp only [hc] at h0 h1
    unfold Shape at h0 h1
    simp only [Try.underlying22] at h0 h1
    obtain ⟨n, e0, w0⟩ := h0
    obtain ⟨l, e1, w1⟩ := h1
    simp at e0 e1
    subst e0; subst e1
    simp [Lit.wf, IntKind.min, IntKind.max, IntKind.signed, IntKind.bits] at w0 w1
    exact ⟨n, l, rfl, by omega, by omega⟩

set_option maxRecDepth 100000 in
theorem lifted5 (os : Os) (started : os.Started) (H : Type) (enc : TypeId × Value → H) :
    ReturnsInHanded {} Try.checked os 5 .any (Rows.clockPartsSpec.pre6 enc Try.prog Try.f5 Rows.clockPartsRow.domain false) (Rows.clockPartsSpec.post enc Try.prog Try.f5 false true false false) := by
  refine returnsInHanded_of_change (C := Try.checked) own started (by kernel_rfl) Try.func5
    (ChangeSpec.witness6 (enc := enc) (C := Try.checked) false ⟨#[], #[.agg #[.int .u64 0, .int .u64 0], .slice none 0 0, .slice none 0 0], []⟩ 8 (by kernel_rfl) (by kernel_rfl) (by kernel_rfl) (by kernel_rfl)) ?_
  intro W base args ds gs before hval0 hW hcnd _
  have hval : ∀ (j : Nat) t v, Try.f5.params.toList[j]? = some t → args.toList[j]? = some v → Value.okWide Try.prog W .any base t v := fun j t v h1 h2 => hval0 j t v (by simpa using h1) (by simpa using h2)
  have hW' := hW
  obtain ⟨p, q, hA0, hV, rfl, hfz, hnd⟩ := hW
  have hA : DataW.TrodAll enc Try.prog W 0 (fun _ => true) true Try.f5.params.toList args.toList ds p := hA0
  obtain ⟨xs, hrep, hsh⟩ := open_args (d := 4) hval hA (by kernel_rfl)
  rw [Try.params5] at hsh
  have hrun : PureN G 5 xs (.bool true) := by
    match xs, hsh with
    | [x0, x1, x2], hsh =>
      obtain ⟨h0, h1, h2, _⟩ := hsh
      unfold ArgShape at h0 h1 h2
      simp only [Try.underlying24, Try.underlying25] at h0 h1 h2
      obtain ⟨cs, rfl, h0⟩ := h0
      obtain ⟨n, l, rfl, hn, hl⟩ := shape_clock h0
      obtain ⟨x, ks, he, hx, hw, _⟩ := shape_ints Try.underlying25 Try.underlying2 (by kernel_rfl) h1
      cases he
      obtain ⟨y, bs, he, hy, hw2, _⟩ := shape_ints Try.underlying25 Try.underlying2 (by kernel_rfl) h2
      cases he
      have hks : ∀ b ∈ ks, -9223372036854775808 ≤ b ∧ b < 9223372036854775808 := fun b hb => by
        have := hw b hb
        simp [Lit.wf, IntKind.min, IntKind.max, IntKind.signed, IntKind.bits] at this
        omega
      have hbs : ∀ b ∈ bs, -9223372036854775808 ≤ b ∧ b < 9223372036854775808 := fun b hb => by
        have := hw2 b hb
        simp [Lit.wf, IntKind.min, IntKind.max, IntKind.signed, IntKind.bits] at this
        omega
      exact c5 hx hy hks hbs n l hn hl
  have hrep' : RepL (wholeM W) [] xs args := by simpa using hrep
  refine (hrun.calls (fun _ => rfl) hrep').mono fun e W' ⟨he, hw⟩ => ?_
  subst he
  exact ⟨_, rfl, post_true laidOut (by kernel_rfl) rfl Try.underlying4 rfl (by
    obtain ⟨rfl, rfl⟩ := trodVars_none hV
    have hl := trodAll_len hA
    rw [Try.params5] at hl
    match ds, hl with
    | [d0, d1, d2], _ => rfl) hW' hw⟩

theorem ClockParts_holds : Rows.ClockPartsSaid :=
  OpenClaim.holds_of_wide 5 Try.f5 rfl rfl rfl rfl rfl rfl rfl ⟨rfl, rfl, rfl, rfl, rfl⟩ rfl rfl rfl rfl rfl (by kernel_rfl) Try.func5 (by kernel_rfl)
    (of_decide_eq_true (by kernel_rfl)) (by unfold Func.isWrapper; first | (rw [if_pos (by decide +kernel)]; kernel_rfl) | (rw [if_neg (by decide +kernel)]; exact ⟨rfl, rfl⟩))
    (fun os started H enc _ => lifted5 os started H enc)

end Go.Proofs.Ytjcenhgfonhidaa

