/- More operations: slicing, append, arithmetic. -/
import Derived.Test.YtjcenhgfonhidaaTlD
namespace Go.Tl
open Go.RowKit

def lenOfA : AV → Option Nat
  | .nils | .es | .eu => some 0
  | .fs _ n => some n
  | .sl _ _ _ n _ => some n
  | _ => none

/-- Is the live value of its block's present generation? -/
def live (σ : Heap) (id g : Nat) : Bool := match σ[id]? with
  | some (.cells _ g') => g == g'
  | _ => false

theorem live_g {c : Cfg} {σ : Heap} (hs : Sim c σ) {id g : Nat} {e : Ent} (he : c.L[id]? = some e) (h : live σ id g = true) : g = e.g := by
  unfold live at h
  split at h
  · rename_i row g' hσ
    have := (hs.blk _ _ _ he hσ).1
    simp at h; omega
  · cases h

def slLive (σ : Heap) : AV → Bool
  | .sl id g _ _ _ => live σ id g
  | _ => true

/-- A slice's length: v = .slice a n cap. -/
theorem lenOf_rep {c : Cfg} {σ : Heap} (hs : Sim c σ) {x : AV} {v : Value} (hx : c.rep x v) {n : Nat} (h : lenOfA x = some n) (hl : slLive σ x = true) :
    ∃ a cap, v = .slice a n cap ∧ n ≤ cap := by
  cases x <;> simp only [lenOfA] at h <;> try (cases h; done)
  case nils => cases h; cases hx; exact ⟨_, _, rfl, Nat.le_refl _⟩
  case es => cases h; cases hx; exact ⟨_, _, rfl, Nat.le_refl _⟩
  case eu => cases h; cases hx; exact ⟨_, _, rfl, Nat.zero_le _⟩
  case fs => cases h; obtain ⟨b, o, cap, us, rfl, hle, _⟩ := rep_fs_inv hx; exact ⟨_, _, rfl, hle⟩
  case sl id g off len sz =>
    cases h
    obtain ⟨e, he, _, _, hv⟩ := rep_sl_inv hx
    obtain ⟨cap, rfl, h1, _⟩ := hv (live_g hs he hl)
    exact ⟨_, _, rfl, h1⟩

def intOr (d : Int) : Option AV → Option Int
  | none => some d
  | some (.int _ n) => some n
  | some _ => none

/-- x[lo:hi:mx] of a slice, within its length. -/
def sliceA (esz : Nat) (σ : Heap) (x : AV) (lo hi mx : Option AV) : Option AV :=
  match lenOfA x with
  | none => none
  | some n => match intOr 0 lo, intOr n hi, mx with
    | some l, some h, none =>
      if 0 ≤ l ∧ l ≤ h ∧ h ≤ n then match x with
        | .nils => some .nils
        | .es => some .es
        | .eu => some .eu
        | .fs row _ => if l = h then some .eu else some (.fs ((row.drop (l.toNat * esz)).take ((h - l).toNat * esz)) (h - l).toNat)
        | .sl id g off _ sz => if live σ id g = true ∧ sz = esz then (if l = 0 then some (.sl id g off h.toNat sz) else if l = h then some .eu else some (.sl id g (off + l.toNat * esz) (h - l).toNat sz)) else none
        | _ => none
      else none
    | some l, some h, some (.int _ m) =>
      if 0 ≤ l ∧ l = h ∧ m = h ∧ h ≤ n ∧ slLive σ x = true then match x with
        | .nils => some .nils
        | .es | .eu | .fs _ _ | .sl _ _ _ _ _ => some .es
        | _ => none
      else none
    | _, _, _ => none

theorem run_sliceBound {P : Program} (w : World) (k : IntKind) (i : Int) (y : Nat) (code : BoundsCode) (h0 : 0 ≤ i) (h1 : i ≤ y) : (Instr.sliceBound (.int k i) y code).run P w = .ok i.toNat w := by
  simp [Instr.sliceBound, asIntOf, h0, h1]

theorem intOr_inv {c : Cfg} {d : Int} {lo : Option AV} {vlo : Option Value} (hlo : ∀ x, lo = some x → ∃ v, vlo = some v ∧ c.rep x v) (hlo0 : lo = none → vlo = none) {l : Int} (hl : intOr d lo = some l) :
    (vlo = none ∧ l = d) ∨ ∃ k, vlo = some (.int k l) := by
  cases lo with
  | none => simp [intOr] at hl; exact .inl ⟨hlo0 rfl, hl.symm⟩
  | some x =>
    obtain ⟨v, rfl, hr⟩ := hlo x rfl
    cases x <;> simp [intOr] at hl
    subst hl; cases hr
    exact .inr ⟨_, rfl⟩

/-- The bounds as the model reckons them. -/
theorem run_bounds2 {P : Program} {c : Cfg} (n cap : Nat) (hn : n ≤ cap) {lo hi : Option AV} {vlo vhi : Option Value} (hlo : ∀ x, lo = some x → ∃ v, vlo = some v ∧ c.rep x v) (hlo0 : lo = none → vlo = none)
    (hhi : ∀ x, hi = some x → ∃ v, vhi = some v ∧ c.rep x v) (hhi0 : hi = none → vhi = none) {l h : Int} (hl : intOr 0 lo = some l) (hh : intOr n hi = some h) (h0 : 0 ≤ l) (h1 : l ≤ h) (h2 : h ≤ n) :
    (Instr.sliceBounds true n cap vlo vhi none).run P c.w = .ok (l.toNat, h.toNat, cap) c.w := by
  have s1 := fun k code => run_sliceBound (P := P) c.w k h cap code (by omega) (by omega)
  have s2 := fun k code => run_sliceBound (P := P) c.w k l h.toNat code (by omega) (by omega)
  have s3 := fun k code => run_sliceBound (P := P) c.w k l n code (by omega) (by omega)
  rcases intOr_inv hlo hlo0 hl with ⟨rfl, q1⟩ | ⟨k1, rfl⟩ <;> rcases intOr_inv hhi hhi0 hh with ⟨rfl, q2⟩ | ⟨k2, rfl⟩
  · subst q1; subst q2; simp [Instr.sliceBounds]
  · subst q1; simp [Instr.sliceBounds, s1]
  · subst q2; simp [Instr.sliceBounds, s3]
  · simp [Instr.sliceBounds, s1, s2]

theorem run_bounds3 {P : Program} {c : Cfg} (n cap : Nat) (hn : n ≤ cap) {lo hi : Option AV} {vlo vhi : Option Value} (hlo : ∀ x, lo = some x → ∃ v, vlo = some v ∧ c.rep x v) (hlo0 : lo = none → vlo = none)
    (hhi : ∀ x, hi = some x → ∃ v, vhi = some v ∧ c.rep x v) (hhn : hi ≠ none) {l h : Int} (hl : intOr 0 lo = some l) (hh : intOr n hi = some h) (h0 : 0 ≤ l) (h1 : l ≤ h) (h2 : h ≤ n) (k : IntKind) :
    (Instr.sliceBounds true n cap vlo vhi (some (.int k h))).run P c.w = .ok (l.toNat, h.toNat, h.toNat) c.w := by
  have s1 := fun k code => run_sliceBound (P := P) c.w k h cap code (by omega) (by omega)
  have s2 := fun k code => run_sliceBound (P := P) c.w k l h.toNat code (by omega) (by omega)
  have s4 := fun k code => run_sliceBound (P := P) c.w k h h.toNat code (by omega) (by omega)
  rcases intOr_inv hlo hlo0 hl with ⟨rfl, q1⟩ | ⟨k1, rfl⟩ <;> rcases intOr_inv hhi (fun h => absurd h hhn) hh with ⟨rfl, q2⟩ | ⟨k2, rfl⟩
  · cases hi with
    | none => exact absurd rfl hhn
    | some x => obtain ⟨v, hv, _⟩ := hhi x rfl; cases hv
  · subst q1; simp [Instr.sliceBounds, s1, s4]
  · cases hi with
    | none => exact absurd rfl hhn
    | some x => obtain ⟨v, hv, _⟩ := hhi x rfl; cases hv
  · simp [Instr.sliceBounds, s1, s2, s4]

theorem slice_ok {G : Prg} {c : Cfg} {σ : Heap} (hs : Sim c σ) {t e esz eb : Nat} {r : TyRow} (ht : G.row t = some r) (hk : r.knd = .slice e esz eb) {x : AV} {v : Value} (hx : c.rep x v) {lo hi mx : Option AV} {vlo vhi vmx : Option Value}
    (hlo : ∀ x, lo = some x → ∃ v, vlo = some v ∧ c.rep x v) (hlo0 : lo = none → vlo = none) (hhi : ∀ x, hi = some x → ∃ v, vhi = some v ∧ c.rep x v) (hhi0 : hi = none → vhi = none)
    (hmx : ∀ x, mx = some x → ∃ v, vmx = some v ∧ c.rep x v) (hmx0 : mx = none → vmx = none) (hhm : mx ≠ none → hi ≠ none) {y : AV} (h : sliceA esz σ x lo hi mx = some y) :
    ∃ u, (Instr.sliceAt t v vlo vhi vmx).run G.P c.w = .ok u c.w ∧ c.rep y u := by
  obtain ⟨hu, ie, hie, hes, heb⟩ := slice_row ht hk
  have hsz : ∀ w, (sizeOf e).run G.P w = .ok esz w := fun w => by simp [sizeOf, typeInfo, hie, hes]
  unfold sliceA at h
  split at h
  case h_1 => cases h
  case h_2 n hn =>
    split at h
    case h_1 l hh hl hh' =>
      split at h
      case isFalse => cases h
      case isTrue hc =>
        obtain ⟨h0, h1, h2⟩ := hc
        obtain rfl := hmx0 rfl
        have hlive : slLive σ x = true := by
          cases x <;> try rfl
          simp only at h
          split at h
          · rename_i hq; exact hq.1
          · cases h
        obtain ⟨a, cap, rfl, hcap⟩ := lenOf_rep hs hx hn hlive
        have hb := run_bounds2 (P := G.P) (c := c) n cap hcap hlo hlo0 hhi hhi0 hl hh' h0 h1 h2
        have hrun : (Instr.sliceAt t (.slice a n cap) vlo vhi none).run G.P c.w = .ok (.slice (if cap = l.toNat then a else a.map (·.add (l.toNat * esz))) (hh.toNat - l.toNat) (cap - l.toNat)) c.w := by
          simp [Instr.sliceAt, Instr.slice, run_underlying hu, hb, hsz]
        refine ⟨_, hrun, ?_⟩
        split at h
        case h_1 => cases h; cases hx; simp [show l = 0 by omega, show hh = 0 by omega]; exact .nils
        case h_2 => cases h; cases hx; simp [show l = 0 by omega, show hh = 0 by omega]; exact .es _
        case h_3 => cases h; cases hx; simp [show l = 0 by omega, show hh = 0 by omega]; split <;> exact .eu _ _
        case h_4 row len =>
          obtain ⟨b, o, cap', us, hv, hle, hm, hr⟩ := rep_fs_inv hx
          simp at hv
          obtain ⟨rfl, rfl, rfl⟩ := hv
          split at h
          case isTrue he => cases h; subst he; simp; split <;> exact .eu _ _
          case isFalse he =>
            cases h
            have hne : ¬ cap = l.toNat := by omega
            rw [if_neg hne]
            simp only [Option.map_some, add_none]
            have e1 : (hh - l).toNat = hh.toNat - l.toNat := by omega
            rw [e1]
            refine .fs (by omega) (fun i => us (l.toNat * esz + i)) (fun i hi => ?_) (fun i hi => ?_)
            · simp at hi
              rw [Nat.add_assoc]
              exact hm _ (by omega)
            · simp at hi
              simp only [List.getElem_take, List.getElem_drop]
              exact hr _ (by omega)
        case h_5 id g off len sz =>
          obtain ⟨e', he, hg, hone, hv⟩ := rep_sl_inv hx
          split at h
          case isFalse => cases h
          case isTrue hq =>
            obtain ⟨q1, rfl⟩ := hq
            obtain ⟨cap', hv', c1, c2, c3, c4⟩ := hv (live_g hs he q1)
            simp at hv'
            obtain ⟨rfl, rfl, rfl⟩ := hv'
            simp [lenOfA] at hn
            split at h
            case isTrue hl0 =>
              cases h; subst hl0
              simp only [Int.toNat_zero, Nat.zero_mul, Option.map_some, add_none, Nat.add_zero, ite_self, Nat.sub_zero]
              have hmul : hh.toNat * sz ≤ n * sz := Nat.mul_le_mul_right _ (by omega)
              exact .sl he hg trivial (fun _ => ⟨cap, rfl, by omega, by omega, c3, c4⟩)
            case isFalse hl0 =>
              split at h
              case isTrue he' => cases h; subst he'; simp; split <;> exact .eu _ _
              case isFalse he' =>
                cases h
                have hne : ¬ cap = l.toNat := by omega
                rw [if_neg hne]
                simp only [Option.map_some, add_none]
                have e1 : (hh - l).toNat = hh.toNat - l.toNat := by omega
                rw [e1]
                have m1 : l.toNat * sz + (hh.toNat - l.toNat) * sz = hh.toNat * sz := by rw [← Nat.add_mul]; congr 1; omega
                have m2 : hh.toNat * sz ≤ n * sz := Nat.mul_le_mul_right _ (by omega)
                have m3 : l.toNat * sz + (cap - l.toNat) * sz = cap * sz := by rw [← Nat.add_mul]; congr 1; omega
                exact .sl he hg trivial (fun _ => ⟨cap - l.toNat, rfl, by omega, by omega, by omega, by omega⟩)
        case h_6 => cases h
    case h_2 l hh k m hl hh' =>
      split at h
      case isFalse => cases h
      case isTrue hc =>
        obtain ⟨h0, rfl, rfl, h2, hlive⟩ := hc
        obtain ⟨vm, rfl, hvm⟩ := hmx _ rfl
        cases hvm
        obtain ⟨a, cap, rfl, hcap⟩ := lenOf_rep hs hx hn hlive
        have hb := run_bounds3 (P := G.P) (c := c) n cap hcap hlo hlo0 hhi (hhm (by simp)) hl hh' h0 (Int.le_refl _) h2 k
        have hrun : (Instr.sliceAt t (.slice a n cap) vlo vhi (some (.int k m))).run G.P c.w = .ok (.slice a 0 0) c.w := by
          simp [Instr.sliceAt, Instr.slice, run_underlying hu, hb, hsz]
        refine ⟨_, hrun, ?_⟩
        split at h
        case h_1 => cases h; cases hx; exact .nils
        case h_2 => cases h; cases hx; exact .es _
        case h_3 => cases h; cases hx; exact .es _
        case h_4 => cases h; obtain ⟨b, o, cap', us, hv, _⟩ := rep_fs_inv hx; simp at hv; obtain ⟨rfl, _⟩ := hv; exact .es _
        case h_5 id g off len sz => cases h; obtain ⟨e', he, hg, hone, hv⟩ := rep_sl_inv hx; obtain ⟨cap', hv', _⟩ := hv (live_g hs he hlive); simp at hv'; obtain ⟨rfl, _⟩ := hv'; exact .es _
        case h_6 => cases h
    case h_3 => cases h

end Go.Tl
