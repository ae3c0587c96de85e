/- Numbers, tests, conversions, small builtins. -/
import Derived.Test.YtjcenhgfonhidaaTlF
import Derived.WalkSpells
namespace Go.Tl
open Go.RowKit

def intA (op : BinOp) (k : IntKind) (a b : Int) : Option AV :=
  match op with
  | .add => some (.int k (k.wrap (a + b)))
  | .sub => some (.int k (k.wrap (a - b)))
  | .mul => some (.int k (k.wrap (a * b)))
  | .quo => if b = 0 then none else some (.int k (k.wrap (a.tdiv b)))
  | .rem => if b = 0 then none else some (.int k (a.tmod b))
  | .and | .or | .xor | .andNot => some (.int k (bits op k a b))
  | .eql => some (.bool (a == b))
  | .neq => some (.bool (a != b))
  | .lss => some (.bool (decide (a < b)))
  | .leq => some (.bool (decide (a ≤ b)))
  | .gtr => some (.bool (decide (a > b)))
  | .geq => some (.bool (decide (a ≥ b)))
  | _ => none

def shiftA (op : BinOp) (k : IntKind) (a b : Int) : Option AV :=
  if b < 0 then none else match op with
  | .shl => some (.int k (k.wrap (a * 2 ^ min b.toNat k.bits)))
  | .shr => some (.int k (a.fdiv (2 ^ min b.toNat k.bits)))
  | _ => none

def strA (op : BinOp) (a b : ByteArray) : Option AV :=
  match op with
  | .eql => some (.bool (a.toList == b.toList))
  | .neq => some (.bool (!(a.toList == b.toList)))
  | _ => none

def isNilA : AV → Option Bool
  | .nils | .nilp | .nilm | .nili | .nilf => some true
  | .es | .eu | .fs _ _ | .fptr _ _ | .fn _ _ _ | .ifc _ _ => some false
  | _ => none

/-- The comparisons of what is no number or string: rows of plain cells; a slice against nil. -/
def eqA (G : Prg) (t : TypeId) (x y : AV) : Option Bool :=
  match x, y with
  | .agg xs, .agg ys => if G.eqs t (xs.map AV.kindOf) then eqCells xs ys else none
  | x, .nils => match G.row t with
    | some ⟨_, _, .slice _ _ _, _⟩ => (match x with | .nils => some true | .es | .eu | .fs _ _ => some false | _ => none)
    | _ => none
  | _, _ => none

def binA (G : Prg) (op : BinOp) (t : TypeId) (x y : AV) : Option AV :=
  match x, y with
  | .int k a, .int k' b => match op with
    | .shl | .shr => shiftA op k a b
    | _ => if k = k' then intA op k a b else none
  | .str a, .str b => strA op a b
  | x, y => match op with
    | .eql => (eqA G t x y).map .bool
    | .neq => (eqA G t x y).map fun b => .bool (!b)
    | _ => none

theorem run_int (P : Program) (w : World) (op : BinOp) (t : TypeId) (k : IntKind) (a b : Int) {y : AV} (hop : op ≠ .shl) (hop' : op ≠ .shr) (h : intA op k a b = some y) :
    ∃ v, (binOp op t (.int k a) (.int k b)).run P w = .ok v w ∧ ∀ (M : Mem) (L : List Ent), Rep M L y v := by
  cases op <;> simp only [intA] at h <;> first
    | (cases h; done)
    | exact absurd rfl hop
    | exact absurd rfl hop'
    | (cases h; refine ⟨_, ?_, fun _ _ => .int _ _⟩; simp [binOp, Op.intArith]; done)
    | (cases h; refine ⟨_, ?_, fun _ _ => .bool _⟩; simp [binOp, Op.intCmp]; done)
    | (cases h; refine ⟨_, ?_, fun _ _ => .int _ _⟩; simp [binOp, intBits_and, intBits_or, intBits_xor, intBits_andNot]; done)
    | (split at h
       · cases h
       · rename_i hb; cases h; refine ⟨_, ?_, fun _ _ => .int _ _⟩; simp [binOp, Op.intDiv, hb])

theorem eq_agg_rep {c : Cfg} {xs : List AV} {v : Value} (h : c.rep (.agg xs) v) : ∃ vs, v = .agg vs := by
  obtain ⟨vs, rfl, _⟩ := rep_agg_inv h; exact ⟨vs, rfl⟩

theorem eqA_ok {G : Prg} {c : Cfg} {t : TypeId} {x y : AV} {v u : Value} (hx : c.rep x v) (hy : c.rep y u) {b : Bool} (h : eqA G t x y = some b) (op : BinOp) (hop : op = .eql ∨ op = .neq) (xo yo : Operand) :
    (do eqGuard op t xo yo v u; binOp op t v u : Sem Value).run G.P c.w = .ok (.bool (if op matches .eql then b else !b)) c.w := by
  unfold eqA at h
  split at h
  case h_1 xs ys =>
    split at h
    case isFalse => cases h
    case isTrue hq =>
      obtain ⟨us, rfl⟩ := eq_agg_rep hx
      obtain ⟨vs, rfl⟩ := eq_agg_rep hy
      obtain ⟨h1, h2⟩ := G.eqOk t c.M c.L xs ys us vs c.w b hq h hx hy
      rcases hop with rfl | rfl
      · simp [eqGuard, binOp, h1, h2, run_program]
      · simp [eqGuard, binOp, h1, h2, run_program]
  case h_2 x _ =>
    cases hy
    split at h
    case h_2 => cases h
    case h_1 e esz eb z hr =>
      obtain ⟨hu, _⟩ := slice_row hr rfl
      have hn : ∀ a n cc, (do eqGuard op t xo yo (.slice a n cc) (.slice none 0 0); binOp op t (.slice a n cc) (.slice none 0 0) : Sem Value).run G.P c.w = .ok (.bool (if op matches .eql then a.isNone else !a.isNone)) c.w := fun a n cc => by
        rcases hop with rfl | rfl
        · simp [eqGuard, Lib.run_eql_slice_nil c.w t e a n cc 0 0 hu]
        · simp [eqGuard, run_neq_slice_nil_any c.w t e a n cc 0 0 hu]
      split at h
      case h_1 => cases h; cases hx; exact hn none 0 0
      case h_2 => cases h; cases hx; exact hn (some _) 0 0
      case h_3 => cases h; cases hx; exact hn (some _) 0 _
      case h_4 => cases h; obtain ⟨b, o, cap, us, rfl, _⟩ := rep_fs_inv hx; exact hn (some _) _ _
      case h_5 => cases h
  case h_3 => cases h

theorem bin_ok {G : Prg} {c : Cfg} {op : BinOp} {t : TypeId} {x y z : AV} {v u : Value} (hx : c.rep x v) (hy : c.rep y u) (h : binA G op t x y = some z) (xo yo : Operand) :
    ∃ r, (do eqGuard op t xo yo v u; binOp op t v u : Sem Value).run G.P c.w = .ok r c.w ∧ c.rep z r := by
  unfold binA at h
  split at h
  case h_1 k a k' b =>
    cases hx; cases hy
    have hg : (eqGuard op t xo yo (.int k a) (.int k' b)).run G.P c.w = .ok () c.w := by simp [eqGuard]
    split at h
    case h_1 =>
      unfold shiftA at h
      split at h
      · cases h
      · rename_i hb
        cases h
        exact ⟨_, by simp only [Sem.run_bind, hg, Result.andThen_ok]; simp [binOp, Op.shift, hb], .int _ _⟩
    case h_2 =>
      unfold shiftA at h
      split at h
      · cases h
      · rename_i hb
        cases h
        exact ⟨_, by simp only [Sem.run_bind, hg, Result.andThen_ok]; simp [binOp, Op.shift, hb], .int _ _⟩
    case h_3 h1 h2 =>
      split at h
      case isFalse => cases h
      case isTrue hk =>
        subst hk
        obtain ⟨r, hr, hrep⟩ := run_int G.P c.w op t k a b (fun h => h1 h) (fun h => h2 h) h
        exact ⟨r, by simp only [Sem.run_bind, hg, Result.andThen_ok]; exact hr, hrep _ _⟩
  case h_2 a b =>
    cases hx; cases hy
    have hg : (eqGuard op t xo yo (.string a) (.string b)).run G.P c.w = .ok () c.w := by simp [eqGuard]
    unfold strA at h
    split at h
    case h_1 => cases h; exact ⟨_, by simp only [Sem.run_bind, hg, Result.andThen_ok]; simp [binOp, Op.stringOp], .bool _⟩
    case h_2 => cases h; exact ⟨_, by simp only [Sem.run_bind, hg, Result.andThen_ok]; simp [binOp, Op.stringOp], .bool _⟩
    case h_3 => cases h
  case h_3 =>
    split at h
    case h_1 =>
      obtain ⟨b, hb, rfl⟩ := Option.map_eq_some_iff.1 h
      exact ⟨_, eqA_ok hx hy hb .eql (.inl rfl) xo yo, .bool _⟩
    case h_2 =>
      obtain ⟨b, hb, rfl⟩ := Option.map_eq_some_iff.1 h
      exact ⟨_, eqA_ok hx hy hb .neq (.inr rfl) xo yo, .bool _⟩
    case h_3 => cases h

def unA (op : UnOp) (x : AV) : Option AV :=
  match op, x with
  | .not, .bool b => some (.bool (!b))
  | .neg, .int k n => some (.int k (k.wrap (0 - n)))
  | _, _ => none

theorem un_ok {P : Program} {c : Cfg} {op : UnOp} {x z : AV} {v : Value} (hx : c.rep x v) (h : unA op x = some z) : ∃ r, (Op.unary op v).run P c.w = .ok r c.w ∧ c.rep z r := by
  unfold unA at h
  split at h
  case h_1 => cases h; cases hx; exact ⟨_, rfl, .bool _⟩
  case h_2 => cases h; cases hx; exact ⟨_, by simp [Op.unary, Op.intArith], .int _ _⟩
  case h_3 => cases h

/-- A conversion between whole numbers. -/
def convA (G : Prg) (src dst : TypeId) (x : AV) : Option AV :=
  match x, G.P.underlying src, G.P.underlying dst with
  | .int _ n, some _, some (.int k) => some (.int k (k.wrap n))
  | _, _, _ => none

theorem conv_ok {G : Prg} {c : Cfg} {src dst : TypeId} {x z : AV} {v : Value} (hx : c.rep x v) (h : convA G src dst x = some z) : ∃ r, (convert src dst v).run G.P c.w = .ok r c.w ∧ c.rep z r := by
  unfold convA at h
  split at h
  case h_2 => cases h
  case h_1 k' n d k hs hd =>
    cases h; cases hx
    exact ⟨_, by simp [convert, run_underlying hs, run_underlying hd, Conv.intToInt], .int _ _⟩

def nilCheckA : AV → Option AV
  | .ptr id g off => some (.ptr id g off)
  | .fptr row off => some (.fptr row off)
  | _ => none

def extractA : AV → Nat → Option AV
  | .tup vs, i => vs[i]?
  | _, _ => none

theorem extract_ok {P : Program} {c : Cfg} {x z : AV} {v : Value} {i : Nat} (hx : c.rep x v) (h : extractA x i = some z) : ∃ r, (Instr.extract v i).run P c.w = .ok r c.w ∧ c.rep z r := by
  unfold extractA at h
  split at h
  case h_2 => cases h
  case h_1 vs i =>
    obtain ⟨us, rfl, hr⟩ := rep_tup_inv hx
    obtain ⟨u, hu, hh⟩ := hr.get h
    exact ⟨u, by simp [Instr.extract, hu], hh⟩

def maxA : AV → AV → Option AV
  | .int k x, .int k' y => if k = k' then some (.int k (if y > x then y else x)) else none
  | _, _ => none
def minA : AV → AV → Option AV
  | .int k x, .int k' y => if k = k' then some (.int k (if y < x then y else x)) else none
  | _, _ => none
def foldA (f : AV → AV → Option AV) : List AV → Option AV
  | [] => none
  | x :: rest => rest.foldlM f x

theorem foldA_ok {P : Program} {c : Cfg} (f : AV → AV → Option AV) (g : Value → Value → Sem Value) (hf : ∀ x y z v u, c.rep x v → c.rep y u → f x y = some z → ∃ r, (g v u).run P c.w = .ok r c.w ∧ c.rep z r) :
    ∀ (xs : List AV) (vs : List Value) (x z : AV) (v : Value), c.rep x v → RepL c.M c.L xs vs.toArray → xs.foldlM f x = some z → ∃ r, (vs.foldlM g v).run P c.w = .ok r c.w ∧ c.rep z r
  | [], [], x, z, v, hx, _, h => by simp at h; subst h; exact ⟨v, by simp, hx⟩
  | [], _ :: _, _, _, _, _, hl, _ => by have := hl.1; simp at this
  | _ :: _, [], _, _, _, _, hl, _ => by have := hl.1; simp at this
  | y :: xs, u :: vs, x, z, v, hx, hl, h => by
    simp only [List.foldlM_cons, Option.bind_eq_bind, Option.bind_eq_some_iff] at h
    obtain ⟨w, hw, h⟩ := h
    obtain ⟨r, hr, hrep⟩ := hf x y w v u hx (hl.2 0 y u rfl rfl) hw
    obtain ⟨r', hr', hrep'⟩ := foldA_ok f g hf xs vs w z r hrep ⟨by simpa using hl.1, fun i a b ha hb => hl.2 (i + 1) a b (by simpa using ha) (by simpa using hb)⟩ h
    exact ⟨r', by simp [hr, hr'], hrep'⟩

theorem maxA_ok {P : Program} {c : Cfg} (x y z : AV) (v u : Value) (hx : c.rep x v) (hy : c.rep y u) (h : maxA x y = some z) : ∃ r, (Builtin.max2 v u).run P c.w = .ok r c.w ∧ c.rep z r := by
  unfold maxA at h
  split at h
  · split at h
    · cases h; cases hx; cases hy; exact ⟨_, by simp [Builtin.max2], .int _ _⟩
    · cases h
  · cases h
theorem minA_ok {P : Program} {c : Cfg} (x y z : AV) (v u : Value) (hx : c.rep x v) (hy : c.rep y u) (h : minA x y = some z) : ∃ r, (Builtin.min2 v u).run P c.w = .ok r c.w ∧ c.rep z r := by
  unfold minA at h
  split at h
  · split at h
    · cases h; cases hx; cases hy; exact ⟨_, by simp [Builtin.min2], .int _ _⟩
    · cases h
  · cases h

end Go.Tl
