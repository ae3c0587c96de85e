/- The program, as the rules want it: what is worked out from it alone. -/
import Derived.Test.YtjcenhgfonhidaaTlL
import Derived.ChangeKeysEq
import Derived.Laws.StructEq
namespace Go.Tl
open Go.RowKit

def kindB (P : Program) (t : TypeId) : Nat → Bool
  | 0 => (match P.underlying t with | some (.int _) => true | _ => false)
  | 1 => (match P.underlying t with | some .bool => true | _ => false)
  | 2 => (match P.underlying t with | some .string => true | _ => false)
  | _ => false

def flatB (P : Program) : List Field → List Nat → Nat → Bool
  | [], [], _ => true
  | f :: fs, k :: ks, i => f.offset == i && f.name != "_" && kindB P f.type k && flatB P fs ks (i + 1)
  | _, _, _ => false

def eqsB (P : Program) (t : TypeId) (ks : List Nat) : Bool := match P.underlying t with
  | some (.struct fs) => !P.stoodInHeld t && !P.eqGuardType P.depth t && flatB P fs.toList ks 0
  | _ => false

theorem eqf_step {P : Program} {d : Nat} {xs ys : Array Value} {f : Field} {fs : List Field} {a b : Value} {r s : Bool} {w : World} (hn : (f.name != "_") = true) (ha : (part f.type xs f.offset).run P w = .ok a w) (hb : (part f.type ys f.offset).run P w = .ok b w) (he : (Op.equalIn d f.type a b).run P w = .ok r w) (hr : (Op.eqFields d xs ys fs).run P w = .ok s w) : (Op.eqFields d xs ys (f :: fs)).run P w = .ok (r && s) w := by
  have hn' : f.name ≠ "_" := by simpa using hn
  rw [Op.eqFields]
  simp only [if_pos hn', Sem.run_bind, ha, hb, he, Result.andThen_ok]
  cases r
  · simp
  · simpa using hr

theorem plain_of {P : Program} {t : TypeId} {k : Nat} (h : kindB P t k = true) : P.plainKey t = true := by
  unfold kindB at h
  unfold Program.plainKey
  split at h <;> first | (split at h <;> simp_all; done) | cases h

theorem eqFields_ok {P : Program} {M : Mem} {L : List Ent} {us vs : Array Value} {w : World} (d : Nat) : ∀ (fs : List Field) (xs ys : List AV) (i : Nat) (b : Bool), flatB P fs (xs.map AV.kindOf) i = true → eqCells xs ys = some b →
    (∀ k x, xs[k]? = some x → ∃ u, us[i + k]? = some u ∧ Rep M L x u) → (∀ k x, ys[k]? = some x → ∃ u, vs[i + k]? = some u ∧ Rep M L x u) → (Op.eqFields (d + 1) us vs fs).run P w = .ok b w
  | [], xs, ys, i, b, hf, he, hx, hy => by
    cases xs with
    | cons x xs => simp [flatB] at hf
    | nil => cases ys with
      | nil => simp [eqCells] at he; subst he; simp [Op.eqFields]
      | cons y ys => simp [eqCells] at he
  | f :: fs, xs, ys, i, b, hf, he, hx, hy => by
    cases xs with
    | nil => simp [flatB] at hf
    | cons x xs =>
      simp only [List.map_cons, flatB, Bool.and_eq_true] at hf
      obtain ⟨⟨⟨f1, f2⟩, f3⟩, f4⟩ := hf
      have f1 : f.offset = i := by simpa using f1
      cases ys with
      | nil => cases x <;> simp [eqCells] at he
      | cons y ys =>
        obtain ⟨u, hu, ru⟩ := hx 0 x rfl
        obtain ⟨v, hv, rv⟩ := hy 0 y rfl
        have rest : ∀ b', eqCells xs ys = some b' → (Op.eqFields (d + 1) us vs fs).run P w = .ok b' w := fun b' hb' =>
          eqFields_ok d fs xs ys (i + 1) b' f4 hb' (fun k z hz => by have := hx (k + 1) z (by simpa using hz); rwa [show i + (k + 1) = i + 1 + k by omega] at this) (fun k z hz => by have := hy (k + 1) z (by simpa using hz); rwa [show i + (k + 1) = i + 1 + k by omega] at this)
        have p1 : (part f.type us f.offset).run P w = .ok u w := run_part_plain w (plain_of f3) (by rw [f1]; simpa using hu)
        have p2 : (part f.type vs f.offset).run P w = .ok v w := run_part_plain w (plain_of f3) (by rw [f1]; simpa using hv)
        unfold eqCells at he
        split at he
        case h_1 => simp_all
        case h_2 k a r k' b0 s h1 h2 =>
          cases h1; cases h2
          split at he
          case isFalse => cases he
          case isTrue hk =>
            subst hk
            obtain ⟨b1, hb1, rfl⟩ := Option.map_eq_some_iff.1 he
            cases ru; cases rv
            simp only [AV.kindOf, kindB] at f3
            split at f3
            case h_2 => cases f3
            case h_1 q hq => exact eqf_step f2 p1 p2 (run_equalIn_int w d f.type k q a b0 hq) (rest _ hb1)
        case h_3 a r b0 s h1 h2 =>
          cases h1; cases h2
          obtain ⟨b1, hb1, rfl⟩ := Option.map_eq_some_iff.1 he
          cases ru; cases rv
          simp only [AV.kindOf, kindB] at f3
          split at f3
          case h_2 => cases f3
          case h_1 hq => exact eqf_step f2 p1 p2 (run_equalIn_bool w d f.type a b0 hq) (rest _ hb1)
        case h_4 a r b0 s h1 h2 =>
          cases h1; cases h2
          obtain ⟨b1, hb1, rfl⟩ := Option.map_eq_some_iff.1 he
          cases ru; cases rv
          simp only [AV.kindOf, kindB] at f3
          split at f3
          case h_2 => cases f3
          case h_1 hq => exact eqf_step f2 p1 p2 (run_equalIn_string w d f.type a b0 hq) (rest _ hb1)
        case h_5 => cases he

theorem eqs_ok {P : Program} (t : TypeId) (M : Mem) (L : List Ent) (xs ys : List AV) (us vs : Array Value) (w : World) (b : Bool) (h : eqsB P t (xs.map AV.kindOf) = true) (he : eqCells xs ys = some b) (hx : Rep M L (.agg xs) (.agg us)) (hy : Rep M L (.agg ys) (.agg vs)) :
    P.eqGuardType P.depth t = false ∧ (Op.equal t (.agg us) (.agg vs)).run P w = .ok b w := by
  unfold eqsB at h
  split at h
  case h_2 => cases h
  case h_1 fs hu =>
    simp only [Bool.and_eq_true, Bool.not_eq_true'] at h
    obtain ⟨⟨h1, h2⟩, h3⟩ := h
    refine ⟨h2, ?_⟩
    have hf : P.fieldsOf t = fs := by simp [Program.fieldsOf, hu]
    rw [Op.equal, show Op.maxDepth = 9998 + 1 + 1 from rfl, run_equalIn_struct (P := P) w _ t us vs (by rw [hf]; exact hu) h1, hf]
    have cells : ∀ (zs : List AV) (ws : Array Value), Rep M L (.agg zs) (.agg ws) → ∀ k x, zs[k]? = some x → ∃ u, ws[0 + k]? = some u ∧ Rep M L x u := fun zs ws hr k x hk => by
      obtain ⟨ws', e, hl, hc⟩ := rep_agg_inv hr
      cases e
      have hlt : k < ws.size := by rw [← hl]; exact (List.getElem?_eq_some_iff.1 hk).1
      have hw : ws[0 + k]? = some ws[k] := by rw [Nat.zero_add]; exact Array.getElem?_eq_getElem hlt
      refine ⟨ws[k], hw, hc k x _ hk (by rw [Nat.zero_add] at hw; exact hw)⟩
    exact eqFields_ok 9998 fs.toList xs ys 0 b h3 he (cells xs us hx) (cells ys vs hy)

theorem lookup_mem {α : Type} {rows : List (Nat × α)} {t : Nat} {r : α} (h : rows.lookup t = some r) : (t, r) ∈ rows := by
  induction rows with
  | nil => cases h
  | cons x xs ih =>
    obtain ⟨a, b⟩ := x
    simp only [List.lookup_cons] at h
    split at h
    · rename_i he; cases h
      have : t = a := by simpa using he
      subst this; exact List.mem_cons_self ..
    · exact List.mem_cons_of_mem _ (ih h)

/-- The rules' program. -/
def Prg.of (P : Program) (mix : P.follows .mixedOrders = true) (rows : List (TypeId × TyRow)) (hrows : (rows.all fun x => rowOkB P x.1 x.2) = true) (fns : List FuncId) (hfns : (fns.all (isFnB P)) = true) : Prg where
  P := P
  mix := mix
  fns k := fns.contains k
  fnsOk k hk := List.all_eq_true.1 hfns k (by simpa using hk)
  row t := rows.lookup t
  ok t r h := List.all_eq_true.1 hrows _ (lookup_mem h)
  eqs t ks := eqsB P t ks
  eqOk := fun t M L xs ys us vs w b h he hx hy => eqs_ok t M L xs ys us vs w b h he hx hy

end Go.Tl
