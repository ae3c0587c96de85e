/- The operations together; lists of operations; contracts; code. -/
import Derived.Test.YtjcenhgfonhidaaTlG
namespace Go.Tl
open Go.RowKit

def evs (G : Prg) (env : List AV) : List Operand → Option (List AV)
  | [] => some []
  | x :: xs => match ev G env x, evs G env xs with
    | some y, some ys => some (y :: ys)
    | _, _ => none

theorem evs_rep {G : Prg} {c : Cfg} {env : List AV} {a : Act} (hG : GOk G c.M) (he : RepL c.M c.L env a.tmps) : ∀ (xs : List Operand) (ys : List AV), evs G env xs = some ys → RepL c.M c.L ys (xs.map a.eval).toArray
  | [], ys, h => by cases h; exact repL_nil
  | x :: xs, ys, h => by
    simp only [evs] at h
    split at h
    case h_2 => cases h
    case h_1 y ys' hy hys =>
      cases h
      have ih := evs_rep hG he xs ys' hys
      have h1 := ev_rep hG he hy
      refine ⟨by simpa using ih.1, fun i z v hz hv => ?_⟩
      cases i with
      | zero => simp at hz hv; subst hz; subst hv; exact h1
      | succ i => exact ih.2 i z v (by simpa using hz) (by simpa using hv)

theorem evs_arr {G : Prg} {c : Cfg} {env : List AV} {a : Act} (hG : GOk G c.M) (he : RepL c.M c.L env a.tmps) {xs : Array Operand} {ys : List AV} (h : evs G env xs.toList = some ys) : RepL c.M c.L ys (xs.map a.eval) := by
  have := evs_rep hG he xs.toList ys h
  rw [show xs.map a.eval = (xs.toList.map a.eval).toArray from by apply Array.ext'; simp]
  exact this

def evParts (G : Prg) (env : List AV) : List (Nat × Operand) → Option (List (Nat × AV))
  | [] => some []
  | (i, x) :: xs => match ev G env x, evParts G env xs with
    | some y, some ys => some ((i, y) :: ys)
    | _, _ => none

theorem evParts_rep {G : Prg} {c : Cfg} {env : List AV} {a : Act} (hG : GOk G c.M) (he : RepL c.M c.L env a.tmps) : ∀ (xs : List (Nat × Operand)) (ys : List (Nat × AV)), evParts G env xs = some ys →
    ys.length = xs.length ∧ ∀ (i : Nat) (y : Nat × AV) (z : Nat × Value), ys[i]? = some y → (xs.map fun (i, x) => (i, a.eval x))[i]? = some z → y.1 = z.1 ∧ c.rep y.2 z.2
  | [], ys, h => by cases h; exact ⟨rfl, fun i y z hy => by simp at hy⟩
  | (k, x) :: xs, ys, h => by
    simp only [evParts] at h
    split at h
    case h_2 => cases h
    case h_1 y ys' hy hys =>
      cases h
      obtain ⟨h1, h2⟩ := evParts_rep hG he xs ys' hys
      refine ⟨by simp [h1], fun i y' z hy' hz => ?_⟩
      cases i with
      | zero => simp at hy' hz; subst hy'; subst hz; exact ⟨rfl, ev_rep hG he hy⟩
      | succ i => exact h2 i y' z (by simpa using hy') (by simpa using hz)

def pickA (t : Bool) (x y : AV) : AV :=
  match x, y with
  | .bool a, .bool b => .bool (if t then a else b)
  | x, y => if t then x else y

theorem pick_rep {c : Cfg} {t : Bool} {x y : AV} {v u : Value} (hx : c.rep x v) (hy : c.rep y u) : c.rep (pickA t x y) (if t then v else u) := by
  unfold pickA
  split
  · cases hx; cases hy; cases t <;> exact .bool _
  · cases t <;> simp <;> assumption

def intOf? : AV → Option Int
  | .int _ n => some n
  | _ => none

def evOpt (G : Prg) (env : List AV) : Option Operand → Option (Option AV)
  | none => some none
  | some x => (ev G env x).map some

/-- What an operation that calls nothing does. -/
def ex (G : Prg) (op : Op) (env : List AV) (σ : Heap) : Option (AV × Heap) :=
  match op with
  | .move x | .assign x => (ev G env x).map (·, σ)
  | .pick c a b => match ev G env c, ev G env a, ev G env b with
    | some (.bool t), some x, some y => some (pickA t x y, σ)
    | _, _, _ => none
  | .alloc t => (G.row t).map fun r => (.ptr σ.length 0 0, σ ++ [.cells r.zero 0])
  | .box _ x => match ev G env x with
    | some v => if v.cells.all AV.one then some (.ptr σ.length 0 0, σ ++ [.cells v.cells 0]) else none
    | none => none
  | .build t parts => match G.row t, evParts G env parts.toList with
    | some r, some ps => (buildA r ps).map (·, σ)
    | _, _ => none
  | .buildSlice t len parts => match G.row t, evParts G env parts.toList with
    | some ⟨_, _, .slice e esz _, _⟩, some ps => match G.row e with
      | some re => (buildSliceA esz re.zero len ps σ.length).map fun (x, row) => (x, σ ++ [.cells row 0])
      | none => none
    | _, _ => none
  | .load t a => match G.row t, ev G env a with
    | some r, some p => (loadA r σ p).map (·, σ)
    | _, _ => none
  | .store t a x => match G.row t, ev G env a, ev G env x with
    | some r, some p, some v => (storeA r σ p v).map (.tup [], ·)
    | _, _, _ => none
  | .nilCheck x => match ev G env x with
    | some v => if (rdRow σ v).isSome then some (v, σ) else none
    | none => none
  | .binOp op t x y _ => match ev G env x, ev G env y with
    | some a, some b => (binA G op t a b).map (·, σ)
    | _, _ => none
  | .unOp op _ x => match ev G env x with
    | some a => (unA op a).map (·, σ)
    | none => none
  | .convert s d x => match ev G env x with
    | some a => (convA G s d a).map (·, σ)
    | none => none
  | .makeFunc (.func f) first cap => match evs G env first.toList, evs G env cap.toList with
    | some xs, some ys => some (.fn f xs ys, σ)
    | _, _ => none
  | .slice t x lo hi mx => match G.row t, ev G env x, evOpt G env lo, evOpt G env hi, evOpt G env mx with
    | some ⟨_, _, .slice _ esz _, _⟩, some v, some l, some h, some m => if m.isSome && !h.isSome then none else (sliceA esz σ v l h m).map (·, σ)
    | _, _, _, _, _ => none
  | .fieldAddr t x f => match G.row t, ev G env x with
    | some r, some p => if (rdRow σ p).isSome then (fieldAddrA r p f).map (·, σ) else none
    | _, _ => none
  | .indexAddr t x i => match G.row t, ev G env x, ev G env i with
    | some r, some v, some (.int _ n) => (indexAddrA r σ v n).map (·, σ)
    | _, _, _ => none
  | .extract x i => match ev G env x with
    | some v => (extractA v i).map (·, σ)
    | none => none
  | _ => none

theorem ex_ok {G : Prg} {c : Cfg} {σ σ' : Heap} {env : List AV} {a : Act} (hG : GOk G c.M) (hs : Sim c σ) (he : RepL c.M c.L env a.tmps) {o : Oper} {x : AV} (h : ex G o.op env σ = some (x, σ')) :
    ∃ c' n, (execOp a.eval o).run G.P c.w = .ok n c'.w ∧ c.Le c' ∧ Sim c' σ' ∧ ((∃ v, n = .value v ∧ c'.rep x v) ∨ (n = .skip ∧ x = .tup [])) := by
  unfold ex at h
  split at h
  case h_1 y hop =>
    obtain ⟨z, hz, hh⟩ := Option.map_eq_some_iff.1 h
    cases hh
    exact ⟨c, _, by simp [execOp, hop], Cfg.Le.refl c, hs, .inl ⟨_, rfl, ev_rep hG he hz⟩⟩
  case h_2 y hop =>
    obtain ⟨z, hz, hh⟩ := Option.map_eq_some_iff.1 h
    cases hh
    exact ⟨c, _, by simp [execOp, hop], Cfg.Le.refl c, hs, .inl ⟨_, rfl, ev_rep hG he hz⟩⟩
  case h_3 p q r hop =>
    split at h
    case h_2 => cases h
    case h_1 t y z h1 h2 h3 =>
      cases h
      have r1 := ev_rep hG he h1
      generalize hv : a.eval p = v at r1
      cases r1
      exact ⟨c, _, by simp [execOp, hop, hv, asBool], Cfg.Le.refl c, hs, .inl ⟨_, rfl, pick_rep (ev_rep hG he h2) (ev_rep hG he h3)⟩⟩
  case h_4 t hop =>
    obtain ⟨r, hr, hh⟩ := Option.map_eq_some_iff.1 h
    cases hh
    obtain ⟨c', v, h1, h2, h3, h4⟩ := alloc_ok hs hr
    exact ⟨c', .value v, by simp [execOp, hop, h1], h2, h3, .inl ⟨v, rfl, h4⟩⟩
  case h_5 t y hop =>
    split at h
    case h_2 => cases h
    case h_1 v hv =>
      split at h
      case isFalse => cases h
      case isTrue hall =>
        cases h
        obtain ⟨c', u, h1, h2, h3, h4⟩ := box_ok (P := G.P) hs t (ev_rep hG he hv) hall
        exact ⟨c', .value u, by simp [execOp, hop, h1], h2, h3, .inl ⟨u, rfl, h4⟩⟩
  case h_6 t parts hop =>
    split at h
    case h_2 => cases h
    case h_1 r ps hr hps =>
      obtain ⟨y, hy, hh⟩ := Option.map_eq_some_iff.1 h
      cases hh
      obtain ⟨p1, p2⟩ := evParts_rep hG he _ _ hps
      obtain ⟨v, h1, h2⟩ := build_ok (c := c) hr (pa := ps) (pc := parts.map fun (i, x) => (i, a.eval x)) (by simp [p1]) (fun i y z hy hz => p2 i y z hy (by simpa using hz)) hy
      exact ⟨c, .value v, by simp [execOp, hop, h1], Cfg.Le.refl c, hs, .inl ⟨v, rfl, h2⟩⟩
  case h_7 t len parts hop =>
    split at h
    case h_2 => cases h
    case h_1 s1 b1 e esz eb z1 ps hr hps =>
      split at h
      case h_2 => cases h
      case h_1 re hre =>
        obtain ⟨⟨y, row⟩, hy, hh⟩ := Option.map_eq_some_iff.1 h
        cases hh
        obtain ⟨p1, p2⟩ := evParts_rep hG he _ _ hps
        obtain ⟨c', v, h1, h2, h3, h4⟩ := buildSlice_ok hs hr rfl hre (pa := ps) (pc := parts.map fun (i, x) => (i, a.eval x)) (by simp [p1]) (fun i y z hy hz => p2 i y z hy (by simpa using hz)) hy
        exact ⟨c', .value v, by simp [execOp, hop, h1], h2, h3, .inl ⟨v, rfl, h4⟩⟩
  case h_8 t p hop =>
    split at h
    case h_2 => cases h
    case h_1 r y hr hy =>
      obtain ⟨z, hz, hh⟩ := Option.map_eq_some_iff.1 h
      cases hh
      obtain ⟨v, h1, h2⟩ := load_ok hs hr (ev_rep hG he hy) hz
      exact ⟨c, .value v, by simp [execOp, hop, h1], Cfg.Le.refl c, hs, .inl ⟨v, rfl, h2⟩⟩
  case h_9 t p y hop =>
    split at h
    case h_2 => cases h
    case h_1 r q z hr hq hz =>
      obtain ⟨σ1, h1, hh⟩ := Option.map_eq_some_iff.1 h
      cases hh
      obtain ⟨c', h2, h3, h4⟩ := store_ok hs hr (ev_rep hG he hq) (ev_rep hG he hz) h1
      exact ⟨c', .skip, by simp [execOp, hop, h2], h3, h4, .inr ⟨rfl, rfl⟩⟩
  case h_10 y hop =>
    split at h
    case h_2 => cases h
    case h_1 v hv =>
      split at h
      case isFalse => cases h
      case isTrue hl =>
        cases h
        obtain ⟨⟨row, off⟩, hrd⟩ := Option.isSome_iff_exists.1 hl
        have hr := ev_rep hG he hv
        obtain ⟨b, o', hv', _⟩ := rd_rep hs hr hrd
        exact ⟨c, .value (.pointer (some ⟨b, o', none⟩)), by simp [execOp, hop, hv'], Cfg.Le.refl c, hs, .inl ⟨_, rfl, by rw [hv'] at hr; exact hr⟩⟩
  case h_11 op t p q yt hop =>
    split at h
    case h_2 => cases h
    case h_1 y z hy hz =>
      obtain ⟨w, hw, hh⟩ := Option.map_eq_some_iff.1 h
      cases hh
      obtain ⟨v, h1, h2⟩ := bin_ok (ev_rep hG he hy) (ev_rep hG he hz) hw p q
      have : (execOp a.eval o).run G.P c.w = .ok (.value v) c.w := by
        simp only [execOp, hop, Sem.run_bind] at h1 ⊢
        rw [h1]; rfl
      exact ⟨c, .value v, this, Cfg.Le.refl c, hs, .inl ⟨v, rfl, h2⟩⟩
  case h_12 op t p hop =>
    split at h
    case h_2 => cases h
    case h_1 y hy =>
      obtain ⟨w, hw, hh⟩ := Option.map_eq_some_iff.1 h
      cases hh
      obtain ⟨v, h1, h2⟩ := un_ok (P := G.P) (ev_rep hG he hy) hw
      exact ⟨c, .value v, by simp [execOp, hop, h1], Cfg.Le.refl c, hs, .inl ⟨v, rfl, h2⟩⟩
  case h_13 s d p hop =>
    split at h
    case h_2 => cases h
    case h_1 y hy =>
      obtain ⟨w, hw, hh⟩ := Option.map_eq_some_iff.1 h
      cases hh
      obtain ⟨v, h1, h2⟩ := conv_ok (ev_rep hG he hy) hw
      exact ⟨c, .value v, by simp [execOp, hop, h1], Cfg.Le.refl c, hs, .inl ⟨v, rfl, h2⟩⟩
  case h_14 f first cap hop =>
    split at h
    case h_2 => cases h
    case h_1 xs ys hx hy =>
      cases h
      have r1 := evs_arr hG he hx
      have r2 := evs_arr hG he hy
      refine ⟨c, .value (.func (.func f) (first.map a.eval) (cap.map a.eval)), by simp [execOp, hop, Instr.makeFunc], Cfg.Le.refl c, hs, .inl ⟨_, rfl, ?_⟩⟩
      exact .fn r1.1 r2.1 (fun i h => r1.2 i _ _ (List.getElem?_eq_getElem h) (Array.getElem?_eq_getElem _)) (fun i h => r2.2 i _ _ (List.getElem?_eq_getElem h) (Array.getElem?_eq_getElem _))
  case h_15 t p lo hi mx hop =>
    split at h
    case h_2 => cases h
    case h_1 s1 b1 e esz eb z1 v l h' m hr hv hl hh hm =>
      split at h
      case isTrue => cases h
      case isFalse hc =>
        obtain ⟨y, hy, hq⟩ := Option.map_eq_some_iff.1 h
        cases hq
        have hopt : ∀ (xo : Option Operand) (z : Option AV), evOpt G env xo = some z → (∀ x, z = some x → ∃ v, xo.map a.eval = some v ∧ c.rep x v) ∧ (z = none → xo.map a.eval = none) := fun xo z hz => by
          cases xo with
          | none => cases hz; exact ⟨(fun x h => by cases h), fun _ => rfl⟩
          | some x =>
            obtain ⟨w, hw, hz⟩ := Option.map_eq_some_iff.1 hz
            subst hz
            exact ⟨(fun x h => by cases h; exact ⟨_, rfl, ev_rep hG he hw⟩), (fun h => by cases h)⟩
        obtain ⟨v', h1, h2⟩ := slice_ok hs hr rfl (ev_rep hG he hv) (hopt _ _ hl).1 (hopt _ _ hl).2 (hopt _ _ hh).1 (hopt _ _ hh).2 (hopt _ _ hm).1 (hopt _ _ hm).2 (fun hmn hhn => hc (by subst hhn; cases m with | none => exact absurd rfl hmn | some _ => rfl)) hy
        exact ⟨c, .value v', by simp [execOp, hop, h1], Cfg.Le.refl c, hs, .inl ⟨v', rfl, h2⟩⟩
  case h_16 t p f hop =>
    split at h
    case h_2 => cases h
    case h_1 r y hr hy =>
      split at h
      case isFalse => cases h
      case isTrue hl =>
        obtain ⟨w, hw, hh⟩ := Option.map_eq_some_iff.1 h
        cases hh
        obtain ⟨v, h1, h2⟩ := fieldAddr_ok hs hr (ev_rep hG he hy) hl hw
        exact ⟨c, .value v, by simp [execOp, hop, h1], Cfg.Le.refl c, hs, .inl ⟨v, rfl, h2⟩⟩
  case h_17 t p q hop =>
    split at h
    case h_2 => cases h
    case h_1 r y k n hr hy hq =>
      obtain ⟨w, hw, hh⟩ := Option.map_eq_some_iff.1 h
      cases hh
      have r1 := ev_rep hG he hq
      generalize hv : a.eval q = v at r1
      cases r1
      obtain ⟨v, h1, h2⟩ := indexAddr_ok (k := k) hs hr (ev_rep hG he hy) hw
      exact ⟨c, .value v, by simp [execOp, hop, hv, h1], Cfg.Le.refl c, hs, .inl ⟨v, rfl, h2⟩⟩
  case h_18 p i hop =>
    split at h
    case h_2 => cases h
    case h_1 y hy =>
      obtain ⟨w, hw, hh⟩ := Option.map_eq_some_iff.1 h
      cases hh
      obtain ⟨v, h1, h2⟩ := extract_ok (P := G.P) (ev_rep hG he hy) hw
      exact ⟨c, .value v, by simp [execOp, hop, h1], Cfg.Le.refl c, hs, .inl ⟨v, rfl, h2⟩⟩
  case h_19 => cases h

end Go.Tl
