/- From a contract to a call in a world: all of the world's cells are protected; what the call leaves behind. -/
import Derived.Test.YtjcenhgfonhidaaTlS
import Derived.ProofKit
namespace Go.Tl
open Go.RowKit

def wholeM (W : World) : Mem := fun b o => W.cell? ⟨b, o, none⟩

structure Left0 (W W' : World) : Prop where
  size : W.heap.size ≤ W'.heap.size
  same : ∀ b, b < W.heap.size → W'.heap[b]? = W.heap[b]?
  out : W'.output = W.output
  os : W'.os = W.os

theorem PureN.calls {G : Prg} {k : FuncId} {xs : List AV} {t : Bool} (h : PureN G k xs (.bool t)) (hg : ∀ g, G.glob g = none) {W : World} {args : Array Value} (hr : RepL (wholeM W) [] xs args) :
    Calls G.P k args W (fun e W' => e = .returned (.bool t) ∧ Left0 W W') := by
  have hs : Sim ⟨wholeM W, [], W⟩ [] := ⟨rfl, (fun b o v hM => hM), (fun e he => by cases he), (fun id e k he => by simp at he), (fun i j e e' k he => by simp at he)⟩
  have hG : GOk G (wholeM W) := fun g row hrow => by rw [hg g] at hrow; cases hrow
  refine callsIn_wide.1 ((h ⟨wholeM W, [], W⟩ args hG hs hr).mono ?_)
  rintro e w' ⟨c', v, r, σ', rfl, q1, q2, rfl, q4, q5⟩
  have hv := fzn_rep (n := 0) (M := wholeM W) q2 (fun e he => Nat.zero_le _) 8 _ _ _ q4 q5
  cases hv
  exact ⟨rfl, q1.size, fun b hb => q1.keep b hb (fun e he => by cases he), q1.out, q1.os⟩

section
open Go.ChangeShapes Go.WideShapes
variable {H : Type} {enc : TypeId × Value → H} {P : Program} {W W' : World}

theorem Left0.frozen (h : Left0 W W') {a : Addr} (ha : a.block < W.heap.size) : W'.frozen? a = W.frozen? a := by
  unfold World.frozen?
  rw [h.same _ ha]

theorem Left0.kept (h : Left0 W W') (may : MemPlace → Prop) : W.keptBut W' may := by
  refine ⟨h.os, h.out, fun i hi => ?_⟩
  rw [h.same i hi]
  cases W.heap[i]? with
  | none => rfl
  | some o => cases o <;> first | exact ⟨rfl, rfl, rfl, fun _ _ => rfl⟩ | exact .inr ⟨rfl, rfl⟩ | rfl

theorem Left0.sameAt (h : Left0 W W') {p : MemPlace} (hp : p.block < W.heap.size) : W.sameAt W' p := by
  cases p with
  | cell b o => simp only [World.sameAt, World.cell?, h.same b hp]
  | map b => simp only [World.sameAt, h.same b hp]

theorem Left0.trodAll (h : Left0 W W') (hl : laidOutB P = true) {sp : Nat → Bool} : ∀ {ts : List TypeId} {vs : List Value} {ds : List (DataW H)} {ps : List MemPlace}, (ts.all fun t => P.readableRec t && decide (t < P.types.size)) = true →
    DataW.TrodAll enc P W 0 (fun _ => true) true ts vs ds ps → (∀ p ∈ ps, p.block < W.heap.size ∧ sp p.block = true) → DataW.TrodAll enc P W' 0 sp true ts vs ds ps
  | [], _, _, _, _, ht, _ => by
    obtain ⟨rfl, rfl, rfl⟩ := trodAll_nil ht
    exact trodAll_mk0
  | t :: ts, _, _, _, hr, ht, hp => by
    obtain ⟨v, vs', d, ds', p, q, rfl, rfl, rfl, h1, h2⟩ := trodAll_cons ht
    simp only [List.all_cons, Bool.and_eq_true, decide_eq_true_eq] at hr
    refine ⟨p, q, ?_, h.trodAll hl (by simpa using hr.2) h2 (fun x hx => hp x (List.mem_append_right _ hx)), rfl⟩
    exact WideElems.Trod_stays hl hr.1.1 hr.1.2 h1 (fun x hx => h.sameAt (hp x (List.mem_append_left _ hx)).1) (fun x hx => (hp x (List.mem_append_left _ hx)).2)

theorem shut_bool {sp : Nat → Bool} {hd : Bool} {b0 : Nat} {t : TypeId} (ht : P.underlying t = some .bool) (b : Bool) : DataW.Trod enc P W b0 sp hd t (.bool b) (.lit (.bool b)) [] := ⟨1, by simp [DataW.trod, Value.cells, ht]⟩

theorem okWide_bool_mk {t : TypeId} (ht : P.underlying t = some .bool) (b : Bool) : Value.okWide P W .any 0 t (.bool b) := by
  simp [Value.okWide, ht, Cell.okWide, Cell.ok]

/-- 'true', and every argument reads as it did. -/
theorem post_true {f : Func} {s : ChangeSpec} {apart fresh handsOn again : Bool} {args : Array Value} {ds gs : List (DataW H)} {before : List MemPlace} {tb : TypeId} (hl : laidOutB P = true) (hp : (f.params.toList.all fun t => P.readableRec t && decide (t < P.types.size)) = true)
    (hrt : f.resultTypes = #[tb]) (htb : P.underlying tb = some .bool) (hv : s.vars = []) (hfn : s.fn H (ds ++ gs) = { results := [.lit (.bool true)], args := ds })
    (hW : DataW.Whole enc P f.params.toList s.vars apart W args.toList ds gs before) (h : Left0 W W') : s.post enc P f apart fresh handsOn again W args (.bool true) W' := by
  have hlt := hW.lt
  have hW' := hW
  obtain ⟨p, q, hA, hV, hpq, hz, hn⟩ := hW
  rw [hv] at hV
  obtain ⟨rfl, rfl⟩ := trodVars_none hV
  simp only [List.append_nil] at hpq
  subst hpq
  have hres : ∀ (b : Nat) (sp : Nat → Bool) (hd : Bool), DataW.TrodAll enc P W' b sp hd f.resultTypes.toList (Value.resultList f.resultTypes.size (.bool true)) [.lit (.bool true)] [] := fun b sp hd => by
    rw [hrt]
    exact trodAll_mk1 (shut_bool htb true)
  have hargs : ∀ sp : Nat → Bool, (∀ x ∈ before, sp x.block = true) → DataW.TrodAll enc P W' 0 sp true f.params.toList args.toList ds before := fun sp hsp => h.trodAll hl hp hA (fun x hx => ⟨hlt x hx, hsp x hx⟩)
  have hvars : ∀ sp : Nat → Bool, DataW.TrodVars enc P W' sp s.vars [] [] := fun sp => by rw [hv]; trivial
  have hok : ∀ (j : Nat) (t : TypeId) (r : Value), f.resultTypes[j]? = some t → (Value.resultList f.resultTypes.size (.bool true))[j]? = some r → Value.okWide P W' .any 0 t r := fun j t r h1 h2 => by
    rw [hrt] at h1 h2
    cases j with
    | zero =>
      simp [Value.resultList] at h1 h2
      subst h1; subst h2
      exact okWide_bool_mk htb true
    | succ j => simp at h1
  refine ⟨ds, [], before, [], before, [], hW', ?_, ?_, ?_, h.kept _, fun _ => ⟨hok, [.lit (.bool true)] ++ ds, [], before, ?_, fun x hx _ => hx⟩⟩
  · rw [hfn]; exact hres _ _ _
  · rw [hfn]; exact hargs _ (fun x hx => by simpa using hlt x hx)
  · rw [hfn]; exact hvars _
  · refine ⟨before, [], ?_, hvars _, by simp, fun b off hb => ?_, fun ha => hn ha⟩
    · have := trodAll_append (hargs (fun _ => true) (fun _ _ => rfl)) (hres 0 (fun _ => true) true)
      simpa using this
    · rw [h.frozen (hlt _ hb)]; exact hz b off hb
end

end Go.Tl
