/- Code: what has to be shown, and that it is enough. -/
import Derived.Test.YtjcenhgfonhidaaTlN
namespace Go.Tl
open Go.RowKit

/-! ### Code -/
/-- Which regions need a plan of their own: their numbers, their plans. -/
abbrev Plans := List (Nat × List PStep)

/-- Is every region that draws its order as its plan says? -/
def codeB (pls : Plans) : Code → Bool
  | .region id ops true => match pls.lookup id with
    | none => planB ops ((List.range ops.size).map (.op · []))
    | some pl => planB ops pl
  | .seq a b => codeB pls a && codeB pls b
  | .cond _ a b => codeB pls a && codeB pls b
  | .block _ b => codeB pls b
  | .loop b => codeB pls b
  | _ => true

def RunC (G : Prg) (pls : Plans) : Code → List AV → Heap → (Exit → List AV → Heap → Prop) → Prop
  | .skip, env, σ, K => K .normal env σ
  | .label _, env, σ, K => K .normal env σ
  | .region _ ops false, env, σ, K => OpsRun G ops ops.toList env σ (K .normal)
  | .region id ops true, env, σ, K => match pls.lookup id with
    | none => OpsRun G ops ops.toList env σ (K .normal)
    | some pl => DrawRun G ops pl env σ (K .normal)
  | .seq a b, env, σ, K => RunC G pls a env σ fun x e s => match x with
    | .normal => RunC G pls b e s K
    | x => K x e s
  | .cond c a b, env, σ, K => match ev G env c with
    | some (.bool t) => Br t (RunC G pls a env σ K) (RunC G pls b env σ K)
    | _ => False
  | .block id b, env, σ, K => RunC G pls b env σ fun x e s => match x with
    | .exit i => if i = id then K .normal e s else K (.exit i) e s
    | x => K x e s
  | .loop b, env, σ, K => LoopW (fun e s M => RunC G pls b e s M) K env σ
  | .exit id, env, σ, K => K (.exit id) env σ
  | .goto l, env, σ, K => K (.goto l) env σ
  | .ret, env, σ, K => K .ret env σ
  | .rangeFunc f ps as b, env, σ, K => Run G (.rangeFunc f ps as b) env σ K
  | .scope b, env, σ, K => Run G (.scope b) env σ K
  | .refuse _, _, _, _ => False

theorem range_map (ops : Array Oper) : (List.range ops.size).map (fun i => ops[i]?) = ops.toList.map some := by
  apply List.ext_getElem?
  intro i
  simp only [List.getElem?_map]
  by_cases hi : i < ops.size
  · simp [hi]
  · simp [hi]

theorem run_loop {G : Prg} {pls : Plans} {body : Code} (hb : ∀ env σ M, RunC G pls body env σ M → Run G body env σ M) {K : Exit → List AV → Heap → Prop} {env : List AV} {σ : Heap} (h : LoopW (fun e s M => RunC G pls body e s M) K env σ) : Run G (.loop body) env σ K := by
  intro ro B c a ⟨hG, hs, hr, he, hd, hB⟩
  have key : ∀ (env : List AV) (σ : Heap), LoopW (fun e s M => RunC G pls body e s M) K env σ → ∀ (c' : Cfg) (a : Act), c.Le c' → Pre G ro B c' σ env a →
      ∀ (b : Frame) (k : List Item) (cs : List Frame), b.roundOf = (Fw ro).round → (Fw ro).fn b.fn → (Fw ro).room (cs.length + 1 + 0) →
      ∃ e a' w', Post G B c K e a' w' ∧ ArrivesIn (Machine.fenced G.P (Fw ro)) G.P (lone (b.atR a (.code body :: .inLoop body :: k)) cs c'.w) b k cs e a' w' := by
    intro env σ hl
    induction hl with
    | step M h hn hx ih =>
      intro c' a hle ⟨hG, hs, hr, he, hd, hB⟩ b k cs hro hbf hrm
      obtain ⟨e, a₁, w₁, ⟨c1, env1, σ1, rfl, q2, q3, q4, q5, q6⟩, harr⟩ := hb _ _ _ h ro B c' a ⟨hG, hs, hr, he, hd, hB⟩ b (.inLoop body :: k) cs hro hbf hrm
      cases e with
      | normal =>
        obtain ⟨e₂, a₂, w₂, hq₂, harr₂⟩ := ih _ _ q6 c1 a₁ (hle.trans q2) ⟨GOk.mono q2.mem hG, q3, hr.mono q2, q4, q5, Nat.le_trans hB q2.size⟩ b k cs hro hbf hrm
        exact ⟨e₂, a₂, w₂, hq₂, .of_steps (StepsIn.trans harr (.one (fenced_calm hbf hrm rfl) stepR_inLoop)) harr₂⟩
      | exit id => exact ⟨_, a₁, _, ⟨c1, env1, σ1, rfl, hle.trans q2, q3, q4, q5, hx _ _ _ (by simp) q6⟩, .pass (x := .inLoop body) rfl (fun _ _ => .inl (by simp)) harr⟩
      | goto l => exact ⟨_, a₁, _, ⟨c1, env1, σ1, rfl, hle.trans q2, q3, q4, q5, hx _ _ _ (by simp) q6⟩, .pass (x := .inLoop body) rfl (fun _ _ => .inl (by simp)) harr⟩
      | ret => exact ⟨_, a₁, _, ⟨c1, env1, σ1, rfl, hle.trans q2, q3, q4, q5, hx _ _ _ (by simp) q6⟩, .pass (x := .inLoop body) rfl (fun _ _ => .inl (by simp)) harr⟩
      | panic ch => exact ⟨_, a₁, _, ⟨c1, env1, σ1, rfl, hle.trans q2, q3, q4, q5, hx _ _ _ (by simp) q6⟩, .pass (x := .inLoop body) rfl (fun _ _ => .inl (by simp)) harr⟩
      | outgrown => exact ⟨_, a₁, _, ⟨c1, env1, σ1, rfl, hle.trans q2, q3, q4, q5, hx _ _ _ (by simp) q6⟩, .pass (x := .inLoop body) rfl (fun _ _ => .inl (by simp)) harr⟩
  intro b k cs hro hbf hrm
  obtain ⟨e, a', w', hq, harr⟩ := key env σ h c a (Cfg.Le.refl c) ⟨hG, hs, hr, he, hd, hB⟩ b k cs hro hbf hrm
  exact ⟨e, a', w', hq, .of_steps (.one (fenced_calm hbf hrm rfl) stepR_loop) harr⟩

theorem runC_ok {G : Prg} {pls : Plans} : ∀ (code : Code), codeB pls code = true → ∀ (env : List AV) (σ : Heap) (K : Exit → List AV → Heap → Prop), RunC G pls code env σ K → Run G code env σ K
  | .skip, _, env, σ, K, h => fun ro B c a ⟨hG, hs, hr, he, hd, hB⟩ => wpIn_skip ⟨c, env, σ, rfl, Cfg.Le.refl c, hs, he, hd, h⟩
  | .label l, _, env, σ, K, h => fun ro B c a ⟨hG, hs, hr, he, hd, hB⟩ => wpIn_label ⟨c, env, σ, rfl, Cfg.Le.refl c, hs, he, hd, h⟩
  | .region id ops false, _, env, σ, K, h => fun ro B c a ⟨hG, hs, hr, he, hd, hB⟩ => wpIn_region (opsRun_ok ops.toList (List.range ops.size) (range_map ops) env σ h c a hG hs he
      (fun c' env' σ' a' q1 q2 q3 q4 q5 => ⟨c', env', σ', rfl, q1, q2, q3, by rw [q4]; exact hd.mono q1, q5⟩))
  | .region id ops true, hb, env, σ, K, h => by
    simp only [codeB] at hb
    simp only [RunC] at h
    split at h
    · rename_i hl
      simp only [hl] at hb
      exact draw_ok hb (drawRun_of_ops h)
    · rename_i pl hl
      simp only [hl] at hb
      exact draw_ok hb h
  | .seq x y, hb, env, σ, K, h => fun ro B c a ⟨hG, hs, hr, he, hd, hB⟩ => by
    refine wpIn_seq (wpIn_mono (runC_ok x (by simp only [codeB, Bool.and_eq_true] at hb; exact hb.1) env σ _ h ro B c a ⟨hG, hs, hr, he, hd, hB⟩) ?_)
    rintro e a' w' ⟨c', env', σ', rfl, q1, q2, q3, q4, q5⟩
    cases e with
    | normal => exact wpIn_mono (runC_ok y (by simp only [codeB, Bool.and_eq_true] at hb; exact hb.2) env' σ' K q5 ro B c' a' ⟨GOk.mono q1.mem hG, q2, hr.mono q1, q3, q4, Nat.le_trans hB q1.size⟩) fun e2 a2 w2 p => Post.le q1 p
    | exit id => exact ⟨c', env', σ', rfl, q1, q2, q3, q4, q5⟩
    | goto id => exact ⟨c', env', σ', rfl, q1, q2, q3, q4, q5⟩
    | ret => exact ⟨c', env', σ', rfl, q1, q2, q3, q4, q5⟩
    | panic ch => exact ⟨c', env', σ', rfl, q1, q2, q3, q4, q5⟩
    | outgrown => exact ⟨c', env', σ', rfl, q1, q2, q3, q4, q5⟩
  | .cond cd x y, hb, env, σ, K, h => fun ro B c a ⟨hG, hs, hr, he, hd, hB⟩ => by
    simp only [RunC] at h
    split at h
    case h_2 => cases h
    case h_1 t ht =>
      have hv := ev_rep hG he ht
      generalize hq : a.eval cd = v at hv
      cases hv
      refine wpIn_cond hq ?_
      cases t
      · simp at h; exact runC_ok y (by simp only [codeB, Bool.and_eq_true] at hb; exact hb.2) env σ K h ro B c a ⟨hG, hs, hr, he, hd, hB⟩
      · simp at h; exact runC_ok x (by simp only [codeB, Bool.and_eq_true] at hb; exact hb.1) env σ K h ro B c a ⟨hG, hs, hr, he, hd, hB⟩
  | .block id x, hb, env, σ, K, h => fun ro B c a ⟨hG, hs, hr, he, hd, hB⟩ => by
    refine wpIn_block (wpIn_mono (runC_ok x hb env σ _ h ro B c a ⟨hG, hs, hr, he, hd, hB⟩) ?_)
    rintro e a' w' ⟨c', env', σ', rfl, q1, q2, q3, q4, q5⟩
    cases e with
    | exit i =>
      simp only [Exit.inBlock] at q5 ⊢
      split
      · rename_i hi; simp only [hi, if_true] at q5; exact ⟨c', env', σ', rfl, q1, q2, q3, q4, q5⟩
      · rename_i hi; simp only [hi, if_false] at q5; exact ⟨c', env', σ', rfl, q1, q2, q3, q4, q5⟩
    | normal => exact ⟨c', env', σ', rfl, q1, q2, q3, q4, q5⟩
    | goto i => exact ⟨c', env', σ', rfl, q1, q2, q3, q4, q5⟩
    | ret => exact ⟨c', env', σ', rfl, q1, q2, q3, q4, q5⟩
    | panic ch => exact ⟨c', env', σ', rfl, q1, q2, q3, q4, q5⟩
    | outgrown => exact ⟨c', env', σ', rfl, q1, q2, q3, q4, q5⟩
  | .loop x, hb, env, σ, K, h => run_loop (fun env σ M => runC_ok x hb env σ M) h
  | .exit id, _, env, σ, K, h => fun ro B c a ⟨hG, hs, hr, he, hd, hB⟩ => wpIn_exit ⟨c, env, σ, rfl, Cfg.Le.refl c, hs, he, hd, h⟩
  | .goto l, _, env, σ, K, h => fun ro B c a ⟨hG, hs, hr, he, hd, hB⟩ => wpIn_goto ⟨c, env, σ, rfl, Cfg.Le.refl c, hs, he, hd, h⟩
  | .ret, _, env, σ, K, h => fun ro B c a ⟨hG, hs, hr, he, hd, hB⟩ => wpIn_ret ⟨c, env, σ, rfl, Cfg.Le.refl c, hs, he, hd, h⟩
  | .rangeFunc f ps as b, _, env, σ, K, h => h
  | .scope b, _, env, σ, K, h => h
  | .refuse _, _, _, _, _, h => h.elim

end Go.Tl
