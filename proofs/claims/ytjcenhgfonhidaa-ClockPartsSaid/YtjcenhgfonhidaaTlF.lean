/- Append, make, copy; numbers. -/
import Derived.Test.YtjcenhgfonhidaaTlE
namespace Go.Tl
open Go.RowKit

/-! ### append -/
def appendA (esz eb : Nat) (σ : Heap) (s x : AV) : Option (AV × Heap) :=
  match rdSl σ esz x with
  | none => none
  | some (news, n) =>
    if n = 0 then (match lenOfA s with | some _ => if slLive σ s then some (s, σ) else none | none => none)
    else if esz = 0 ∨ !news.all AV.one then none
    else match s with
      | .nils | .es => if n * eb ≤ 140737488355328 ∧ n ≤ 4611686018427387904 then some (.sl σ.length 0 0 n esz, σ ++ [.cells news 0]) else none
      | .sl id g off len sz => match σ[id]? with
        | some (.cells row g') => if g = g' ∧ sz = esz then
            (if off + (len + n) * esz ≤ row.length then some (.sl id g off (len + n) esz, σ.set id (.cells (splice row (off + len * esz) news) g))
             else if off = 0 ∧ (len + n) * eb ≤ 140737488355328 ∧ len + n ≤ 4611686018427387904 then some (.sl id (g + 1) 0 (len + n) esz, σ.set id (.cells (row.take (len * esz) ++ news) (g + 1)))
             else none)
          else none
        | _ => none
      | _ => none

theorem all_one_list {M : Mem} {L : List Ent} {xs : List AV} {us : List Value} (h : RepL M L xs us.toArray) (h1 : xs.all AV.one = true) : ∀ v ∈ us, v.oneCell' = true := fun v hv =>
  oneCell' (all_one h h1 v (by simpa using hv))

theorem growCells_rep {c : Cfg} {row : List AV} {us : List Value} {rest : Array Value} (hr : RepL c.M c.L row us.toArray) (h1 : row.all AV.one = true) :
    ∀ (i : Nat) (x : AV), row[i]? = some x → ∃ u : Value, (us.toArray ++ rest)[i]? = some u ∧ c.rep x u ∧ oneCell u := fun i x hx => by
  obtain ⟨u, hu, hh⟩ := hr.get hx
  have hlt := (Array.getElem?_eq_some_iff.1 hu).1
  exact ⟨u, by rw [Array.getElem?_append_left hlt]; exact hu, hh, all_one hr h1 u (Array.mem_of_getElem? hu)⟩

/-- append in place. -/
theorem run_append_in {P : Program} (w : World) {t u ty e : TypeId} {i : TypeInfo} (ht : P.underlying t = some (.slice e)) (hu : ∃ e', P.underlying u = some (.slice e')) (hi : P.info? e = some i)
    (b off sLen sCap : Nat) (bt : TypeId) (cur : Array Value) (hg : w.heap[b]? = some (.cells cur bt (0, 0))) (a : Addr) (m c : Nat) (news : List Value) (hl : news.length = m * i.size) (hnews : ∀ j u, news[j]? = some u → w.cell? (a.add j) = some u)
    (h1 : ∀ u ∈ news, u.oneCell' = true) (hroom : sLen + m ≤ sCap) (hfit : off + sLen * i.size + news.length ≤ cur.size) :
    (Builtin.append_ #[t, u] ty #[.slice (some ⟨b, off, none⟩) sLen sCap, .slice (some a) m c]).run P w = .ok (.slice (some ⟨b, off, none⟩) (sLen + m) sCap)
      (w.setRow b (cur.toList.take (off + sLen * i.size) ++ news ++ cur.toList.drop (off + sLen * i.size + news.length)).toArray) := by
  obtain ⟨e', hu⟩ := hu
  have hf := run_firstCells_some (P := P) w i.size m a m c news hl hnews
  have hst := run_storeCells_at P b (off + sLen * i.size) bt news 0 cur w hg (by simpa using hfit) h1
  simp only [Nat.add_zero] at hst
  simp [Builtin.append_, run_underlying ht, run_underlying hu, sizeOf, typeInfo, hi, Builtin.lenOf, hroom, hf, add_none, hst]

/-- append in a new block. -/
theorem run_append_new {P : Program} (w : World) {t u ty e : TypeId} {i : TypeInfo} {z : Value} (ht : P.underlying t = some (.slice e)) (hu : ∃ e', P.underlying u = some (.slice e')) (hi : P.info? e = some i) (hz : i.zero = some z)
    (bs : Option Addr) (sLen sCap : Nat) (olds : List Value) (hlo : olds.length = sLen * i.size) (hb : bs = none → sLen = 0) (holds : ∀ b, bs = some b → ∀ j v, olds[j]? = some v → w.cell? (b.add j) = some v)
    (a : Addr) (n c : Nat) (news : List Value) (hl : news.length = n * i.size) (hnews : ∀ j v, news[j]? = some v → w.cell? (a.add j) = some v)
    (hg : sCap < sLen + n) (h63 : sLen + n ≤ 4611686018427387904) (hfit : Builtin.nextslicecap (sLen + n) sCap * i.bytes ≤ 281474976710656) :
    (Builtin.append_ #[t, u] ty #[.slice bs sLen sCap, .slice (some a) n c]).run P w =
      .ok (.slice (some ⟨w.heap.size, 0, none⟩) (sLen + n) (grownCap w (sLen + n) sCap e))
        (w.drew.alloc (.cells ((olds ++ news).toArray ++ Builtin.zeroCells z.cells (grownCap w (sLen + n) sCap e - (sLen + n))) e)) := by
  obtain ⟨e', hu⟩ := hu
  have hn : ¬ (sLen + n ≤ sCap) := by omega
  have h63' : ¬ (9223372036854775807 < ((sLen : Int) + (n : Int))) := by omega
  have h48' : ¬ (281474976710656 < Builtin.nextslicecap (sLen + n) sCap * i.bytes) := by omega
  have hf := run_firstCells_some (P := P) w.drew i.size n a n c news hl (by simpa using hnews)
  cases bs with
  | none =>
    have h0 := hb rfl
    subst h0
    have : olds = [] := by simpa using hlo
    subst this
    have hn' : ¬ n ≤ sCap := by omega
    have h1 : ¬ (9223372036854775807 < (n : Int)) := by omega
    have h2 : ¬ (281474976710656 < Builtin.nextslicecap n sCap * i.bytes) := by rw [Nat.zero_add] at h48'; exact h48'
    simp [Builtin.append_, run_underlying ht, run_underlying hu, sizeOf, typeInfo, zeroValue, hi, hz, Builtin.lenOf, hn', h1, h2, Question.forced, run_firstCells_none, hf, newRow, grownCap]
  | some b =>
    have hfo := run_firstCells_some (P := P) w.drew i.size sLen b sLen sCap olds hlo (by simpa using holds b rfl)
    simp [Builtin.append_, run_underlying ht, run_underlying hu, sizeOf, typeInfo, zeroValue, hi, hz, Builtin.lenOf, hn, h63', h48', Question.forced, hf, hfo, newRow, grownCap]
    congr 2
    apply Array.ext'
    simp [List.append_assoc]

theorem run_append_zero {P : Program} (w : World) {t u ty e : TypeId} {i : TypeInfo} (ht : P.underlying t = some (.slice e)) (hu : ∃ e', P.underlying u = some (.slice e')) (hi : P.info? e = some i)
    (bs : Option Addr) (sLen sCap : Nat) (hcap : sLen ≤ sCap) (a : Option Addr) (c : Nat) :
    (Builtin.append_ #[t, u] ty #[.slice bs sLen sCap, .slice a 0 c]).run P w = .ok (.slice bs sLen sCap) w := by
  obtain ⟨e', hu⟩ := hu
  have hf : ∀ a : Option Addr, (Builtin.firstCells i.size 0 (.slice a 0 c)).run P w = .ok #[] w := fun a => by
    cases a with
    | none => exact run_firstCells_none w _ _ _ _
    | some a => exact run_firstCells_some (P := P) w i.size 0 a 0 c [] (by simp) (by simp)
  cases bs <;> simp [Builtin.append_, run_underlying ht, run_underlying hu, sizeOf, typeInfo, hi, Builtin.lenOf, hcap, hf, storeCells]

theorem append_ok {G : Prg} {c : Cfg} {σ σ' : Heap} (hs : Sim c σ) {t u ty e esz eb : Nat} {r : TyRow} (ht : G.row t = some r) (hk : r.knd = .slice e esz eb) (hu : ∃ e', G.P.underlying u = some (.slice e'))
    {re : TyRow} (hre : G.row e = some re) {s x y : AV} {vs vx : Value} (hrs : c.rep s vs) (hrx : c.rep x vx) (h : appendA esz eb σ s x = some (y, σ')) :
    ∃ c' v, (Builtin.append_ #[t, u] ty #[vs, vx]).run G.P c.w = .ok v c'.w ∧ c.Le c' ∧ Sim c' σ' ∧ c'.rep y v := by
  obtain ⟨hut, ie, hie, hes, heb⟩ := slice_row ht hk
  obtain ⟨i2, d2, hi2, hd2, hs2, _, hzl, ⟨z, hz, hz1, hz2, hz3, hz4⟩, _⟩ := row_info hre
  rw [hie] at hi2; cases hi2
  subst hes; subst heb
  unfold appendA at h
  split at h
  case h_1 => cases h
  case h_2 news n hrd =>
    obtain ⟨hnl, a, cap, rfl, hcap, hnone, hcells⟩ := rdSl_rep hs hrx hrd
    split at h
    case isTrue hn0 =>
      subst hn0
      split at h
      case h_2 => cases h
      case h_1 len hlen =>
        split at h
        case isFalse => cases h
        case isTrue hl =>
          cases h
          obtain ⟨bs, scap, rfl, hc⟩ := lenOf_rep hs hrs hlen hl
          exact ⟨c, _, run_append_zero c.w hut hu hie bs _ _ hc a cap, Cfg.Le.refl c, hs, hrs⟩
    case isFalse hn0 =>
      split at h
      case isTrue => cases h
      case isFalse hcond =>
        have hesz : ie.size ≠ 0 := fun h => hcond (.inl h)
        have hall : news.all AV.one = true := by
          cases hq : news.all AV.one with
          | true => rfl
          | false => exact absurd (.inr (by simp [hq])) hcond
        cases a with
        | none => exact absurd (hnone rfl).1 hn0
        | some a =>
          obtain ⟨us, hul, hur, huc⟩ := hcells a rfl
          have hul' : us.length = n * ie.size := by rw [hul, hnl]
          have hone := all_one_list hur hall
          -- a new block with nothing old
          have fresh : ∀ bs : Option Addr, (∃ cs, c.rep s (.slice bs 0 cs) ∧ vs = .slice bs 0 0) → n * ie.bytes ≤ 140737488355328 → n ≤ 4611686018427387904 →
              ∃ c' v, (Builtin.append_ #[t, u] ty #[vs, .slice (some a) n cap]).run G.P c.w = .ok v c'.w ∧ c.Le c' ∧ Sim c' (σ ++ [.cells news 0]) ∧ c'.rep (.sl σ.length 0 0 n ie.size) v := by
            rintro bs ⟨_, _, rfl⟩ hb1 hb2
            have hrun := run_append_new (P := G.P) (ty := ty) c.w hut hu hie hz bs 0 0 [] (by simp) (fun _ => rfl) (fun b _ j v hj => by simp at hj) a n cap us hul' huc (by omega) (by omega)
              (by have := growslice_fits (need := n) (old := 0) (bytes := ie.bytes) (by omega) hb1; simpa using this)
            obtain ⟨l1, s1⟩ := Sim.same (w' := c.w.drew) hs rfl rfl rfl
            simp only [List.nil_append, Nat.zero_add] at hrun
            obtain ⟨c', hn', hle, hsim, hL⟩ := newRow_ok (P := G.P) s1 e (row := news) (vs := us.toArray ++ Builtin.zeroCells z.cells (grownCap c.w n 0 e - n)) (by simp [hul]) (growCells_rep hur hall)
            have hw : c'.w = c.w.drew.alloc (.cells (us.toArray ++ Builtin.zeroCells z.cells (grownCap c.w n 0 e - n)) e) := by
              simp [newRow] at hn'; exact hn'.symm
            have hge := grownCap_ge c.w n 0 e
            refine ⟨c', .slice (some ⟨c.w.heap.size, 0, none⟩) n (grownCap c.w n 0 e), by rw [hrun, hw], l1.trans hle, hsim, .sl hL (Nat.le_refl _) trivial (fun _ => ⟨_, rfl, hge, by simp [hnl], ?_, ?_⟩)⟩
            · simp [hnl]; exact Nat.mul_le_mul_right _ hge
            · simp [size_zeroCells, hul', hz1, hzl, ← hs2, ← Nat.add_mul]
              have : n + (grownCap c.w n 0 e - n) = grownCap c.w n 0 e := by omega
              rw [this]
              exact Nat.le_refl _
          split at h
          case h_1 =>
            split at h
            case isFalse => cases h
            case isTrue hb => cases h; cases hrs; exact fresh none ⟨0, .nils, rfl⟩ hb.1 hb.2
          case h_2 =>
            split at h
            case isFalse => cases h
            case isTrue hb => cases h; cases hrs; exact fresh (some _) ⟨0, .es _, rfl⟩ hb.1 hb.2
          case h_3 id g off len sz =>
            split at h
            case h_2 => cases h
            case h_1 row g' hσ =>
              split at h
              case isFalse => cases h
              case isTrue hgg =>
                obtain ⟨rfl, rfl⟩ := hgg
                obtain ⟨e', he, hg, h1, hv⟩ := rep_sl_inv hrs
                obtain ⟨k1, k2, k3, cs, bt, k4, k5, k6, k7⟩ := hs.blk _ _ _ he hσ
                obtain ⟨scap, rfl, c1, c2, c3, c4⟩ := hv k1.symm
                split at h
                case isTrue hfit =>
                  cases h
                  have hm : (len + n) * ie.size ≤ scap * ie.size := by omega
                  have hle : len + n ≤ scap := Nat.le_of_mul_le_mul_right hm (Nat.pos_of_ne_zero hesz)
                  have hmul : (len + n) * ie.size = len * ie.size + n * ie.size := Nat.add_mul _ _ _
                  have hrun := run_append_in (P := G.P) (ty := ty) c.w hut hu hie e'.b off len scap bt cs k4 a n cap us hul' huc hone hle (by omega)
                  have hus : us.toArray.toList.length = us.length := by simp
                  obtain ⟨l1, s1⟩ := Sim.setRow (row' := splice row (off + len * ie.size) news) (g' := g) (cs' := (cs.toList.take (off + len * ie.size) ++ us ++ cs.toList.drop (off + len * ie.size + us.length)).toArray) hs he hσ k4
                    (by simp; omega) (Nat.le_refl _) (fun _ => splice_length _ _ _ (by omega)) (by rw [splice_length _ _ _ (by omega)]; simp; omega)
                    (by have := splice_rep (c := c) (us := us.toArray) (cs := news) (off := off + len * ie.size) (by omega) k6 k7 hur (all_one hur hall); simpa using this)
                  obtain ⟨hidlt, _⟩ := List.getElem?_eq_some_iff.1 he
                  refine ⟨_, .slice (some ⟨e'.b, off, none⟩) (len + n) scap, hrun, l1, s1, .sl (e := ⟨e'.b, g, (splice row (off + len * ie.size) news).length, e'.cs⟩) (by simp [hidlt]) (Nat.le_refl _) trivial (fun _ => ⟨scap, rfl, hle, ?_, ?_, c4⟩)⟩
                  · dsimp only; rw [splice_length _ _ _ (by omega)]; omega
                  · dsimp only; rw [splice_length _ _ _ (by omega)]; omega
                case isFalse hfit =>
                  split at h
                  case isFalse => cases h
                  case isTrue hb =>
                    obtain ⟨rfl, hb1, hb2⟩ := hb
                    cases h
                    simp only [Nat.zero_add] at c2 c3 c4 hfit
                    have hmul : (len + n) * ie.size = len * ie.size + n * ie.size := Nat.add_mul _ _ _
                    obtain ⟨hidlt, _⟩ := List.getElem?_eq_some_iff.1 he
                    have hrl : (row.take (len * ie.size) ++ news).length = (len + n) * ie.size := by simp [hnl]; omega
                    by_cases hroom : len + n ≤ scap
                    · have hm : (len + n) * ie.size ≤ scap * ie.size := Nat.mul_le_mul_right _ hroom
                      have hrun := run_append_in (P := G.P) (ty := ty) c.w hut hu hie e'.b 0 len scap bt cs k4 a n cap us hul' huc hone hroom (by omega)
                      obtain ⟨l1, s1⟩ := Sim.setRow (row' := row.take (len * ie.size) ++ news) (g' := g + 1) (cs' := (cs.toList.take (0 + len * ie.size) ++ us ++ cs.toList.drop (0 + len * ie.size + us.length)).toArray) hs he hσ k4
                        (by simp; omega) (by omega) (fun h => by omega) (by rw [hrl]; simp; omega)
                        (fun i x hx => by
                          by_cases hi : i < len * ie.size
                          · rw [List.getElem?_append_left (by simp; omega), List.getElem?_take_of_lt hi] at hx
                            obtain ⟨u', hu', r1, r2⟩ := k7 i x hx
                            refine ⟨u', ?_, r1, r2⟩
                            simp only [List.getElem?_toArray, Nat.zero_add]
                            rw [List.append_assoc, List.getElem?_append_left (by simp; omega), List.getElem?_take_of_lt hi]
                            simpa using hu'
                          · rw [List.getElem?_append_right (by simp; omega)] at hx
                            have e1 : (row.take (len * ie.size)).length = len * ie.size := by simp; omega
                            rw [e1] at hx
                            obtain ⟨u', hu', r1⟩ := hur.get hx
                            have hlt := (List.getElem?_eq_some_iff.1 (by simpa using hu' : us[i - len * ie.size]? = some u')).1
                            refine ⟨u', ?_, r1, all_one hur hall u' (Array.mem_of_getElem? hu')⟩
                            simp only [List.getElem?_toArray, Nat.zero_add]
                            have e2 : (cs.toList.take (len * ie.size)).length = len * ie.size := by simp; omega
                            rw [List.append_assoc, List.getElem?_append_right (by omega), e2, List.getElem?_append_left hlt]
                            simpa using hu')
                      refine ⟨_, .slice (some ⟨e'.b, 0, none⟩) (len + n) scap, hrun, l1, s1, .sl (e := ⟨e'.b, g + 1, (row.take (len * ie.size) ++ news).length, e'.cs⟩) (by simp [hidlt]) (Nat.le_refl _) trivial (fun _ => ⟨scap, rfl, hroom, ?_, ?_, by simpa using c4⟩)⟩
                      · dsimp only; rw [hrl]; omega
                      · dsimp only; rw [hrl]; omega
                    · have hgcond : scap < len + n := by omega
                      have holdlen : ((List.range (len * ie.size)).map fun i => (cs[i]?).getD undef).length = len * ie.size := by simp
                      have hrun := run_append_new (P := G.P) (ty := ty) c.w hut hu hie hz (some ⟨e'.b, 0, none⟩) len scap ((List.range (len * ie.size)).map fun i => (cs[i]?).getD undef) holdlen (fun h => by cases h)
                        (fun b hb j v hj => by
                          cases hb
                          have hi : j < len * ie.size := by have := (List.getElem?_eq_some_iff.1 hj).1; simpa using this
                          have hlt : j < cs.size := by omega
                          simp [hi, hlt] at hj
                          rw [add_none]; simp [World.cell?, k4, hlt, hj]) a n cap us hul' huc hgcond hb2 (growslice_fits hgcond hb1)
                      have hge := grownCap_ge c.w (len + n) scap e
                      obtain ⟨l1, s1⟩ := Sim.same (w' := c.w.drew) hs rfl rfl rfl
                      obtain ⟨l2, s2⟩ := Sim.put (c := ⟨c.M, c.L, c.w.drew⟩) (e' := ⟨c.w.heap.size, g + 1, (len + n) * ie.size, (grownCap c.w (len + n) scap e) * ie.size⟩)
                        (w' := c.w.drew.alloc (.cells ((((List.range (len * ie.size)).map fun i => (cs[i]?).getD undef) ++ us).toArray ++ Builtin.zeroCells z.cells (grownCap c.w (len + n) scap e - (len + n))) e))
                        (k' := .cells (row.take (len * ie.size) ++ news) (g + 1)) s1 he hσ rfl (by simp [k1]) (fun h => by simp at h; omega) (.inr (by simp)) (by simp) (by simp)
                        (fun b hb hne => by simp only [World.alloc, Array.getElem?_push]; rw [if_neg (by simp at hb ⊢; omega)]) rfl rfl (fun r hr => by have hr' : c.w.heap[e'.b]? = some (Obj.loop r) := hr; rw [k4] at hr'; cases hr')
                        (fun hle' => by
                          refine ⟨rfl, hrl.symm, fun o => ?_, _, e, alloc_get c.w.drew _, ?_, ?_, fun i x hx => ?_⟩
                          · cases hM : c.M c.w.heap.size o with
                            | none => rfl
                            | some v => have := World.block_lt_of_cell? _ _ (hs.prot _ _ _ hM); simp at this
                          · simp [size_zeroCells, hul', hz1, hzl, ← hs2, ← Nat.add_mul]
                            congr 1; omega
                          · simp [size_zeroCells, hul', hnl]
                            generalize (grownCap c.w (len + n) scap e - (len + n)) * z.cells.size = q
                            omega
                          · by_cases hi : i < len * ie.size
                            · rw [List.getElem?_append_left (by simp; omega), List.getElem?_take_of_lt hi] at hx
                              obtain ⟨u', hu', r1, r2⟩ := k7 i x hx
                              refine ⟨u', ?_, hle'.rep (Cfg.Le.rep l1 r1), r2⟩
                              rw [Array.getElem?_append_left (by simp; omega)]
                              simp only [List.getElem?_toArray]
                              rw [List.getElem?_append_left (by simpa using hi)]
                              simp [hi, hu']
                            · rw [List.getElem?_append_right (by simp; omega)] at hx
                              have e1 : (row.take (len * ie.size)).length = len * ie.size := by simp; omega
                              rw [e1] at hx
                              obtain ⟨u', hu', r1⟩ := hur.get hx
                              have hlt := (List.getElem?_eq_some_iff.1 (by simpa using hu' : us[i - len * ie.size]? = some u')).1
                              refine ⟨u', ?_, hle'.rep (Cfg.Le.rep l1 r1), all_one hur hall u' (Array.mem_of_getElem? hu')⟩
                              rw [Array.getElem?_append_left (by simp; omega)]
                              simp only [List.getElem?_toArray]
                              rw [List.getElem?_append_right (by simp; omega)]
                              simpa using hu')
                      refine ⟨_, .slice (some ⟨c.w.heap.size, 0, none⟩) (len + n) (grownCap c.w (len + n) scap e), hrun, l1.trans l2, s2, .sl (e := ⟨c.w.heap.size, g + 1, (len + n) * ie.size, (grownCap c.w (len + n) scap e) * ie.size⟩) (by simp [hidlt]) (Nat.le_refl _) trivial (fun _ => ⟨_, rfl, hge, by dsimp only; omega, ?_, by dsimp only; omega⟩)⟩
                      have := Nat.mul_le_mul_right ie.size hge
                      dsimp only
                      omega
          case h_4 => cases h

end Go.Tl
