/- Working the rules by simp: each step an equation; what comes next is always a name with its arguments, so that simp does not walk into it ahead of its time. -/
import Derived.Test.YtjcenhgfonhidaaTlP
namespace Go.Tl
open Go.RowKit

def optK (r : Option (AV × Heap)) (K : AV → Heap → Prop) : Prop := match r with
  | some (x, σ') => K x σ'
  | none => False
theorem optK_some {x : AV} {s : Heap} {K : AV → Heap → Prop} : optK (some (x, s)) K = K x s := rfl

def nrm (K : Exit → List AV → Heap → Prop) (e : List AV) (s : Heap) : Prop := K .normal e s
theorem nrm_eq {K : Exit → List AV → Heap → Prop} {e : List AV} {s : Heap} : nrm K e s = K .normal e s := rfl

def seqK (G : Prg) (pls : Plans) (b : Code) (K : Exit → List AV → Heap → Prop) (x : Exit) (e : List AV) (s : Heap) : Prop := match x with
  | .normal => RunC G pls b e s K
  | x => K x e s
def blockK (id : Nat) (K : Exit → List AV → Heap → Prop) (x : Exit) (e : List AV) (s : Heap) : Prop := match x with
  | .exit i => if i = id then K .normal e s else K (.exit i) e s
  | x => K x e s
def condF (G : Prg) (pls : Plans) (a b : Code) (env : List AV) (σ : Heap) (K : Exit → List AV → Heap → Prop) (t : Bool) : Prop := if t then RunC G pls a env σ K else RunC G pls b env σ K
def boolK (y : Option AV) (F : Bool → Prop) : Prop := match y with
  | some (.bool b) => F b
  | _ => False
theorem boolK_some {b : Bool} {F : Bool → Prop} : boolK (some (.bool b)) F = F b := rfl
def loopB (G : Prg) (pls : Plans) (b : Code) (e : List AV) (s : Heap) (M : Exit → List AV → Heap → Prop) : Prop := RunC G pls b e s M

section
variable {G : Prg} {pls : Plans} {env : List AV} {σ : Heap} {K : Exit → List AV → Heap → Prop}
theorem RunC_seq {a b : Code} : RunC G pls (.seq a b) env σ K = RunC G pls a env σ (seqK G pls b K) := rfl
theorem seqK_normal {b : Code} : seqK G pls b K .normal env σ = RunC G pls b env σ K := rfl
theorem seqK_ret {b : Code} : seqK G pls b K .ret env σ = K .ret env σ := rfl
theorem seqK_exit {b : Code} {i : Nat} : seqK G pls b K (.exit i) env σ = K (.exit i) env σ := rfl
theorem RunC_skip : RunC G pls .skip env σ K = K .normal env σ := rfl
theorem RunC_ret : RunC G pls .ret env σ K = K .ret env σ := rfl
theorem RunC_exit {id : Nat} : RunC G pls (.exit id) env σ K = K (.exit id) env σ := rfl
theorem RunC_cond {c : Operand} {a b : Code} : RunC G pls (.cond c a b) env σ K = boolK (ev G env c) (condF G pls a b env σ K) := by
  simp only [RunC, boolK, condF, Br]
  rfl
theorem condF_true {a b : Code} : condF G pls a b env σ K true = RunC G pls a env σ K := rfl
theorem condF_false {a b : Code} : condF G pls a b env σ K false = RunC G pls b env σ K := rfl
theorem condF_split {a b : Code} {t : Bool} (h1 : t = true → RunC G pls a env σ K) (h2 : t = false → RunC G pls b env σ K) : condF G pls a b env σ K t := by
  cases t
  · exact h2 rfl
  · exact h1 rfl
theorem RunC_block {id : Nat} {b : Code} : RunC G pls (.block id b) env σ K = RunC G pls b env σ (blockK id K) := rfl
theorem blockK_normal {id : Nat} : blockK id K .normal env σ = K .normal env σ := rfl
theorem blockK_ret {id : Nat} : blockK id K .ret env σ = K .ret env σ := rfl
theorem blockK_hit {id : Nat} : blockK id K (.exit id) env σ = K .normal env σ := by simp [blockK]
theorem blockK_miss {id i : Nat} (h : (i == id) = false) : blockK id K (.exit i) env σ = K (.exit i) env σ := by simp at h; simp [blockK, h]
theorem RunC_reg {id : Nat} {ops : Array Oper} : RunC G pls (.region id ops false) env σ K = OpsRun G ops ops.toList env σ (nrm K) := rfl
def planK (pl : Option (List PStep)) (G : Prg) (ops : Array Oper) (env : List AV) (σ : Heap) (K : List AV → Heap → Prop) : Prop := match pl with
  | none => OpsRun G ops ops.toList env σ K
  | some pl => DrawRun G ops pl env σ K
theorem planK_none {ops : Array Oper} {K : List AV → Heap → Prop} : planK none G ops env σ K = OpsRun G ops ops.toList env σ K := rfl
theorem planK_some {pl : List PStep} {ops : Array Oper} {K : List AV → Heap → Prop} : planK (some pl) G ops env σ K = DrawRun G ops pl env σ K := rfl
theorem RunC_draw {id : Nat} {ops : Array Oper} : RunC G pls (.region id ops true) env σ K = planK (pls.lookup id) G ops env σ (nrm K) := by
  simp only [RunC]
  unfold planK
  rfl
theorem RunC_loop {b : Code} : RunC G pls (.loop b) env σ K = LoopW (loopB G pls b) K env σ := rfl
end

/-! ### Operations in their row -/
def opsK (G : Prg) (ops : Array Oper) (rest : List Oper) (env : List AV) (dst : Option Tmp) (K : List AV → Heap → Prop) (x : AV) (s : Heap) : Prop := OpsRun G ops rest (putA env dst x) s K
def opsF (G : Prg) (ops : Array Oper) (o : Oper) (rest : List Oper) (env : List AV) (σ : Heap) (K : List AV → Heap → Prop) (t : Bool) : Prop :=
  if t then OpRun G o env σ (opsK G ops rest env o.dst K) else OpsRun G ops rest (putA env o.dst (.tup [])) σ K
def drawK (G : Prg) (ops : Array Oper) (pend : List Nat) (rest : List PStep) (env : List AV) (dst : Option Tmp) (K : List AV → Heap → Prop) (x : AV) (s : Heap) : Prop := Stay G ops (putA env dst x) s pend (DrawRun G ops rest (putA env dst x) s K)
def drawF (G : Prg) (ops : Array Oper) (o : Oper) (pend : List Nat) (rest : List PStep) (env : List AV) (σ : Heap) (K : List AV → Heap → Prop) (t : Bool) : Prop :=
  if t then OpRun G o env σ (drawK G ops pend rest env o.dst K) else DrawRun G ops rest (putA env o.dst (.tup [])) σ K
def wantK (y : Option AV) (want : Bool) (F : Bool → Prop) : Prop := match y with
  | some (.bool b) => F (b == want)
  | some (.tup _) => F false
  | _ => False
theorem wantK_bool {b w : Bool} {F : Bool → Prop} : wantK (some (.bool b)) w F = F (b == w) := rfl
theorem wantK_tup {xs : List AV} {w : Bool} {F : Bool → Prop} : wantK (some (.tup xs)) w F = F false := rfl
def stepK (G : Prg) (ops : Array Oper) (o : Oper) (rest : List Oper) (env : List AV) (σ : Heap) (K : List AV → Heap → Prop) : Prop := match o.guard with
  | none => OpRun G o env σ (opsK G ops rest env o.dst K)
  | some (j, w) => wantK (yieldA ops env j) w (opsF G ops o rest env σ K)
def stepD (G : Prg) (ops : Array Oper) (o : Oper) (pend : List Nat) (rest : List PStep) (env : List AV) (σ : Heap) (K : List AV → Heap → Prop) : Prop := match o.guard with
  | none => OpRun G o env σ (drawK G ops pend rest env o.dst K)
  | some (j, w) => wantK (yieldA ops env j) w (drawF G ops o pend rest env σ K)

section
variable {G : Prg} {ops : Array Oper} {env : List AV} {σ : Heap} {K : List AV → Heap → Prop}
theorem OpsRun_nil : OpsRun G ops [] env σ K = K env σ := rfl
theorem OpsRun_cons {o : Oper} {rest : List Oper} : OpsRun G ops (o :: rest) env σ K = stepK G ops o rest env σ K := by
  simp only [OpsRun, stepK, WantA, opsF, wantK, Br]
  rfl
def annF (G : Prg) (ops : Array Oper) (rest : List PStep) (env : List AV) (σ : Heap) (K : List AV → Heap → Prop) (b : Bool) : Prop := b = true ∧ DrawRun G ops rest env σ K
theorem DrawRun_ann {i : Nat} {rest : List PStep} : DrawRun G ops (.ann i :: rest) env σ K = annF G ops rest env σ K (freshA G (opd ops i).op env).isSome := rfl
theorem annF_true {rest : List PStep} : annF G ops rest env σ K true = DrawRun G ops rest env σ K := by simp [annF]
theorem DrawRun_nil : DrawRun G ops [] env σ K = K env σ := rfl
theorem DrawRun_cons {i : Nat} {pend : List Nat} {rest : List PStep} : DrawRun G ops (.op i pend :: rest) env σ K = stepD G ops (opd ops i) pend rest env σ K := by
  simp only [DrawRun, stepD, WantA, drawF, wantK, Br]
  rfl
variable {dst : Option Tmp} {op : Op} {t : TypeId} {pos : String} {af : Array Edge} {rest : List Oper} {pend : List Nat} {rs : List PStep} {j : Nat} {w : Bool}
theorem stepK_none : stepK G ops ⟨dst, op, t, pos, af, none⟩ rest env σ K = OpRun G ⟨dst, op, t, pos, af, none⟩ env σ (opsK G ops rest env dst K) := rfl
theorem stepK_some : stepK G ops ⟨dst, op, t, pos, af, some (j, w)⟩ rest env σ K = wantK (yieldA ops env j) w (opsF G ops ⟨dst, op, t, pos, af, some (j, w)⟩ rest env σ K) := rfl
theorem stepD_none : stepD G ops ⟨dst, op, t, pos, af, none⟩ pend rs env σ K = OpRun G ⟨dst, op, t, pos, af, none⟩ env σ (drawK G ops pend rs env dst K) := rfl
theorem stepD_some : stepD G ops ⟨dst, op, t, pos, af, some (j, w)⟩ pend rs env σ K = wantK (yieldA ops env j) w (drawF G ops ⟨dst, op, t, pos, af, some (j, w)⟩ pend rs env σ K) := rfl
theorem opsF_true {gd : Option (Nat × Bool)} : opsF G ops ⟨dst, op, t, pos, af, gd⟩ rest env σ K true = OpRun G ⟨dst, op, t, pos, af, gd⟩ env σ (opsK G ops rest env dst K) := rfl
theorem opsF_false {gd : Option (Nat × Bool)} : opsF G ops ⟨dst, op, t, pos, af, gd⟩ rest env σ K false = OpsRun G ops rest (putA env dst (.tup [])) σ K := rfl
theorem drawF_true {gd : Option (Nat × Bool)} : drawF G ops ⟨dst, op, t, pos, af, gd⟩ pend rs env σ K true = OpRun G ⟨dst, op, t, pos, af, gd⟩ env σ (drawK G ops pend rs env dst K) := rfl
theorem drawF_false {gd : Option (Nat × Bool)} : drawF G ops ⟨dst, op, t, pos, af, gd⟩ pend rs env σ K false = DrawRun G ops rs (putA env dst (.tup [])) σ K := rfl
theorem opsK_eq {x : AV} {s : Heap} : opsK G ops rest env dst K x s = OpsRun G ops rest (putA env dst x) s K := rfl
theorem drawK_eq {x : AV} {s : Heap} : drawK G ops pend rs env dst K x s = Stay G ops (putA env dst x) s pend (DrawRun G ops rs (putA env dst x) s K) := rfl
theorem opsF_split {o : Oper} {b : Bool} (h1 : b = true → opsF G ops o rest env σ K true) (h2 : b = false → opsF G ops o rest env σ K false) : opsF G ops o rest env σ K b := by
  cases b
  · exact h2 rfl
  · exact h1 rfl
theorem drawF_split {o : Oper} {b : Bool} (h1 : b = true → drawF G ops o pend rs env σ K true) (h2 : b = false → drawF G ops o pend rs env σ K false) : drawF G ops o pend rs env σ K b := by
  cases b
  · exact h2 rfl
  · exact h1 rfl
end

def callK (G : Prg) (f : Option AV) (xs : Option (List AV)) (σ : Heap) (K : AV → Heap → Prop) : Prop := match f, xs with
    | some (.fn k first cap), some xs => G.fns k = true ∧ Fn G k (first ++ xs ++ cap) σ K
    | some (.yl id), some xs => Yield G id xs σ K
    | _, _ => False
theorem callK_fn {G : Prg} {k : FuncId} {first cap xs : List AV} {σ : Heap} {K : AV → Heap → Prop} : callK G (some (.fn k first cap)) (some xs) σ K = (G.fns k = true ∧ Fn G k (first ++ xs ++ cap) σ K) := rfl
theorem callK_yl {G : Prg} {id : Nat} {xs : List AV} {σ : Heap} {K : AV → Heap → Prop} : callK G (some (.yl id)) (some xs) σ K = Yield G id xs σ K := rfl
theorem CallA_val {G : Prg} {f : Operand} {args : Array Operand} {ts : Array TypeId} {env : List AV} {σ : Heap} {K : AV → Heap → Prop} : CallA G ⟨.value f, args, ts⟩ env σ K = callK G (ev G env f) (evs G env args.toList) σ K := rfl
def exB' (G : Prg) (b : Builtin) (ts : List TypeId) (xs : Option (List AV)) (σ : Heap) : Option (AV × Heap) := match xs with
  | some xs => exB G b ts xs σ
  | none => none
theorem exB'_some {G : Prg} {b : Builtin} {ts : List TypeId} {xs : List AV} {σ : Heap} : exB' G b ts (some xs) σ = exB G b ts xs σ := rfl
theorem CallA_blt {G : Prg} {b : Builtin} {args : Array Operand} {ts : Array TypeId} {env : List AV} {σ : Heap} {K : AV → Heap → Prop} : CallA G ⟨.builtin b, args, ts⟩ env σ K = optK (exB' G b ts.toList (evs G env args.toList) σ) K := by
  unfold CallA optK exB'
  cases evs G env args.toList <;> rfl

def endK (r : Option (List AV)) (σ : Heap) (Q : AV → Heap → Prop) : Prop := match r with
  | some xs => Q (resV xs) σ
  | none => False
theorem endK_some {xs : List AV} {σ : Heap} {Q : AV → Heap → Prop} : endK (some xs) σ Q = Q (resV xs) σ := rfl
theorem Ends_ret {G : Prg} {rs : List ResultVar} {env : List AV} {σ : Heap} {Q : AV → Heap → Prop} : Ends G rs Q .ret env σ = endK (resA G env σ rs) σ Q := rfl
theorem Ends_normal {G : Prg} {rs : List ResultVar} {env : List AV} {σ : Heap} {Q : AV → Heap → Prop} : Ends G rs Q .normal env σ = endK (resA G env σ rs) σ Q := rfl

section
variable {G : Prg} {dst : Option Tmp} {t : TypeId} {pos : String} {af : Array Edge} {gd : Option (Nat × Bool)} {env : List AV} {σ : Heap} {K : AV → Heap → Prop}
theorem OpRun_move {x : Operand} : OpRun G ⟨dst, .move x, t, pos, af, gd⟩ env σ K = optK (ex G (.move x) env σ) K := rfl
theorem OpRun_assign {x : Operand} : OpRun G ⟨dst, .assign x, t, pos, af, gd⟩ env σ K = optK (ex G (.assign x) env σ) K := rfl
theorem OpRun_pick {c a b : Operand} : OpRun G ⟨dst, .pick c a b, t, pos, af, gd⟩ env σ K = optK (ex G (.pick c a b) env σ) K := rfl
theorem OpRun_alloc {t' : TypeId} : OpRun G ⟨dst, .alloc t', t, pos, af, gd⟩ env σ K = optK (ex G (.alloc t') env σ) K := rfl
theorem OpRun_box {t' : TypeId} {x : Operand} : OpRun G ⟨dst, .box t' x, t, pos, af, gd⟩ env σ K = optK (ex G (.box t' x) env σ) K := rfl
theorem OpRun_build {t' : TypeId} {ps : Array (Nat × Operand)} : OpRun G ⟨dst, .build t' ps, t, pos, af, gd⟩ env σ K = optK (ex G (.build t' ps) env σ) K := rfl
theorem OpRun_buildSlice {t' : TypeId} {n : Nat} {ps : Array (Nat × Operand)} : OpRun G ⟨dst, .buildSlice t' n ps, t, pos, af, gd⟩ env σ K = optK (ex G (.buildSlice t' n ps) env σ) K := rfl
theorem OpRun_load {t' : TypeId} {x : Operand} : OpRun G ⟨dst, .load t' x, t, pos, af, gd⟩ env σ K = optK (ex G (.load t' x) env σ) K := rfl
theorem OpRun_store {t' : TypeId} {x y : Operand} : OpRun G ⟨dst, .store t' x y, t, pos, af, gd⟩ env σ K = optK (ex G (.store t' x y) env σ) K := rfl
theorem OpRun_nilCheck {x : Operand} : OpRun G ⟨dst, .nilCheck x, t, pos, af, gd⟩ env σ K = optK (ex G (.nilCheck x) env σ) K := rfl
theorem OpRun_binOp {op : BinOp} {t' : TypeId} {x y : Operand} {u : TypeId} : OpRun G ⟨dst, .binOp op t' x y u, t, pos, af, gd⟩ env σ K = optK (ex G (.binOp op t' x y u) env σ) K := rfl
theorem OpRun_unOp {op : UnOp} {t' : TypeId} {x : Operand} : OpRun G ⟨dst, .unOp op t' x, t, pos, af, gd⟩ env σ K = optK (ex G (.unOp op t' x) env σ) K := rfl
theorem OpRun_convert {s d : TypeId} {x : Operand} : OpRun G ⟨dst, .convert s d x, t, pos, af, gd⟩ env σ K = optK (ex G (.convert s d x) env σ) K := rfl
theorem OpRun_makeFunc {f : Go.Fn} {a b : Array Operand} : OpRun G ⟨dst, .makeFunc f a b, t, pos, af, gd⟩ env σ K = optK (ex G (.makeFunc f a b) env σ) K := rfl
theorem OpRun_slice {t' : TypeId} {x : Operand} {lo hi mx : Option Operand} : OpRun G ⟨dst, .slice t' x lo hi mx, t, pos, af, gd⟩ env σ K = optK (ex G (.slice t' x lo hi mx) env σ) K := rfl
theorem OpRun_fieldAddr {t' : TypeId} {x : Operand} {f : Nat} : OpRun G ⟨dst, .fieldAddr t' x f, t, pos, af, gd⟩ env σ K = optK (ex G (.fieldAddr t' x f) env σ) K := rfl
theorem OpRun_indexAddr {t' : TypeId} {x i : Operand} : OpRun G ⟨dst, .indexAddr t' x i, t, pos, af, gd⟩ env σ K = optK (ex G (.indexAddr t' x i) env σ) K := rfl
theorem OpRun_extract {x : Operand} {i : Nat} : OpRun G ⟨dst, .extract x i, t, pos, af, gd⟩ env σ K = optK (ex G (.extract x i) env σ) K := rfl
end

theorem OpRun_call {G : Prg} {dst : Option Tmp} {cl : Call} {t : TypeId} {pos : String} {af : Array Edge} {gd : Option (Nat × Bool)} {env : List AV} {σ : Heap} {K : AV → Heap → Prop} : OpRun G ⟨dst, .call cl, t, pos, af, gd⟩ env σ K = CallA G cl env σ K := rfl

theorem fz_sl {σ : Heap} {d id g off len sz : Nat} : fz σ (d + 1) (.sl id g off len sz) = (match σ[id]? with
      | some (.cells row g') => if g = g' then (mapO (fz σ d) ((row.drop off).take (len * sz))).map fun r => .fs r len else none
      | _ => none) := rfl
theorem fz_ptr {σ : Heap} {d id g off : Nat} : fz σ (d + 1) (.ptr id g off) = (match σ[id]? with
      | some (.cells row g') => if g = g' then (mapO (fz σ d) row).map fun r => .fptr r off else none
      | _ => none) := rfl
theorem fz_agg {σ : Heap} {d : Nat} {cs : List AV} : fz σ (d + 1) (.agg cs) = (mapO (fz σ d) cs).map .agg := rfl
theorem fz_tup {σ : Heap} {d : Nat} {cs : List AV} : fz σ (d + 1) (.tup cs) = (mapO (fz σ d) cs).map .tup := rfl
theorem fz_int {σ : Heap} {d : Nat} {k : IntKind} {n : Int} : fz σ (d + 1) (.int k n) = some (.int k n) := rfl
theorem fz_bool {σ : Heap} {d : Nat} {b : Bool} : fz σ (d + 1) (.bool b) = some (.bool b) := rfl
theorem fz_str {σ : Heap} {d : Nat} {s : ByteArray} : fz σ (d + 1) (.str s) = some (.str s) := rfl
theorem fz_nilp {σ : Heap} {d : Nat} : fz σ (d + 1) .nilp = some .nilp := rfl
theorem fz_nils {σ : Heap} {d : Nat} : fz σ (d + 1) .nils = some .nils := rfl
theorem fz_es {σ : Heap} {d : Nat} : fz σ (d + 1) .es = some .es := rfl
theorem fz_eu {σ : Heap} {d : Nat} : fz σ (d + 1) .eu = some .eu := rfl
theorem fz_fs {σ : Heap} {d : Nat} {r : List AV} {n : Nat} : fz σ (d + 1) (.fs r n) = some (.fs r n) := rfl
theorem fz_fptr {σ : Heap} {d : Nat} {r : List AV} {n : Nat} : fz σ (d + 1) (.fptr r n) = some (.fptr r n) := rfl
theorem fz_nilf {σ : Heap} {d : Nat} : fz σ (d + 1) .nilf = some .nilf := rfl
theorem fz_nili {σ : Heap} {d : Nat} : fz σ (d + 1) .nili = some .nili := rfl
theorem fz_nilm {σ : Heap} {d : Nat} : fz σ (d + 1) .nilm = some .nilm := rfl

theorem pickA_bool {t a b : Bool} : pickA t (.bool a) (.bool b) = .bool (if t then a else b) := rfl

theorem ofV_int {k : IntKind} {n : Int} : ofV (.int k n) = some (.int k n) := rfl
theorem ofV_bool {b : Bool} : ofV (.bool b) = some (.bool b) := rfl
theorem ofV_str {s : ByteArray} : ofV (.string s) = some (.str s) := rfl
theorem ofV_nilp : ofV (.pointer none) = some .nilp := rfl
theorem ofV_nils : ofV (.slice none 0 0) = some .nils := rfl
theorem ofV_nilm : ofV (.map none) = some .nilm := rfl
theorem ofV_nilf : ofV .nilFunc = some .nilf := rfl
theorem ofV_nili : ofV .nilIface = some .nili := rfl

/-- Temporaries as a table: those that were written, the rest as they began. -/
def lk (l : List (Nat × AV)) (i : Nat) : AV := match l with
  | [] => .tup []
  | (d, x) :: l => if d = i then x else lk l i

def mkE (n : Nat) (l : List (Nat × AV)) : List AV := (List.range n).map (lk l)

theorem mkE_get {n : Nat} {l : List (Nat × AV)} {i : Nat} : (mkE n l)[i]? = if i < n then some (lk l i) else none := by
  unfold mkE
  by_cases h : i < n
  · simp [h]
  · simp [h]

theorem mkE_put {n : Nat} {l : List (Nat × AV)} {d : Nat} {x : AV} : (mkE n l).set d x = mkE n ((d, x) :: l) := by
  apply List.ext_getElem?
  intro i
  rw [List.getElem?_set, mkE_get, mkE_get]
  simp only [mkE, List.length_map, List.length_range]
  by_cases h : d = i
  · subst h; simp [lk]
  · simp [lk, h]

def numb (k : Nat) : List AV → List (Nat × AV)
  | [] => []
  | x :: xs => (k, x) :: numb (k + 1) xs

theorem lk_numb : ∀ (xs : List AV) (k i : Nat), lk (numb k xs) (k + i) = (xs[i]?).getD (.tup [])
  | [], k, i => by simp [numb, lk]
  | x :: xs, k, i => by
    cases i with
    | zero => simp [numb, lk]
    | succ i =>
      have := lk_numb xs (k + 1) i
      rw [show k + 1 + i = k + (i + 1) by omega] at this
      simp only [numb, lk]
      rw [if_neg (by omega), this]; simp

theorem mkE_start (args : List AV) (n : Nat) (h : args.length ≤ n) : args ++ List.replicate (n - args.length) (.tup []) = mkE n (numb 0 args) := by
  apply List.ext_getElem?
  intro i
  rw [mkE_get]
  have := lk_numb args 0 i
  rw [Nat.zero_add] at this
  rw [this]
  by_cases h1 : i < args.length
  · rw [List.getElem?_append_left h1, if_pos (by omega), List.getElem?_eq_getElem h1]; rfl
  · rw [List.getElem?_append_right (by omega), List.getElem?_eq_none (by omega : args.length ≤ i), List.getElem?_replicate]
    by_cases h2 : i < n
    · rw [if_pos (by omega), if_pos h2]; rfl
    · rw [if_neg (by omega), if_neg h2]

theorem pickA_true {x y : AV} : pickA true x y = x := by unfold pickA; split <;> simp
theorem pickA_false {x y : AV} : pickA false x y = y := by unfold pickA; split <;> simp
theorem put_none {env : List AV} {x : AV} : putA env none x = env := rfl
theorem put_mk {n : Nat} {l : List (Nat × AV)} {d : Nat} {x : AV} : putA (mkE n l) (some d) x = mkE n ((d, x) :: l) := mkE_put
theorem ev_tmp {G : Prg} {n : Nat} {l : List (Nat × AV)} {i : Nat} : ev G (mkE n l) (.tmp i) = if i < n then some (lk l i) else none := mkE_get
theorem ev_const {G : Prg} {env : List AV} {v : Value} : ev G env (.const v) = ofV v := rfl
theorem ev_func {G : Prg} {env : List AV} {f : FuncId} : ev G env (.func f) = some (.fn f [] []) := rfl
theorem ev_glob {G : Prg} {env : List AV} {g : Nat} : ev G env (.global g) = (G.glob g).map (.fptr · 0) := rfl
theorem lk_hit {d : Nat} {x : AV} {l : List (Nat × AV)} : lk ((d, x) :: l) d = x := by simp [lk]
theorem lk_miss {d i : Nat} {x : AV} {l : List (Nat × AV)} (h : (d == i) = false) : lk ((d, x) :: l) i = lk l i := by simp at h; simp [lk, h]

/-- What a pure function ends with. -/
def PureQ (r : AV) (v : AV) (σ : Heap) : Prop := fz σ 8 v = some r
theorem PureQ_eq {r v : AV} {σ : Heap} : PureQ r v σ = (fz σ 8 v = some r) := rfl
theorem Pure.intro (pls : Plans) {G : Prg} {k : FuncId} {fn : Func} {code : Code} {args : List AV} {r : AV} (n : Nat) (rs : Array ResultVar) (hf : G.P.funcs[k]? = some fn) (hb : fn.body = some code) (hn : fn.ntmps = n) (hr : fn.results = rs) (hl : args.length ≤ n) (hp : codeB pls code = true)
    (h : RunC G pls code (mkE n (numb 0 args)) [] (Ends G rs.toList (PureQ r))) : Pure G k args r := by
  subst hn; subst hr
  exact Fn.intro pls hf hb hp (by rw [mkE_start _ _ hl]; exact h)
theorem Fn.start (pls : Plans) {G : Prg} {k : FuncId} {fn : Func} {code : Code} {args : List AV} {σ : Heap} {Q : AV → Heap → Prop} (n : Nat) (rs : Array ResultVar) (hf : G.P.funcs[k]? = some fn) (hb : fn.body = some code) (hn : fn.ntmps = n) (hr : fn.results = rs) (hl : args.length ≤ n) (hp : codeB pls code = true)
    (h : RunC G pls code (mkE n (numb 0 args)) σ (Ends G rs.toList Q)) : Fn G k args σ Q := by
  subst hn; subst hr
  exact Fn.intro pls hf hb hp (by rw [mkE_start _ _ hl]; exact h)

attribute [go_sem] pickA_true pickA_false RunC_seq seqK_normal seqK_ret seqK_exit RunC_skip RunC_ret RunC_exit RunC_cond boolK_some condF_true condF_false RunC_block blockK_normal blockK_ret blockK_hit blockK_miss RunC_reg nrm_eq planK_none planK_some RunC_draw RunC_loop OpsRun_nil OpsRun_cons DrawRun_nil DrawRun_cons DrawRun_ann annF_true freshA Option.isSome_some stepK_none stepK_some stepD_none stepD_some opsF_true opsF_false drawF_true drawF_false opsK_eq drawK_eq wantK_bool wantK_tup callK_fn callK_yl CallA_val CallA_blt exB'_some optK_some OpRun_call OpRun_move OpRun_assign OpRun_pick OpRun_alloc OpRun_box OpRun_build OpRun_buildSlice OpRun_load OpRun_store OpRun_nilCheck OpRun_binOp OpRun_unOp OpRun_convert OpRun_makeFunc OpRun_slice OpRun_fieldAddr OpRun_indexAddr OpRun_extract endK_some Ends_ret Ends_normal ex evs evParts evOpt loadA storeA rdRow splice TyRow.agg AV.cells AV.one resA resV mapO fz_sl fz_ptr fz_agg fz_tup fz_int fz_bool fz_str fz_nilp fz_nils fz_es fz_eu fz_fs fz_fptr fz_nilf fz_nili fz_nilm PureQ_eq pickA_bool Stay Stay1 floatA valA yieldA binA intA shiftA unA convA nilCheckA extractA maxA minA foldA exB lenA lenOfA slLive live rdSl sliceA indexAddrA fieldAddrA appendA buildA buildSliceA fillA eqA eqCells AV.kindOf strA opd isStr intOr ev_tmp ev_const ev_func ev_glob ofV_int ofV_bool ofV_str ofV_nilp ofV_nils ofV_nilm ofV_nilf ofV_nili lk_hit lk_miss put_mk mkE_get numb put_none
attribute [go_sem] if_true if_false Bool.false_eq_true true_and and_true List.length_cons List.length_nil List.take_succ_cons List.take_zero List.drop_succ_cons List.drop_zero List.cons_append List.nil_append List.getElem?_cons_succ List.getElem?_cons_zero List.getElem?_nil List.all_cons List.all_nil Bool.and_self Bool.and_true Bool.true_and Option.map_some Option.map_none Option.bind_some Option.bind_none List.lookup_nil List.lookup_cons List.append_nil List.set_cons_zero List.set_cons_succ Option.isSome_some List.getElem?_toArray Option.getD_some beq_self_eq_true Bool.not_true Bool.not_false List.map_cons List.map_nil BEq.rfl Br_true Br_false bne_self_eq_false beq_true beq_false and_self List.size_toArray Function.comp_apply Function.comp List.toList_toArray

end Go.Tl
