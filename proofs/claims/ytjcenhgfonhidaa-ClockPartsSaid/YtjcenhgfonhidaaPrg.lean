/- The rules' program of this seat: type rows, functions, plans. Printed by genprg.py. -/
import Derived.Test.YtjcenhgfonhidaaTlS
import Derived.Test.YtjcenhgfonhidaaProg
import Derived.KernelRfl
namespace Go.Proofs.Ytjcenhgfonhidaa
open Go Go.Tl

def rows : List (TypeId × TyRow) := [
  (1, ⟨1, 8, .scalar, [.nilf]⟩),
  (2, ⟨1, 8, .scalar, [.int .i64 0]⟩),
  (3, ⟨1, 8, .scalar, [.int .i64 0]⟩),
  (4, ⟨1, 1, .scalar, [.bool false]⟩),
  (22, ⟨1, 8, .scalar, [.int .u64 0]⟩),
  (24, ⟨2, 16, .struct [(0, 1), (1, 1)], [.int .u64 0, .int .u64 0]⟩),
  (25, ⟨1, 24, .slice 2 1 8, [.nils]⟩),
  (27, ⟨1, 24, .slice 22 1 8, [.nils]⟩),
  (28, ⟨1, 8, .scalar, [.int .i64 0]⟩),
  (51, ⟨1, 8, .scalar, [.nilf]⟩),
  (53, ⟨1, 8, .scalar, [.nilp]⟩),
  (54, ⟨1, 8, .scalar, [.nilp]⟩),
  (55, ⟨1, 8, .scalar, [.nilf]⟩)]

def fns : List FuncId := [3, 4, 5, 6, 7, 8, 9, 10, 11, 12, 13, 14, 15, 16, 17, 18, 19, 20, 21]

theorem rowsOk : (rows.all fun x => rowOkB Try.prog x.1 x.2) = true := by kernel_rfl

theorem fnsOk : (fns.all (isFnB Try.prog)) = true := by kernel_rfl

noncomputable def G : Prg := Prg.of Try.prog (by kernel_rfl) rows rowsOk fns fnsOk

theorem G_P : G.P = Try.prog := rfl

@[go_sem] theorem row1 : G.row 1 = some ⟨1, 8, .scalar, [.nilf]⟩ := rfl
@[go_sem] theorem row2 : G.row 2 = some ⟨1, 8, .scalar, [.int .i64 0]⟩ := rfl
@[go_sem] theorem row3 : G.row 3 = some ⟨1, 8, .scalar, [.int .i64 0]⟩ := rfl
@[go_sem] theorem row4 : G.row 4 = some ⟨1, 1, .scalar, [.bool false]⟩ := rfl
@[go_sem] theorem row22 : G.row 22 = some ⟨1, 8, .scalar, [.int .u64 0]⟩ := rfl
@[go_sem] theorem row24 : G.row 24 = some ⟨2, 16, .struct [(0, 1), (1, 1)], [.int .u64 0, .int .u64 0]⟩ := rfl
@[go_sem] theorem row25 : G.row 25 = some ⟨1, 24, .slice 2 1 8, [.nils]⟩ := rfl
@[go_sem] theorem row27 : G.row 27 = some ⟨1, 24, .slice 22 1 8, [.nils]⟩ := rfl
@[go_sem] theorem row28 : G.row 28 = some ⟨1, 8, .scalar, [.int .i64 0]⟩ := rfl
@[go_sem] theorem row51 : G.row 51 = some ⟨1, 8, .scalar, [.nilf]⟩ := rfl
@[go_sem] theorem row53 : G.row 53 = some ⟨1, 8, .scalar, [.nilp]⟩ := rfl
@[go_sem] theorem row54 : G.row 54 = some ⟨1, 8, .scalar, [.nilp]⟩ := rfl
@[go_sem] theorem row55 : G.row 55 = some ⟨1, 8, .scalar, [.nilf]⟩ := rfl

@[go_sem] theorem und2 : G.P.underlying 2 = some (.int .i64) := Try.underlying2
@[go_sem] theorem und3 : G.P.underlying 3 = some (.int .i64) := Try.underlying3
@[go_sem] theorem und22 : G.P.underlying 22 = some (.int .u64) := Try.underlying22
@[go_sem] theorem eqs24 : G.eqs 24 [0, 0] = true := by kernel_rfl
@[go_sem] theorem und28 : G.P.underlying 28 = some (.int .i64) := Try.underlying28

@[go_sem] theorem fn3 : G.fns 3 = true := rfl
@[go_sem] theorem fn4 : G.fns 4 = true := rfl
@[go_sem] theorem fn5 : G.fns 5 = true := rfl
@[go_sem] theorem fn6 : G.fns 6 = true := rfl
@[go_sem] theorem fn7 : G.fns 7 = true := rfl
@[go_sem] theorem fn8 : G.fns 8 = true := rfl
@[go_sem] theorem fn9 : G.fns 9 = true := rfl
@[go_sem] theorem fn10 : G.fns 10 = true := rfl
@[go_sem] theorem fn11 : G.fns 11 = true := rfl
@[go_sem] theorem fn12 : G.fns 12 = true := rfl
@[go_sem] theorem fn13 : G.fns 13 = true := rfl
@[go_sem] theorem fn14 : G.fns 14 = true := rfl
@[go_sem] theorem fn15 : G.fns 15 = true := rfl
@[go_sem] theorem fn16 : G.fns 16 = true := rfl
@[go_sem] theorem fn17 : G.fns 17 = true := rfl
@[go_sem] theorem fn18 : G.fns 18 = true := rfl
@[go_sem] theorem fn19 : G.fns 19 = true := rfl
@[go_sem] theorem fn20 : G.fns 20 = true := rfl
@[go_sem] theorem fn21 : G.fns 21 = true := rfl

abbrev pls3 : Plans := []
abbrev pls4 : Plans := []
abbrev pls5 : Plans := [(5, [.ann 1, .ann 11, .op 0 [], .op 2 [], .op 4 [], .op 1 [0], .op 3 [0], .op 5 [0], .op 6 [], .op 7 [], .op 8 [], .op 9 [], .op 10 [], .op 11 [0], .op 12 [], .op 13 [], .op 14 []])]
abbrev pls6 : Plans := [(15, [.op 0 [], .op 1 [], .op 2 [], .op 3 [], .op 4 [], .op 5 [], .op 6 [], .op 7 [], .op 8 [], .op 9 [], .op 10 [7], .op 11 [], .op 12 []])]
abbrev pls7 : Plans := []
abbrev pls8 : Plans := [(9, [.op 0 [], .op 1 [], .op 2 [], .op 3 [1, 2], .op 4 [], .op 5 []])]
abbrev pls9 : Plans := []
abbrev pls10 : Plans := []
abbrev pls11 : Plans := []
abbrev pls12 : Plans := []
abbrev pls13 : Plans := [(1, [.op 0 [], .op 1 [0], .op 2 [], .op 3 [], .op 4 [], .op 5 [], .op 6 [], .op 7 [], .op 8 [], .op 9 [], .op 10 [], .op 11 [], .op 12 []])]
abbrev pls14 : Plans := []
abbrev pls15 : Plans := []
abbrev pls16 : Plans := []
abbrev pls17 : Plans := []
abbrev pls18 : Plans := []
abbrev pls19 : Plans := []
abbrev pls20 : Plans := []
abbrev pls21 : Plans := [(3, [.op 0 [], .op 1 [], .op 2 [], .op 3 [], .op 4 [], .op 5 [0], .op 6 [], .op 7 [], .op 8 [], .op 9 [], .op 10 []])]

theorem plan3 : codeB pls3 (Try.f3.body.getD .skip) = true := by kernel_rfl
theorem plan4 : codeB pls4 (Try.f4.body.getD .skip) = true := by kernel_rfl
theorem plan5 : codeB pls5 (Try.f5.body.getD .skip) = true := by kernel_rfl
theorem plan6 : codeB pls6 (Try.f6.body.getD .skip) = true := by kernel_rfl
theorem plan7 : codeB pls7 (Try.f7.body.getD .skip) = true := by kernel_rfl
theorem plan8 : codeB pls8 (Try.f8.body.getD .skip) = true := by kernel_rfl
theorem plan9 : codeB pls9 (Try.f9.body.getD .skip) = true := by kernel_rfl
theorem plan10 : codeB pls10 (Try.f10.body.getD .skip) = true := by kernel_rfl
theorem plan11 : codeB pls11 (Try.f11.body.getD .skip) = true := by kernel_rfl
theorem plan12 : codeB pls12 (Try.f12.body.getD .skip) = true := by kernel_rfl
theorem plan13 : codeB pls13 (Try.f13.body.getD .skip) = true := by kernel_rfl
theorem plan14 : codeB pls14 (Try.f14.body.getD .skip) = true := by kernel_rfl
theorem plan15 : codeB pls15 (Try.f15.body.getD .skip) = true := by kernel_rfl
theorem plan16 : codeB pls16 (Try.f16.body.getD .skip) = true := by kernel_rfl
theorem plan17 : codeB pls17 (Try.f17.body.getD .skip) = true := by kernel_rfl
theorem plan18 : codeB pls18 (Try.f18.body.getD .skip) = true := by kernel_rfl
theorem plan19 : codeB pls19 (Try.f19.body.getD .skip) = true := by kernel_rfl
theorem plan20 : codeB pls20 (Try.f20.body.getD .skip) = true := by kernel_rfl
theorem plan21 : codeB pls21 (Try.f21.body.getD .skip) = true := by kernel_rfl

end Go.Proofs.Ytjcenhgfonhidaa
