/- Closed facts of this seat's program, part by part. -/
import Derived.Test.YtglploknmdbigaaGreatDoorFa
import Derived.Test.YtglploknmdbigaaGreatDoorRows
namespace Go.Proofs.YtglploknmdbigaaGreatDoor
open Go Go.Ev
set_option maxRecDepth 1000000 in
theorem goes0 : (Tryz.prog.funcs.toList.take 200).all (fun fn => !Func.goes fn) = true := by kernel_rfl
set_option maxRecDepth 1000000 in
theorem goes1 : ((Tryz.prog.funcs.toList.drop 200).take 200).all (fun fn => !Func.goes fn) = true := by kernel_rfl
set_option maxRecDepth 1000000 in
theorem goes2 : (((Tryz.prog.funcs.toList.drop 200).drop 200).take 200).all (fun fn => !Func.goes fn) = true := by kernel_rfl
set_option maxRecDepth 1000000 in
theorem goes3 : ((((Tryz.prog.funcs.toList.drop 200).drop 200).drop 200)).all (fun fn => !Func.goes fn) = true := by kernel_rfl
theorem goesAll : Tryz.prog.funcs.toList.all (fun fn => !Func.goes fn) = true := (all_part goes0 (all_part goes1 (all_part goes2 goes3)))
set_option maxRecDepth 1000000 in
theorem heard0 : (Tryz.prog.funcs.toList.take 50).all (fun fn => (Stop.rowOf fn).isNone || !fn.norace) = true := by kernel_rfl
set_option maxRecDepth 1000000 in
theorem heard1 : ((Tryz.prog.funcs.toList.drop 50).take 50).all (fun fn => (Stop.rowOf fn).isNone || !fn.norace) = true := by kernel_rfl
set_option maxRecDepth 1000000 in
theorem heard2 : (((Tryz.prog.funcs.toList.drop 50).drop 50).take 50).all (fun fn => (Stop.rowOf fn).isNone || !fn.norace) = true := by kernel_rfl
set_option maxRecDepth 1000000 in
theorem heard3 : ((((Tryz.prog.funcs.toList.drop 50).drop 50).drop 50).take 50).all (fun fn => (Stop.rowOf fn).isNone || !fn.norace) = true := by kernel_rfl
set_option maxRecDepth 1000000 in
theorem heard4 : (((((Tryz.prog.funcs.toList.drop 50).drop 50).drop 50).drop 50).take 50).all (fun fn => (Stop.rowOf fn).isNone || !fn.norace) = true := by kernel_rfl
set_option maxRecDepth 1000000 in
theorem heard5 : ((((((Tryz.prog.funcs.toList.drop 50).drop 50).drop 50).drop 50).drop 50).take 50).all (fun fn => (Stop.rowOf fn).isNone || !fn.norace) = true := by kernel_rfl
set_option maxRecDepth 1000000 in
theorem heard6 : (((((((Tryz.prog.funcs.toList.drop 50).drop 50).drop 50).drop 50).drop 50).drop 50).take 50).all (fun fn => (Stop.rowOf fn).isNone || !fn.norace) = true := by kernel_rfl
set_option maxRecDepth 1000000 in
theorem heard7 : ((((((((Tryz.prog.funcs.toList.drop 50).drop 50).drop 50).drop 50).drop 50).drop 50).drop 50).take 50).all (fun fn => (Stop.rowOf fn).isNone || !fn.norace) = true := by kernel_rfl
set_option maxRecDepth 1000000 in
theorem heard8 : (((((((((Tryz.prog.funcs.toList.drop 50).drop 50).drop 50).drop 50).drop 50).drop 50).drop 50).drop 50).take 50).all (fun fn => (Stop.rowOf fn).isNone || !fn.norace) = true := by kernel_rfl
set_option maxRecDepth 1000000 in
theorem heard9 : ((((((((((Tryz.prog.funcs.toList.drop 50).drop 50).drop 50).drop 50).drop 50).drop 50).drop 50).drop 50).drop 50).take 50).all (fun fn => (Stop.rowOf fn).isNone || !fn.norace) = true := by kernel_rfl
set_option maxRecDepth 1000000 in
theorem heard10 : (((((((((((Tryz.prog.funcs.toList.drop 50).drop 50).drop 50).drop 50).drop 50).drop 50).drop 50).drop 50).drop 50).drop 50).take 50).all (fun fn => (Stop.rowOf fn).isNone || !fn.norace) = true := by kernel_rfl
set_option maxRecDepth 1000000 in
theorem heard11 : ((((((((((((Tryz.prog.funcs.toList.drop 50).drop 50).drop 50).drop 50).drop 50).drop 50).drop 50).drop 50).drop 50).drop 50).drop 50).take 50).all (fun fn => (Stop.rowOf fn).isNone || !fn.norace) = true := by kernel_rfl
set_option maxRecDepth 1000000 in
theorem heard12 : (((((((((((((Tryz.prog.funcs.toList.drop 50).drop 50).drop 50).drop 50).drop 50).drop 50).drop 50).drop 50).drop 50).drop 50).drop 50).drop 50).take 50).all (fun fn => (Stop.rowOf fn).isNone || !fn.norace) = true := by kernel_rfl
set_option maxRecDepth 1000000 in
theorem heard13 : ((((((((((((((Tryz.prog.funcs.toList.drop 50).drop 50).drop 50).drop 50).drop 50).drop 50).drop 50).drop 50).drop 50).drop 50).drop 50).drop 50).drop 50).take 50).all (fun fn => (Stop.rowOf fn).isNone || !fn.norace) = true := by kernel_rfl
set_option maxRecDepth 1000000 in
theorem heard14 : (((((((((((((((Tryz.prog.funcs.toList.drop 50).drop 50).drop 50).drop 50).drop 50).drop 50).drop 50).drop 50).drop 50).drop 50).drop 50).drop 50).drop 50).drop 50).take 50).all (fun fn => (Stop.rowOf fn).isNone || !fn.norace) = true := by kernel_rfl
set_option maxRecDepth 1000000 in
theorem heard15 : ((((((((((((((((Tryz.prog.funcs.toList.drop 50).drop 50).drop 50).drop 50).drop 50).drop 50).drop 50).drop 50).drop 50).drop 50).drop 50).drop 50).drop 50).drop 50).drop 50)).all (fun fn => (Stop.rowOf fn).isNone || !fn.norace) = true := by kernel_rfl
theorem heardAll : Tryz.prog.funcs.toList.all (fun fn => (Stop.rowOf fn).isNone || !fn.norace) = true := (all_part heard0 (all_part heard1 (all_part heard2 (all_part heard3 (all_part heard4 (all_part heard5 (all_part heard6 (all_part heard7 (all_part heard8 (all_part heard9 (all_part heard10 (all_part heard11 (all_part heard12 (all_part heard13 (all_part heard14 heard15)))))))))))))))
set_option maxRecDepth 1000000 in
theorem row0 : ((List.range Tryz.prog.types.size).take 50).all (rowFine Tryz.prog) = true := by kernel_rfl
set_option maxRecDepth 1000000 in
theorem row1 : (((List.range Tryz.prog.types.size).drop 50).take 50).all (rowFine Tryz.prog) = true := by kernel_rfl
set_option maxRecDepth 1000000 in
theorem row2 : ((((List.range Tryz.prog.types.size).drop 50).drop 50).take 50).all (rowFine Tryz.prog) = true := by kernel_rfl
set_option maxRecDepth 1000000 in
theorem row3 : (((((List.range Tryz.prog.types.size).drop 50).drop 50).drop 50).take 50).all (rowFine Tryz.prog) = true := by kernel_rfl
set_option maxRecDepth 1000000 in
theorem row4 : ((((((List.range Tryz.prog.types.size).drop 50).drop 50).drop 50).drop 50).take 50).all (rowFine Tryz.prog) = true := by kernel_rfl
set_option maxRecDepth 1000000 in
theorem row5 : (((((((List.range Tryz.prog.types.size).drop 50).drop 50).drop 50).drop 50).drop 50).take 50).all (rowFine Tryz.prog) = true := by kernel_rfl
set_option maxRecDepth 1000000 in
theorem row6 : ((((((((List.range Tryz.prog.types.size).drop 50).drop 50).drop 50).drop 50).drop 50).drop 50).take 50).all (rowFine Tryz.prog) = true := by kernel_rfl
set_option maxRecDepth 1000000 in
theorem row7 : (((((((((List.range Tryz.prog.types.size).drop 50).drop 50).drop 50).drop 50).drop 50).drop 50).drop 50).take 50).all (rowFine Tryz.prog) = true := by kernel_rfl
set_option maxRecDepth 1000000 in
theorem row8 : ((((((((((List.range Tryz.prog.types.size).drop 50).drop 50).drop 50).drop 50).drop 50).drop 50).drop 50).drop 50).take 50).all (rowFine Tryz.prog) = true := by kernel_rfl
set_option maxRecDepth 1000000 in
theorem row9 : (((((((((((List.range Tryz.prog.types.size).drop 50).drop 50).drop 50).drop 50).drop 50).drop 50).drop 50).drop 50).drop 50).take 50).all (rowFine Tryz.prog) = true := by kernel_rfl
set_option maxRecDepth 1000000 in
theorem row10 : ((((((((((((List.range Tryz.prog.types.size).drop 50).drop 50).drop 50).drop 50).drop 50).drop 50).drop 50).drop 50).drop 50).drop 50).take 50).all (rowFine Tryz.prog) = true := by kernel_rfl
set_option maxRecDepth 1000000 in
theorem row11 : (((((((((((((List.range Tryz.prog.types.size).drop 50).drop 50).drop 50).drop 50).drop 50).drop 50).drop 50).drop 50).drop 50).drop 50).drop 50).take 50).all (rowFine Tryz.prog) = true := by kernel_rfl
set_option maxRecDepth 1000000 in
theorem row12 : ((((((((((((((List.range Tryz.prog.types.size).drop 50).drop 50).drop 50).drop 50).drop 50).drop 50).drop 50).drop 50).drop 50).drop 50).drop 50).drop 50).take 50).all (rowFine Tryz.prog) = true := by kernel_rfl
set_option maxRecDepth 1000000 in
theorem row13 : (((((((((((((((List.range Tryz.prog.types.size).drop 50).drop 50).drop 50).drop 50).drop 50).drop 50).drop 50).drop 50).drop 50).drop 50).drop 50).drop 50).drop 50).take 50).all (rowFine Tryz.prog) = true := by kernel_rfl
set_option maxRecDepth 1000000 in
theorem row14 : ((((((((((((((((List.range Tryz.prog.types.size).drop 50).drop 50).drop 50).drop 50).drop 50).drop 50).drop 50).drop 50).drop 50).drop 50).drop 50).drop 50).drop 50).drop 50).take 50).all (rowFine Tryz.prog) = true := by kernel_rfl
set_option maxRecDepth 1000000 in
theorem row15 : (((((((((((((((((List.range Tryz.prog.types.size).drop 50).drop 50).drop 50).drop 50).drop 50).drop 50).drop 50).drop 50).drop 50).drop 50).drop 50).drop 50).drop 50).drop 50).drop 50).take 50).all (rowFine Tryz.prog) = true := by kernel_rfl
set_option maxRecDepth 1000000 in
theorem row16 : ((((((((((((((((((List.range Tryz.prog.types.size).drop 50).drop 50).drop 50).drop 50).drop 50).drop 50).drop 50).drop 50).drop 50).drop 50).drop 50).drop 50).drop 50).drop 50).drop 50).drop 50)).all (rowFine Tryz.prog) = true := by kernel_rfl
theorem rowsAll : (List.range Tryz.prog.types.size).all (rowFine Tryz.prog) = true := (all_part row0 (all_part row1 (all_part row2 (all_part row3 (all_part row4 (all_part row5 (all_part row6 (all_part row7 (all_part row8 (all_part row9 (all_part row10 (all_part row11 (all_part row12 (all_part row13 (all_part row14 (all_part row15 row16))))))))))))))))
set_option maxRecDepth 1000000 in
theorem par0 : (Tryz.prog.funcs.toList.take 400).all (fun f => f.params.all fun t => decide (t < Tryz.prog.types.size)) = true := by kernel_rfl
set_option maxRecDepth 1000000 in
theorem par1 : ((Tryz.prog.funcs.toList.drop 400)).all (fun f => f.params.all fun t => decide (t < Tryz.prog.types.size)) = true := by kernel_rfl
theorem parsAll : Tryz.prog.funcs.toList.all (fun f => f.params.all fun t => decide (t < Tryz.prog.types.size)) = true := (all_part par0 par1)
theorem goes : Tryz.prog.goes 3 = false := goes_of goesAll
theorem heard : Tryz.prog.stopsHeard = true := funcs_all heardAll
set_option maxRecDepth 1000000 in
theorem globals : (Tryz.prog.globals.all (fun g => decide (g.type < Tryz.prog.types.size))) = true := by kernel_rfl
theorem laidOut : laidOutB Tryz.prog = true := laidOut_of rowsAll globals (funcs_all parsAll)
set_option maxRecDepth 1000000 in
theorem rowed : mapsRowed Tryz.prog = true := by kernel_rfl
set_option maxRecDepth 1000000 in
theorem enter : Tryz.prog.mayEnter = true := by kernel_rfl
end Go.Proofs.YtglploknmdbigaaGreatDoor
