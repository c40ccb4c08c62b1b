/- The functions of the program, as the abstract machine has them, in pieces: written by a program of this session's (gen2.py), checked below. -/
import Derived.Test.YtohjmflbgohkhaaEngZJ
namespace Go.Proofs.Ytohjmflbgohkhaa.E
set_option linter.all false
open Go
def a3_48b : ACode := .seq (.ops [
  ⟨some [true, false, false, false, false, true, true], none, .call 5 [], []⟩,
  ⟨some [false, false, true], none, .mv (.t [true, false, false, false, false, true, true]), []⟩]) .ret
def a3_48 : ACode := a3_48b
def a3_47b : ACode := .ops [
  ⟨some [true, false, true, true, false, false], none, .mv (.t [true, false, false, true]), []⟩,
  ⟨some [false, false, true, true, false, false], none, .arith .add (.t [true, false, true, true, false, false]) (.c (.int .i64 (.ofNat 1))), []⟩,
  ⟨some [true, false, false, true], none, .mv (.t [false, false, true, true, false, false]), []⟩]
def a3_47 : ACode := a3_47b
def a3_46b : ACode := .seq (.ops [
  ⟨some [false, false, true], none, .mv (.c (.bool false)), []⟩]) .ret
def a3_46 : ACode := a3_46b
def a3_45b : ACode := .cond (.t [false, true, false, false, false, true, true]) a3_46 .skip
def a3_45 : ACode := a3_45b
def a3_44b : ACode := .seq (.ops [
  ⟨some [true, true, true, false, false, true, true], none, .mv (.t [false, false, true, true]), []⟩,
  ⟨some [false, true, true, false, false, true, true], none, .mv (.t [true, false, false, true]), []⟩,
  ⟨some [true, false, true, false, false, true, true], none, .indexAddrS 1 (.t [true, true, true, false, false, true, true]) (.t [false, true, true, false, false, true, true]), []⟩,
  ⟨some [false, false, true, false, false, true, true], none, .load false 1 (.t [true, false, true, false, false, true, true]), []⟩,
  ⟨some [true, true, false, false, false, true, true], none, .mv (.t [false, false, false, true]), []⟩,
  ⟨some [false, true, false, false, false, true, true], none, .eqs true .int (.t [false, false, true, false, false, true, true]) (.t [true, true, false, false, false, true, true]), []⟩]) a3_45
def a3_44 : ACode := a3_44b
def a3_43b : ACode := .ops [
  ⟨some [true, true, false, true, false, true, true], none, .mv (.t [true]), []⟩,
  ⟨some [false, true, false, true, false, true, true], none, .mv (.t [true, false, false, true]), []⟩,
  ⟨some [true, false, false, true, false, true, true], none, .indexAddrS 1 (.t [true, true, false, true, false, true, true]) (.t [false, true, false, true, false, true, true]), []⟩,
  ⟨some [false, false, false, true, false, true, true], none, .load false 1 (.t [true, false, false, true, false, true, true]), []⟩,
  ⟨some [false, false, false, true], none, .mv (.t [false, false, false, true, false, true, true]), []⟩]
def a3_43 : ACode := a3_43b
def a3_42b : ACode := .cond (.t [false, false, true, true, false, true, true]) a3_43 .skip
def a3_42 : ACode := a3_42b
def a3_41b : ACode := .seq (.ops [
  ⟨some [true, false, false, true, true, true, true], none, .mv (.t [true, false, false, true]), []⟩,
  ⟨some [false, false, false, true, true, true, true], none, .mv (.t [true, true]), []⟩,
  ⟨some [true, true, true, false, true, true, true], none, .arith .geq (.t [true, false, false, true, true, true, true]) (.t [false, false, false, true, true, true, true]), []⟩,
  ⟨some [false, true, true, false, true, true, true], none, .mv (.t [true, true, true, false, true, true, true]), []⟩,
  ⟨some [true, false, true, false, true, true, true], some ([false, true, true, false, true, true, true], true), .mv (.t [true, false, false, true]), []⟩,
  ⟨some [false, false, true, false, true, true, true], some ([false, true, true, false, true, true, true], true), .mv (.t [true]), []⟩,
  ⟨some [true, true, false, false, true, true, true], some ([false, true, true, false, true, true, true], true), .len (.t [false, false, true, false, true, true, true]), []⟩,
  ⟨some [false, true, false, false, true, true, true], some ([false, true, true, false, true, true, true], true), .arith .lss (.t [true, false, true, false, true, true, true]) (.t [true, true, false, false, true, true, true]), []⟩,
  ⟨some [true, false, false, false, true, true, true], none, .pick (.t [false, true, true, false, true, true, true]) (.t [false, true, false, false, true, true, true]) (.c (.bool false)), []⟩,
  ⟨some [false, false, false, false, true, true, true], none, .mv (.t [true, false, false, false, true, true, true]), []⟩,
  ⟨some [true, true, true, true, false, true, true], some ([false, false, false, false, true, true, true], true), .mv (.t [true, false, false, true]), []⟩,
  ⟨some [false, true, true, true, false, true, true], some ([false, false, false, false, true, true, true], true), .mv (.t [false, true, false, true]), []⟩,
  ⟨some [true, false, true, true, false, true, true], some ([false, false, false, false, true, true, true], true), .arith .lss (.t [true, true, true, true, false, true, true]) (.t [false, true, true, true, false, true, true]), []⟩,
  ⟨some [false, false, true, true, false, true, true], none, .pick (.t [false, false, false, false, true, true, true]) (.t [true, false, true, true, false, true, true]) (.c (.bool false)), []⟩]) a3_42
def a3_41 : ACode := a3_41b
def a3_40b : ACode := .seq a3_41 a3_44
def a3_40 : ACode := a3_40b
def a3_39b : ACode := .ops [
  ⟨some [true, false, true, true, true, true, true], none, .mv (.t [false]), []⟩,
  ⟨some [false, false, true, true, true, true, true], none, .mv (.t [true, false, false, true]), []⟩,
  ⟨some [true, true, false, true, true, true, true], none, .indexAddrS 1 (.t [true, false, true, true, true, true, true]) (.t [false, false, true, true, true, true, true]), []⟩,
  ⟨some [false, true, false, true, true, true, true], none, .load false 1 (.t [true, true, false, true, true, true, true]), []⟩,
  ⟨some [false, false, false, true], none, .mv (.t [false, true, false, true, true, true, true]), []⟩]
def a3_39 : ACode := a3_39b
def a3_38b : ACode := .cond (.t [false, true, true, true, true, true, true]) a3_39 .skip
def a3_38 : ACode := a3_38b
def a3_37b : ACode := .seq (.ops [
  ⟨some [true, true, false, true, false, false], none, .mv (.t [true, false, false, true]), []⟩,
  ⟨some [false, true, false, true, false, false], none, .mv (.t [true, true]), []⟩,
  ⟨some [true, false, false, true, false, false], none, .arith .lss (.t [true, true, false, true, false, false]) (.t [false, true, false, true, false, false]), []⟩,
  ⟨some [false, false, false, true, false, false], none, .mv (.t [true, false, false, true, false, false]), []⟩,
  ⟨some [true, true, true, false, false, false], some ([false, false, false, true, false, false], true), .mv (.t [true, false, false, true]), []⟩,
  ⟨some [false, true, true, false, false, false], some ([false, false, false, true, false, false], true), .mv (.t [false]), []⟩,
  ⟨some [true, false, true, false, false, false], some ([false, false, false, true, false, false], true), .len (.t [false, true, true, false, false, false]), []⟩,
  ⟨some [false, false, true, false, false, false], some ([false, false, false, true, false, false], true), .arith .lss (.t [true, true, true, false, false, false]) (.t [true, false, true, false, false, false]), []⟩,
  ⟨some [true, true, false, false, false, false], none, .pick (.t [false, false, false, true, false, false]) (.t [false, false, true, false, false, false]) (.c (.bool false)), []⟩,
  ⟨some [false, true, false, false, false, false], none, .mv (.t [true, true, false, false, false, false]), []⟩,
  ⟨some [true, false, false, false, false, false], some ([false, true, false, false, false, false], true), .mv (.t [true, false, false, true]), []⟩,
  ⟨some [false, false, false, false, false, false], some ([false, true, false, false, false, false], true), .mv (.t [false, true, false, true]), []⟩,
  ⟨some [true, true, true, true, true, true, true], some ([false, true, false, false, false, false], true), .arith .lss (.t [true, false, false, false, false, false]) (.t [false, false, false, false, false, false]), []⟩,
  ⟨some [false, true, true, true, true, true, true], none, .pick (.t [false, true, false, false, false, false]) (.t [true, true, true, true, true, true, true]) (.c (.bool false)), []⟩]) a3_38
def a3_37 : ACode := a3_37b
def a3_36b : ACode := .seq a3_37 a3_40
def a3_36 : ACode := a3_36b
def a3_35b : ACode := .seq (.ops [
  ⟨some [false, false, false, true], none, .mv (.c (.int .u8 (.ofNat 0))), []⟩]) a3_36
def a3_35 : ACode := a3_35b
def a3_34b : ACode := .block 1 a3_35
def a3_34 : ACode := a3_34b
def a3_33b : ACode := .seq a3_34 a3_47
def a3_33 : ACode := a3_33b
def a3_32b : ACode := .cond (.t [false, true, true, true, false, false]) .skip (.exit 0)
def a3_32 : ACode := a3_32b
def a3_31b : ACode := .seq (.ops [
  ⟨some [true, true, true, true, false, false], none, .mv (.t [true, false, false, true]), []⟩,
  ⟨some [false, true, true, true, false, false], none, .arith .lss (.t [true, true, true, true, false, false]) (.c (.int .i64 (.ofNat 64))), []⟩]) a3_32
def a3_31 : ACode := a3_31b
def a3_30b : ACode := .seq a3_31 a3_33
def a3_30 : ACode := a3_30b
def a3_29b : ACode := .loop a3_30
def a3_29 : ACode := a3_29b
def a3_28b : ACode := .block 0 a3_29
def a3_28 : ACode := a3_28b
def a3_27b : ACode := .seq (.ops [
  ⟨some [true, false, false, true], none, .mv (.c (.int .i64 (.ofNat 0))), []⟩]) a3_28
def a3_27 : ACode := a3_27b
def a3_26b : ACode := .seq a3_27 a3_48
def a3_26 : ACode := a3_26b
def a3_25b : ACode := .seq (.ops [
  ⟨some [false, false, true], none, .mv (.c (.bool false)), []⟩]) .ret
def a3_25 : ACode := a3_25b
def a3_24b : ACode := .cond (.t [false, false, false, false, true, false]) a3_25 .skip
def a3_24 : ACode := a3_24b
def a3_23b : ACode := .seq (.ops [
  ⟨some [true, false, false, false, true, true], none, .mv (.t [false, false, false]), []⟩,
  ⟨some [false, false, false, false, true, true], none, .eqs true .int (.t [true, false, false, false, true, true]) (.c (.int .i64 (.ofNat 0))), []⟩,
  ⟨some [true, true, true, true, false, true], none, .mv (.t [false, false, false, false, true, true]), []⟩,
  ⟨some [false, true, true, true, false, true], some ([true, true, true, true, false, true], false), .mv (.t [true, true, true, true]), []⟩,
  ⟨some [true, false, true, true, false, true], some ([true, true, true, true, false, true], false), .eqs true .int (.t [false, true, true, true, false, true]) (.c (.int .i64 (.ofNat 0))), []⟩,
  ⟨some [false, false, true, true, false, true], none, .pick (.t [true, true, true, true, false, true]) (.c (.bool true)) (.t [true, false, true, true, false, true]), []⟩,
  ⟨some [true, true, false, true, false, true], none, .mv (.t [false, false, true, true, false, true]), []⟩,
  ⟨some [false, true, false, true, false, true], some ([true, true, false, true, false, true], false), .mv (.t [false, true, true, true]), []⟩,
  ⟨some [true, false, false, true, false, true], some ([true, true, false, true, false, true], false), .eqs true .int (.t [false, true, false, true, false, true]) (.c (.int .i64 (.ofNat 0))), []⟩,
  ⟨some [false, false, false, true, false, true], none, .pick (.t [true, true, false, true, false, true]) (.c (.bool true)) (.t [true, false, false, true, false, true]), []⟩,
  ⟨some [true, true, true, false, false, true], none, .mv (.t [false, false, false, true, false, true]), []⟩,
  ⟨some [false, true, true, false, false, true], some ([true, true, true, false, false, true], false), .mv (.t [true, true, false, true]), []⟩,
  ⟨some [true, false, true, false, false, true], some ([true, true, true, false, false, true], false), .eqs true .int (.t [false, true, true, false, false, true]) (.c (.int .i64 (.ofNat 0))), []⟩,
  ⟨some [false, false, true, false, false, true], none, .pick (.t [true, true, true, false, false, true]) (.c (.bool true)) (.t [true, false, true, false, false, true]), []⟩,
  ⟨some [true, true, false, false, false, true], none, .mv (.t [false, false, true, false, false, true]), []⟩,
  ⟨some [false, true, false, false, false, true], some ([true, true, false, false, false, true], false), .mv (.t [false, false, true, true]), []⟩,
  ⟨some [true, false, false, false, false, true], some ([true, true, false, false, false, true], false), .len (.t [false, true, false, false, false, true]), []⟩,
  ⟨some [false, false, false, false, false, true], some ([true, true, false, false, false, true], false), .eqs true .int (.t [true, false, false, false, false, true]) (.c (.int .i64 (.ofNat 64))), []⟩,
  ⟨some [true, true, true, true, true, false], none, .pick (.t [true, true, false, false, false, true]) (.c (.bool true)) (.t [false, false, false, false, false, true]), []⟩,
  ⟨some [false, true, true, true, true, false], none, .mv (.t [true, true, true, true, true, false]), []⟩,
  ⟨some [true, false, true, true, true, false], some ([false, true, true, true, true, false], false), .mv (.t [false, true, false]), []⟩,
  ⟨some [false, false, true, true, true, false], some ([false, true, true, true, true, false], false), .call 12 [.t [true, false, true, true, true, false]], []⟩,
  ⟨some [true, true, false, true, true, false], none, .pick (.t [false, true, true, true, true, false]) (.c (.bool true)) (.t [false, false, true, true, true, false]), []⟩,
  ⟨some [false, true, false, true, true, false], none, .mv (.t [true, true, false, true, true, false]), []⟩,
  ⟨some [true, false, false, true, true, false], some ([false, true, false, true, true, false], false), .mv (.t [true, false, true, true]), []⟩,
  ⟨some [false, false, false, true, true, false], some ([false, true, false, true, true, false], false), .eqs false .int (.t [true, false, false, true, true, false]) (.c (.int .i64 (.ofNat 0))), []⟩,
  ⟨some [true, true, true, false, true, false], some ([false, true, false, true, true, false], false), .mv (.t [false, true]), []⟩,
  ⟨some [false, true, true, false, true, false], some ([false, true, false, true, true, false], false), .arith .geq (.t [true, true, true, false, true, false]) (.c (.int .i64 (.ofNat 0))), []⟩,
  ⟨some [true, false, true, false, true, false], some ([false, true, false, true, true, false], false), .mv (.t [false, true, true, false, true, false]), []⟩,
  ⟨some [false, false, true, false, true, false], some ([true, false, true, false, true, false], true), .mv (.t [false, true]), []⟩,
  ⟨some [true, true, false, false, true, false], some ([true, false, true, false, true, false], true), .arith .leq (.t [false, false, true, false, true, false]) (.c (.int .i64 (.ofNat 64))), []⟩,
  ⟨some [false, true, false, false, true, false], some ([false, true, false, true, true, false], false), .pick (.t [true, false, true, false, true, false]) (.t [true, true, false, false, true, false]) (.c (.bool false)), []⟩,
  ⟨some [true, false, false, false, true, false], some ([false, true, false, true, true, false], false), .eqs true .bool (.t [false, false, false, true, true, false]) (.t [false, true, false, false, true, false]), []⟩,
  ⟨some [false, false, false, false, true, false], none, .pick (.t [false, true, false, true, true, false]) (.c (.bool true)) (.t [true, false, false, false, true, false]), []⟩]) a3_24
def a3_23 : ACode := a3_23b
def a3_22b : ACode := .seq a3_23 a3_26
def a3_22 : ACode := a3_22b
def a3_21b : ACode := .ops [
  ⟨some [false, true, false, false, true, true], none, .mv (.t [false, true]), []⟩,
  ⟨some [false, true, false, true], none, .mv (.t [false, true, false, false, true, true]), []⟩]
def a3_21 : ACode := a3_21b
def a3_20b : ACode := .cond (.t [true, true, false, false, true, true]) a3_21 .skip
def a3_20 : ACode := a3_20b
def a3_19b : ACode := .seq (.ops [
  ⟨some [false, false, false, true, true, true], none, .mv (.t [false, true]), []⟩,
  ⟨some [true, true, true, false, true, true], none, .arith .geq (.t [false, false, false, true, true, true]) (.c (.int .i64 (.ofNat 0))), []⟩,
  ⟨some [false, true, true, false, true, true], none, .mv (.t [true, true, true, false, true, true]), []⟩,
  ⟨some [true, false, true, false, true, true], some ([false, true, true, false, true, true], true), .mv (.t [false, true]), []⟩,
  ⟨some [false, false, true, false, true, true], some ([false, true, true, false, true, true], true), .arith .leq (.t [true, false, true, false, true, true]) (.c (.int .i64 (.ofNat 64))), []⟩,
  ⟨some [true, true, false, false, true, true], none, .pick (.t [false, true, true, false, true, true]) (.t [false, false, true, false, true, true]) (.c (.bool false)), []⟩]) a3_20
def a3_19 : ACode := a3_19b
def a3_18b : ACode := .seq a3_19 a3_22
def a3_18 : ACode := a3_18b
def a3_17b : ACode := .seq (.ops [
  ⟨some [false, true, false, true], none, .mv (.c (.int .i64 (.ofNat 64))), []⟩]) a3_18
def a3_17 : ACode := a3_17b
def a3_16b : ACode := .seq (.ops [
  ⟨some [true, false, true, true, true, true], none, .mv (.t [false, true, false]), []⟩,
  ⟨some [false, false, true, true, true, true], none, .mv (.t [true, true, false]), []⟩,
  ⟨some [true, true, false, true, true, true], none, .call 11 [.t [true, false, true, true, true, true], .t [false, false, true, true, true, true]], []⟩,
  ⟨some [false, true, true, true, true, true], none, .mv (.t [true, true, false, true, true, true]), []⟩,
  ⟨some [false, true, false, true, true, true], none, .extract (.t [false, true, true, true, true, true]) 0, []⟩,
  ⟨some [true, false, false, true, true, true], none, .extract (.t [false, true, true, true, true, true]) 1, []⟩,
  ⟨some [false, false, true, true], none, .mv (.t [false, true, false, true, true, true]), []⟩,
  ⟨some [true, true, false, true], none, .mv (.t [true, false, false, true, true, true]), []⟩]) a3_17
def a3_16 : ACode := a3_16b
def a3_15b : ACode := .seq (.ops [
  ⟨some [false, true, false, false, false], none, .mv (.t [false, true, false]), []⟩,
  ⟨some [true, false, false, false, false], none, .mv (.t [true, true, false]), []⟩,
  ⟨some [false, false, false, false, false], none, .mv (.t [false, true]), []⟩,
  ⟨some [true, true, true, true, true, true], none, .call 10 [.t [false, true, false, false, false], .t [true, false, false, false, false], .t [false, false, false, false, false]], []⟩,
  ⟨some [true, false, true, true], none, .mv (.t [true, true, true, true, true, true]), []⟩]) a3_16
def a3_15 : ACode := a3_15b
def a3_14b : ACode := .seq (.ops [
  ⟨some [false, true, true, false, false], none, .mv (.t [false, true, false]), []⟩,
  ⟨some [true, false, true, false, false], none, .mv (.t [true, true]), []⟩,
  ⟨some [false, false, true, false, false], none, .buildSlice 1 1 [(1, .int .i64 (.ofNat 0))] [(0, 1, .t [true, false, true, false, false])], []⟩,
  ⟨some [true, true, false, false, false], none, .call 9 [.t [false, true, true, false, false], .t [false, false, true, false, false]], []⟩]) a3_15
def a3_14 : ACode := a3_14b
def a3_13b : ACode := .seq (.ops [
  ⟨some [false, true, false, true, false], none, .mv (.t [false, true, false]), []⟩,
  ⟨some [true, false, false, true, false], none, .mv (.t [true, true, false]), []⟩,
  ⟨some [false, false, false, true, false], none, .mv (.t [false]), []⟩,
  ⟨some [true, true, true, false, false], none, .call 7 [.t [false, true, false, true, false], .t [true, false, false, true, false], .t [false, false, false, true, false]], []⟩,
  ⟨some [false, true, true, true], none, .mv (.t [true, true, true, false, false]), []⟩]) a3_14
def a3_13 : ACode := a3_13b
def a3_12b : ACode := .seq (.ops [
  ⟨some [false, false, true, true, false], none, .mv (.t [false, true, false]), []⟩,
  ⟨some [true, true, false, true, false], none, .call 8 [.t [false, false, true, true, false]], []⟩,
  ⟨some [true, true, true, true], none, .mv (.t [true, true, false, true, false]), []⟩]) a3_13
def a3_12 : ACode := a3_12b
def a3_11b : ACode := .seq (.ops [
  ⟨some [false, false, false, false, true], none, .mv (.t [false, true, false]), []⟩,
  ⟨some [true, true, true, true, false], none, .mv (.t [true, true, false]), []⟩,
  ⟨some [false, true, true, true, false], none, .mv (.t [true]), []⟩,
  ⟨some [true, false, true, true, false], none, .call 7 [.t [false, false, false, false, true], .t [true, true, true, true, false], .t [false, true, true, true, false]], []⟩,
  ⟨some [false, false, false], none, .mv (.t [true, false, true, true, false]), []⟩]) a3_12
def a3_11 : ACode := a3_11b
def a3_10b : ACode := .seq (.ops [
  ⟨some [false, false, true], none, .mv (.c (.bool false)), []⟩]) .ret
def a3_10 : ACode := a3_10b
def a3_9b : ACode := .cond (.t [true, false, false, false, true]) a3_10 .skip
def a3_9 : ACode := a3_9b
def a3_8b : ACode := .seq (.ops [
  ⟨some [false, true, true, false, true], none, .mv (.t [true, false, false]), []⟩,
  ⟨some [true, false, true, false, true], none, .eqs true .int (.t [false, true, true, false, true]) (.c (.int .i64 (.ofNat 0))), []⟩,
  ⟨some [false, false, true, false, true], none, .mv (.t [true, false, true, false, true]), []⟩,
  ⟨some [true, true, false, false, true], some ([false, false, true, false, true], false), .mv (.t [false, true, false]), []⟩,
  ⟨some [false, true, false, false, true], some ([false, false, true, false, true], false), .eqs false .ptr (.t [true, true, false, false, true]) (.c .nilptr), []⟩,
  ⟨some [true, false, false, false, true], none, .pick (.t [false, false, true, false, true]) (.c (.bool true)) (.t [false, true, false, false, true]), []⟩]) a3_9
def a3_8 : ACode := a3_8b
def a3_7b : ACode := .seq a3_8 a3_11
def a3_7 : ACode := a3_7b
def a3_6b : ACode := .seq (.ops [
  ⟨some [true, false, false, true, true], none, .call 6 [.c (.int .i64 (.ofNat 64))], []⟩,
  ⟨some [false, true, false, true, true], none, .mv (.t [true, false, false, true, true]), []⟩,
  ⟨some [false, false, false, true, true], none, .extract (.t [false, true, false, true, true]) 0, []⟩,
  ⟨some [true, true, true, false, true], none, .extract (.t [false, true, false, true, true]) 1, []⟩,
  ⟨some [false, true, false], none, .mv (.t [false, false, false, true, true]), []⟩,
  ⟨some [true, false, false], none, .mv (.t [true, true, true, false, true]), []⟩]) a3_7
def a3_6 : ACode := a3_6b
def a3_5b : ACode := .seq (.ops [
  ⟨some [false, true, true, true, true], none, .mv (.t []), []⟩,
  ⟨some [true, false, true, true, true], none, .toInt .u64 (.t [false, true, true, true, true]), []⟩,
  ⟨some [false, false, true, true, true], none, .arith .rem (.t [true, false, true, true, true]) (.c (.int .u64 (.ofNat 64))), []⟩,
  ⟨some [true, true, false, true, true], none, .toInt .i64 (.t [false, false, true, true, true]), []⟩,
  ⟨some [true, true, false], none, .mv (.t [true, true, false, true, true]), []⟩]) a3_6
def a3_5 : ACode := a3_5b
def a3_4b : ACode := .seq (.ops [
  ⟨some [true, true, true, true, true], none, .call 5 [], []⟩,
  ⟨some [false, false, true], none, .mv (.t [true, true, true, true, true]), []⟩]) .ret
def a3_4 : ACode := a3_4b
def a3_3b : ACode := .cond (.t [false, false, false, false]) a3_4 .skip
def a3_3 : ACode := a3_3b
def a3_2b : ACode := .seq (.ops [
  ⟨some [true, true, true, false], none, .mv (.t [true]), []⟩,
  ⟨some [false, true, true, false], none, .len (.t [true, true, true, false]), []⟩,
  ⟨some [true, false, true, false], none, .arith .gtr (.t [false, true, true, false]) (.c (.int .i64 (.ofNat 64))), []⟩,
  ⟨some [false, false, true, false], none, .mv (.t [true, false, true, false]), []⟩,
  ⟨some [true, true, false, false], some ([false, false, true, false], false), .mv (.t [false]), []⟩,
  ⟨some [false, true, false, false], some ([false, false, true, false], false), .len (.t [true, true, false, false]), []⟩,
  ⟨some [true, false, false, false], some ([false, false, true, false], false), .arith .gtr (.t [false, true, false, false]) (.c (.int .i64 (.ofNat 64))), []⟩,
  ⟨some [false, false, false, false], none, .pick (.t [false, false, true, false]) (.c (.bool true)) (.t [true, false, false, false]), []⟩]) a3_3
def a3_2 : ACode := a3_2b
def a3_1b : ACode := .seq a3_2 a3_5
def a3_1 : ACode := a3_1b
def a3_0b : ACode := .seq (.ops [
  ⟨some [false, false, true], none, .mv (.c (.bool false)), []⟩]) a3_1
def a3_0 : ACode := a3_0b
def a3 : AFunc := { body := a3_0, res := [([false, false, true], none)] }
theorem c3 : a3.body = a3_0 ∧
  a3.res = [([false, false, true], none)] ∧
  Unf a3_0 a3_0b ∧
  Unf a3_1 a3_1b ∧
  Unf a3_2 a3_2b ∧
  Unf a3_3 a3_3b ∧
  Unf a3_4 a3_4b ∧
  Unf a3_5 a3_5b ∧
  Unf a3_6 a3_6b ∧
  Unf a3_7 a3_7b ∧
  Unf a3_8 a3_8b ∧
  Unf a3_9 a3_9b ∧
  Unf a3_10 a3_10b ∧
  Unf a3_11 a3_11b ∧
  Unf a3_12 a3_12b ∧
  Unf a3_13 a3_13b ∧
  Unf a3_14 a3_14b ∧
  Unf a3_15 a3_15b ∧
  Unf a3_16 a3_16b ∧
  Unf a3_17 a3_17b ∧
  Unf a3_18 a3_18b ∧
  Unf a3_19 a3_19b ∧
  Unf a3_20 a3_20b ∧
  Unf a3_21 a3_21b ∧
  Unf a3_22 a3_22b ∧
  Unf a3_23 a3_23b ∧
  Unf a3_24 a3_24b ∧
  Unf a3_25 a3_25b ∧
  Unf a3_26 a3_26b ∧
  Unf a3_27 a3_27b ∧
  Unf a3_28 a3_28b ∧
  Unf a3_29 a3_29b ∧
  Unf a3_30 a3_30b ∧
  Unf a3_31 a3_31b ∧
  Unf a3_32 a3_32b ∧
  Unf a3_33 a3_33b ∧
  Unf a3_34 a3_34b ∧
  Unf a3_35 a3_35b ∧
  Unf a3_36 a3_36b ∧
  Unf a3_37 a3_37b ∧
  Unf a3_38 a3_38b ∧
  Unf a3_39 a3_39b ∧
  Unf a3_40 a3_40b ∧
  Unf a3_41 a3_41b ∧
  Unf a3_42 a3_42b ∧
  Unf a3_43 a3_43b ∧
  Unf a3_44 a3_44b ∧
  Unf a3_45 a3_45b ∧
  Unf a3_46 a3_46b ∧
  Unf a3_47 a3_47b ∧
  Unf a3_48 a3_48b :=
  ⟨rfl, rfl, Unf.of rfl, Unf.of rfl, Unf.of rfl, Unf.of rfl, Unf.of rfl, Unf.of rfl, Unf.of rfl, Unf.of rfl, Unf.of rfl, Unf.of rfl, Unf.of rfl, Unf.of rfl, Unf.of rfl, Unf.of rfl, Unf.of rfl, Unf.of rfl, Unf.of rfl, Unf.of rfl, Unf.of rfl, Unf.of rfl, Unf.of rfl, Unf.of rfl, Unf.of rfl, Unf.of rfl, Unf.of rfl, Unf.of rfl, Unf.of rfl, Unf.of rfl, Unf.of rfl, Unf.of rfl, Unf.of rfl, Unf.of rfl, Unf.of rfl, Unf.of rfl, Unf.of rfl, Unf.of rfl, Unf.of rfl, Unf.of rfl, Unf.of rfl, Unf.of rfl, Unf.of rfl, Unf.of rfl, Unf.of rfl, Unf.of rfl, Unf.of rfl, Unf.of rfl, Unf.of rfl, Unf.of rfl, Unf.of rfl⟩
def a4_41b : ACode := .seq (.ops [
  ⟨some [false, true, true, false, true, true], none, .call 5 [], []⟩,
  ⟨some [false, true], none, .mv (.t [false, true, true, false, true, true]), []⟩]) .ret
def a4_41 : ACode := a4_41b
def a4_40b : ACode := .ops [
  ⟨some [false, true, true, true, true, true], none, .mv (.t [false, false, true]), []⟩,
  ⟨some [true, false, true, true, true, true], none, .arith .add (.t [false, true, true, true, true, true]) (.c (.int .i64 (.ofNat 1))), []⟩,
  ⟨some [false, false, true], none, .mv (.t [true, false, true, true, true, true]), []⟩]
def a4_40 : ACode := a4_40b
def a4_39b : ACode := .seq (.ops [
  ⟨some [false, true], none, .mv (.c (.bool false)), []⟩]) .ret
def a4_39 : ACode := a4_39b
def a4_38b : ACode := .cond (.t [true, true, true, false, true, true]) a4_39 .skip
def a4_38 : ACode := a4_38b
def a4_37b : ACode := .seq (.ops [
  ⟨some [false, false, true, true, true, true], none, .mv (.t [true, false]), []⟩,
  ⟨some [true, true, false, true, true, true], none, .mv (.t [true, true, true]), []⟩,
  ⟨some [false, true, false, true, true, true], none, .mv (.t [false, false, true]), []⟩,
  ⟨some [true, false, false, true, true, true], none, .build [(1, .int .u8 (.ofNat 0)), (1, .int .i64 (.ofNat 0)), (1, .nilslice), (1, .int .i64 (.ofNat 0)), (1, .nilslice)] [(1, 1, .t [false, true, false, true, true, true])], []⟩,
  ⟨some [false, false, false, true, true, true], none, .call 15 [.t [false, false, true, true, true, true], .t [true, true, false, true, true, true], .t [true, false, false, true, true, true]], []⟩,
  ⟨some [true, true, true, false, true, true], none, .un .not (.t [false, false, false, true, true, true]), []⟩]) a4_38
def a4_37 : ACode := a4_37b
def a4_36b : ACode := .block 3 a4_37
def a4_36 : ACode := a4_36b
def a4_35b : ACode := .seq a4_36 a4_40
def a4_35 : ACode := a4_35b
def a4_34b : ACode := .cond (.t [true, true, true, true, true, true]) .skip (.exit 2)
def a4_34 : ACode := a4_34b
def a4_33b : ACode := .seq (.ops [
  ⟨some [true, false, true, false, false], none, .mv (.t [false, false, true]), []⟩,
  ⟨some [false, false, true, false, false], none, .mv (.t [true, true, true]), []⟩,
  ⟨some [true, true, false, false, false], none, .nilCheck (.t [false, false, true, false, false]), []⟩,
  ⟨some [false, true, false, false, false], none, .fieldAddr 0 (.t [true, true, false, false, false]), []⟩,
  ⟨some [true, false, false, false, false], none, .load false 1 (.t [false, true, false, false, false]), []⟩,
  ⟨some [false, false, false, false, false], none, .len (.t [true, false, false, false, false]), []⟩,
  ⟨some [true, true, true, true, true, true], none, .arith .lss (.t [true, false, true, false, false]) (.t [false, false, false, false, false]), []⟩]) a4_34
def a4_33 : ACode := a4_33b
def a4_32b : ACode := .seq a4_33 a4_35
def a4_32 : ACode := a4_32b
def a4_31b : ACode := .loop a4_32
def a4_31 : ACode := a4_31b
def a4_30b : ACode := .block 2 a4_31
def a4_30 : ACode := a4_30b
def a4_29b : ACode := .seq (.ops [
  ⟨some [false, false, true], none, .mv (.c (.int .i64 (.ofNat 0))), []⟩]) a4_30
def a4_29 : ACode := a4_29b
def a4_28b : ACode := .seq a4_29 a4_41
def a4_28 : ACode := a4_28b
def a4_27b : ACode := .ops [
  ⟨some [true, true, true, true, false], none, .mv (.t [true, false, true]), []⟩,
  ⟨some [false, true, true, true, false], none, .arith .add (.t [true, true, true, true, false]) (.c (.int .i64 (.ofNat 1))), []⟩,
  ⟨some [true, false, true], none, .mv (.t [false, true, true, true, false]), []⟩]
def a4_27 : ACode := a4_27b
def a4_26b : ACode := .seq (.ops [
  ⟨some [false, true], none, .mv (.c (.bool false)), []⟩]) .ret
def a4_26 : ACode := a4_26b
def a4_25b : ACode := .cond (.t [false, true, true, false, false]) a4_26 .skip
def a4_25 : ACode := a4_25b
def a4_24b : ACode := .seq (.ops [
  ⟨some [true, false, true, true, false], none, .mv (.t [true, false]), []⟩,
  ⟨some [false, false, true, true, false], none, .mv (.t [true, true, true]), []⟩,
  ⟨some [true, true, false, true, false], none, .mv (.t [true]), []⟩,
  ⟨some [false, true, false, true, false], none, .mv (.t [true, false, true]), []⟩,
  ⟨some [true, false, false, true, false], none, .indexAddrS 5 (.t [true, true, false, true, false]) (.t [false, true, false, true, false]), []⟩,
  ⟨some [false, false, false, true, false], none, .load true 5 (.t [true, false, false, true, false]), []⟩,
  ⟨some [true, true, true, false, false], none, .call 15 [.t [true, false, true, true, false], .t [false, false, true, true, false], .t [false, false, false, true, false]], []⟩,
  ⟨some [false, true, true, false, false], none, .un .not (.t [true, true, true, false, false]), []⟩]) a4_25
def a4_24 : ACode := a4_24b
def a4_23b : ACode := .block 1 a4_24
def a4_23 : ACode := a4_23b
def a4_22b : ACode := .seq a4_23 a4_27
def a4_22 : ACode := a4_22b
def a4_21b : ACode := .cond (.t [false, false, false, false, true]) .skip (.exit 0)
def a4_21 : ACode := a4_21b
def a4_20b : ACode := .seq (.ops [
  ⟨some [true, true, false, false, true], none, .mv (.t [true, false, true]), []⟩,
  ⟨some [false, true, false, false, true], none, .mv (.t [true]), []⟩,
  ⟨some [true, false, false, false, true], none, .len (.t [false, true, false, false, true]), []⟩,
  ⟨some [false, false, false, false, true], none, .arith .lss (.t [true, true, false, false, true]) (.t [true, false, false, false, true]), []⟩]) a4_21
def a4_20 : ACode := a4_20b
def a4_19b : ACode := .seq a4_20 a4_22
def a4_19 : ACode := a4_19b
def a4_18b : ACode := .loop a4_19
def a4_18 : ACode := a4_18b
def a4_17b : ACode := .block 0 a4_18
def a4_17 : ACode := a4_17b
def a4_16b : ACode := .seq (.ops [
  ⟨some [true, false, true], none, .mv (.c (.int .i64 (.ofNat 0))), []⟩]) a4_17
def a4_16 : ACode := a4_16b
def a4_15b : ACode := .seq a4_16 a4_28
def a4_15 : ACode := a4_15b
def a4_14b : ACode := .seq (.ops [
  ⟨some [false, true], none, .mv (.c (.bool false)), []⟩]) .ret
def a4_14 : ACode := a4_14b
def a4_13b : ACode := .cond (.t [false, false, true, false, true]) a4_14 .skip
def a4_13 : ACode := a4_13b
def a4_12b : ACode := .seq (.ops [
  ⟨some [true, false, true, false, true], none, .mv (.t [false, true, true]), []⟩,
  ⟨some [false, false, true, false, true], none, .un .not (.t [true, false, true, false, true]), []⟩]) a4_13
def a4_12 : ACode := a4_12b
def a4_11b : ACode := .seq a4_12 a4_15
def a4_11 : ACode := a4_11b
def a4_10b : ACode := .seq (.ops [
  ⟨some [false, true, false, true, true], none, .mv (.t []), []⟩,
  ⟨some [true, false, false, true, true], none, .call 14 [.t [false, true, false, true, true]], []⟩,
  ⟨some [true, true, false, true, true], none, .mv (.t [true, false, false, true, true]), []⟩,
  ⟨some [false, false, false, true, true], none, .extract (.t [true, true, false, true, true]) 0, []⟩,
  ⟨some [true, true, true, false, true], none, .extract (.t [true, true, false, true, true]) 1, []⟩,
  ⟨some [false, true, true, false, true], none, .extract (.t [true, true, false, true, true]) 2, []⟩,
  ⟨some [true, false], none, .mv (.t [false, false, false, true, true]), []⟩,
  ⟨some [true, true, true], none, .mv (.t [true, true, true, false, true]), []⟩,
  ⟨some [false, true, true], none, .mv (.t [false, true, true, false, true]), []⟩]) a4_11
def a4_10 : ACode := a4_10b
def a4_9b : ACode := .seq (.ops [
  ⟨some [false, false, true, false], none, .mv (.t [false, false]), []⟩,
  ⟨some [true, true, false, false], none, .eqs false .int (.t [false, false, true, false]) (.c (.int .i64 (.ofNat 1))), []⟩,
  ⟨some [false, true, false, false], none, .mv (.t [true, true, false, false]), []⟩,
  ⟨some [true, false, false, false], some ([false, true, false, false], true), .mv (.t [true, false]), []⟩,
  ⟨some [false, false, false, false], some ([false, true, false, false], true), .eqs false .ptr (.t [true, false, false, false]) (.c .nilptr), []⟩,
  ⟨some [true, true, true, true, true], none, .pick (.t [false, true, false, false]) (.t [false, false, false, false]) (.c (.bool false)), []⟩,
  ⟨some [false, true, true, true, true], none, .mv (.t [true, true, true, true, true]), []⟩,
  ⟨some [true, false, true, true, true], some ([false, true, true, true, true], true), .call 5 [], []⟩,
  ⟨some [false, false, true, true, true], none, .pick (.t [false, true, true, true, true]) (.t [true, false, true, true, true]) (.c (.bool false)), []⟩,
  ⟨some [false, true], none, .mv (.t [false, false, true, true, true]), []⟩]) .ret
def a4_9 : ACode := a4_9b
def a4_8b : ACode := .cond (.t [true, false, true, false]) a4_9 .skip
def a4_8 : ACode := a4_8b
def a4_7b : ACode := .seq (.ops [
  ⟨some [false, true, false, true], none, .mv (.t []), []⟩,
  ⟨some [true, false, false, true], none, .arith .lss (.t [false, true, false, true]) (.c (.int .i64 (.ofNat 64))), []⟩,
  ⟨some [false, false, false, true], none, .mv (.t [true, false, false, true]), []⟩,
  ⟨some [true, true, true, false], some ([false, false, false, true], false), .mv (.t []), []⟩,
  ⟨some [false, true, true, false], some ([false, false, false, true], false), .arith .gtr (.t [true, true, true, false]) (.c (.int .i64 (.ofNat 65536))), []⟩,
  ⟨some [true, false, true, false], none, .pick (.t [false, false, false, true]) (.c (.bool true)) (.t [false, true, true, false]), []⟩]) a4_8
def a4_7 : ACode := a4_7b
def a4_6b : ACode := .seq a4_7 a4_10
def a4_6 : ACode := a4_6b
def a4_5b : ACode := .seq (.ops [
  ⟨some [false, true, true, true], none, .mv (.t []), []⟩,
  ⟨some [true, false, true, true], none, .call 6 [.t [false, true, true, true]], []⟩,
  ⟨some [true, true, true, true], none, .mv (.t [true, false, true, true]), []⟩,
  ⟨some [false, false, true, true], none, .extract (.t [true, true, true, true]) 0, []⟩,
  ⟨some [true, true, false, true], none, .extract (.t [true, true, true, true]) 1, []⟩,
  ⟨some [true, false], none, .mv (.t [false, false, true, true]), []⟩,
  ⟨some [false, false], none, .mv (.t [true, true, false, true]), []⟩]) a4_6
def a4_5 : ACode := a4_5b
def a4_4b : ACode := .seq (.ops [
  ⟨some [false, false, false], none, .call 5 [], []⟩,
  ⟨some [false, true], none, .mv (.t [false, false, false]), []⟩]) .ret
def a4_4 : ACode := a4_4b
def a4_3b : ACode := .cond (.t [true, false, false]) a4_4 .skip
def a4_3 : ACode := a4_3b
def a4_2b : ACode := .seq (.ops [
  ⟨some [true, true, false], none, .mv (.t [true]), []⟩,
  ⟨some [false, true, false], none, .call 13 [.t [true, true, false]], []⟩,
  ⟨some [true, false, false], none, .un .not (.t [false, true, false]), []⟩]) a4_3
def a4_2 : ACode := a4_2b
def a4_1b : ACode := .seq a4_2 a4_5
def a4_1 : ACode := a4_1b
def a4_0b : ACode := .seq (.ops [
  ⟨some [false, true], none, .mv (.c (.bool false)), []⟩]) a4_1
def a4_0 : ACode := a4_0b
def a4 : AFunc := { body := a4_0, res := [([false, true], none)] }
theorem c4 : a4.body = a4_0 ∧
  a4.res = [([false, true], none)] ∧
  Unf a4_0 a4_0b ∧
  Unf a4_1 a4_1b ∧
  Unf a4_2 a4_2b ∧
  Unf a4_3 a4_3b ∧
  Unf a4_4 a4_4b ∧
  Unf a4_5 a4_5b ∧
  Unf a4_6 a4_6b ∧
  Unf a4_7 a4_7b ∧
  Unf a4_8 a4_8b ∧
  Unf a4_9 a4_9b ∧
  Unf a4_10 a4_10b ∧
  Unf a4_11 a4_11b ∧
  Unf a4_12 a4_12b ∧
  Unf a4_13 a4_13b ∧
  Unf a4_14 a4_14b ∧
  Unf a4_15 a4_15b ∧
  Unf a4_16 a4_16b ∧
  Unf a4_17 a4_17b ∧
  Unf a4_18 a4_18b ∧
  Unf a4_19 a4_19b ∧
  Unf a4_20 a4_20b ∧
  Unf a4_21 a4_21b ∧
  Unf a4_22 a4_22b ∧
  Unf a4_23 a4_23b ∧
  Unf a4_24 a4_24b ∧
  Unf a4_25 a4_25b ∧
  Unf a4_26 a4_26b ∧
  Unf a4_27 a4_27b ∧
  Unf a4_28 a4_28b ∧
  Unf a4_29 a4_29b ∧
  Unf a4_30 a4_30b ∧
  Unf a4_31 a4_31b ∧
  Unf a4_32 a4_32b ∧
  Unf a4_33 a4_33b ∧
  Unf a4_34 a4_34b ∧
  Unf a4_35 a4_35b ∧
  Unf a4_36 a4_36b ∧
  Unf a4_37 a4_37b ∧
  Unf a4_38 a4_38b ∧
  Unf a4_39 a4_39b ∧
  Unf a4_40 a4_40b ∧
  Unf a4_41 a4_41b :=
  ⟨rfl, rfl, Unf.of rfl, Unf.of rfl, Unf.of rfl, Unf.of rfl, Unf.of rfl, Unf.of rfl, Unf.of rfl, Unf.of rfl, Unf.of rfl, Unf.of rfl, Unf.of rfl, Unf.of rfl, Unf.of rfl, Unf.of rfl, Unf.of rfl, Unf.of rfl, Unf.of rfl, Unf.of rfl, Unf.of rfl, Unf.of rfl, Unf.of rfl, Unf.of rfl, Unf.of rfl, Unf.of rfl, Unf.of rfl, Unf.of rfl, Unf.of rfl, Unf.of rfl, Unf.of rfl, Unf.of rfl, Unf.of rfl, Unf.of rfl, Unf.of rfl, Unf.of rfl, Unf.of rfl, Unf.of rfl, Unf.of rfl, Unf.of rfl, Unf.of rfl, Unf.of rfl, Unf.of rfl, Unf.of rfl⟩
def a5_14b : ACode := .seq (.ops [
  ⟨some [false, true, true, false, false], none, .mv (.t [true, false]), []⟩,
  ⟨some [true, false, true, false, false], none, .eqs false .int (.t [false, true, true, false, false]) (.c (.int .i64 (.ofNat 0))), []⟩,
  ⟨some [false, false, true, false, false], none, .mv (.t [true, false, true, false, false]), []⟩,
  ⟨some [true, true, false, false, false], some ([false, false, true, false, false], true), .mv (.t [false, false]), []⟩,
  ⟨some [false, true, false, false, false], some ([false, false, true, false, false], true), .eqs false .int (.t [true, true, false, false, false]) (.c (.int .i64 (.ofNat 0))), []⟩,
  ⟨some [true, false, false, false, false], none, .pick (.t [false, false, true, false, false]) (.t [false, true, false, false, false]) (.c (.bool false)), []⟩,
  ⟨some [false, false, false, false, false], none, .mv (.t [true, false, false, false, false]), []⟩,
  ⟨some [true, true, true, true, true, true], some ([false, false, false, false, false], true), .mv (.t [true, true, true]), []⟩,
  ⟨some [false, true, true, true, true, true], some ([false, false, false, false, false], true), .eqs false .int (.t [true, true, true, true, true, true]) (.c (.int .i64 (.ofNat 0))), []⟩,
  ⟨some [true, false, true, true, true, true], none, .pick (.t [false, false, false, false, false]) (.t [false, true, true, true, true, true]) (.c (.bool false)), []⟩,
  ⟨some [false, false, true, true, true, true], none, .mv (.t [true, false, true, true, true, true]), []⟩,
  ⟨some [true, true, false, true, true, true], some ([false, false, true, true, true, true], true), .mv (.t [false, false, true]), []⟩,
  ⟨some [false, true, false, true, true, true], some ([false, false, true, true, true, true], true), .eqs false .int (.t [true, true, false, true, true, true]) (.c (.int .i64 (.ofNat 0))), []⟩,
  ⟨some [true, false, false, true, true, true], none, .pick (.t [false, false, true, true, true, true]) (.t [false, true, false, true, true, true]) (.c (.bool false)), []⟩,
  ⟨some [false, false, false, true, true, true], none, .mv (.t [true, false, false, true, true, true]), []⟩,
  ⟨some [true, true, true, false, true, true], some ([false, false, false, true, true, true], true), .mv (.t [true, false, true]), []⟩,
  ⟨some [false, true, true, false, true, true], some ([false, false, false, true, true, true], true), .eqs false .int (.t [true, true, true, false, true, true]) (.c (.int .i64 (.ofNat 0))), []⟩,
  ⟨some [true, false, true, false, true, true], none, .pick (.t [false, false, false, true, true, true]) (.t [false, true, true, false, true, true]) (.c (.bool false)), []⟩,
  ⟨some [false, false, true, false, true, true], none, .mv (.t [true, false, true, false, true, true]), []⟩,
  ⟨some [true, true, false, false, true, true], some ([false, false, true, false, true, true], true), .mv (.t [false, true, false]), []⟩,
  ⟨some [false, true, false, false, true, true], some ([false, false, true, false, true, true], true), .eqs false .int (.t [true, true, false, false, true, true]) (.c (.int .i64 (.ofNat 0))), []⟩,
  ⟨some [true, false, false, false, true, true], none, .pick (.t [false, false, true, false, true, true]) (.t [false, true, false, false, true, true]) (.c (.bool false)), []⟩,
  ⟨some [false, false, false, false, true, true], none, .mv (.t [true, false, false, false, true, true]), []⟩,
  ⟨some [true, true, true, true, false, true], some ([false, false, false, false, true, true], true), .mv (.t [false, true, true]), []⟩,
  ⟨some [false, true, true, true, false, true], some ([false, false, false, false, true, true], true), .len (.t [true, true, true, true, false, true]), []⟩,
  ⟨some [true, false, true, true, false, true], some ([false, false, false, false, true, true], true), .eqs false .int (.t [false, true, true, true, false, true]) (.c (.int .i64 (.ofNat 64))), []⟩,
  ⟨some [false, false, true, true, false, true], none, .pick (.t [false, false, false, false, true, true]) (.t [true, false, true, true, false, true]) (.c (.bool false)), []⟩,
  ⟨some [true, true, false, true, false, true], none, .mv (.t [false, false, true, true, false, true]), []⟩,
  ⟨some [false, true, false, true, false, true], some ([true, true, false, true, false, true], true), .mv (.t [true, true, false]), []⟩,
  ⟨some [true, false, false, true, false, true], some ([true, true, false, true, false, true], true), .len (.t [false, true, false, true, false, true]), []⟩,
  ⟨some [false, false, false, true, false, true], some ([true, true, false, true, false, true], true), .eqs false .int (.t [true, false, false, true, false, true]) (.c (.int .i64 (.ofNat 64))), []⟩,
  ⟨some [true, true, true, false, false, true], none, .pick (.t [true, true, false, true, false, true]) (.t [false, false, false, true, false, true]) (.c (.bool false)), []⟩,
  ⟨some [false, true, true, false, false, true], none, .mv (.t [true, true, true, false, false, true]), []⟩,
  ⟨some [true, false, true, false, false, true], some ([false, true, true, false, false, true], true), .mv (.t [false, true, true]), []⟩,
  ⟨some [false, false, true, false, false, true], some ([false, true, true, false, false, true], true), .slice 1 (.t [true, false, true, false, false, true]) none (some (.c (.int .i64 (.ofNat 4)))) none, []⟩,
  ⟨some [true, true, false, false, false, true], some ([false, true, true, false, false, true], true), .bytesToStr (.t [false, false, true, false, false, true]), []⟩,
  ⟨some [false, true, false, false, false, true], some ([false, true, true, false, false, true], true), .eqs false .str (.t [true, true, false, false, false, true]) (.c (.str [120, 98, 99, 0])), []⟩,
  ⟨some [true, false, false, false, false, true], none, .pick (.t [false, true, true, false, false, true]) (.t [false, true, false, false, false, true]) (.c (.bool false)), []⟩,
  ⟨some [false, false, false, false, false, true], none, .mv (.t [true, false, false, false, false, true]), []⟩,
  ⟨some [true, true, true, true, true, false], some ([false, false, false, false, false, true], true), .mv (.t [true, true, false]), []⟩,
  ⟨some [false, true, true, true, true, false], some ([false, false, false, false, false, true], true), .slice 1 (.t [true, true, true, true, true, false]) none (some (.c (.int .i64 (.ofNat 3)))) none, []⟩,
  ⟨some [true, false, true, true, true, false], some ([false, false, false, false, false, true], true), .bytesToStr (.t [false, true, true, true, true, false]), []⟩,
  ⟨some [false, false, true, true, true, false], some ([false, false, false, false, false, true], true), .eqs false .str (.t [true, false, true, true, true, false]) (.c (.str [120, 0, 0])), []⟩,
  ⟨some [true, true, false, true, true, false], none, .pick (.t [false, false, false, false, false, true]) (.t [false, false, true, true, true, false]) (.c (.bool false)), []⟩,
  ⟨some [], none, .mv (.t [true, true, false, true, true, false]), []⟩]) .ret
def a5_14 : ACode := a5_14b
def a5_13b : ACode := .seq (.ops [
  ⟨some [false, true, false, true, false], none, .mv (.t [true, true]), []⟩,
  ⟨some [true, false, false, true, false], none, .call 11 [.t [false, true, false, true, false], .c (.int .i64 (.ofNat 0))], []⟩,
  ⟨some [true, true, false, true, false], none, .mv (.t [true, false, false, true, false]), []⟩,
  ⟨some [false, false, false, true, false], none, .extract (.t [true, true, false, true, false]) 0, []⟩,
  ⟨some [true, true, true, false, false], none, .extract (.t [true, true, false, true, false]) 1, []⟩,
  ⟨some [true, true, false], none, .mv (.t [false, false, false, true, false]), []⟩,
  ⟨some [false, true, false], none, .mv (.t [true, true, true, false, false]), []⟩]) a5_14
def a5_13 : ACode := a5_13b
def a5_12b : ACode := .seq (.ops [
  ⟨some [true, false, true, true, false], none, .mv (.t [true, true]), []⟩,
  ⟨some [false, false, true, true, false], none, .call 10 [.t [true, false, true, true, false], .c (.int .i64 (.ofNat 0)), .c (.int .i64 (.ofNat 1))], []⟩,
  ⟨some [false, false, true], none, .mv (.t [false, false, true, true, false]), []⟩]) a5_13
def a5_12 : ACode := a5_12b
def a5_11b : ACode := .seq (.ops [
  ⟨some [true, false, false, false, true], none, .mv (.t [true, true]), []⟩,
  ⟨some [false, false, false, false, true], none, .call 11 [.t [true, false, false, false, true], .c (.int .i64 (.ofNat 0))], []⟩,
  ⟨some [false, true, false, false, true], none, .mv (.t [false, false, false, false, true]), []⟩,
  ⟨some [true, true, true, true, false], none, .extract (.t [false, true, false, false, true]) 0, []⟩,
  ⟨some [false, true, true, true, false], none, .extract (.t [false, true, false, false, true]) 1, []⟩,
  ⟨some [false, true, true], none, .mv (.t [true, true, true, true, false]), []⟩,
  ⟨some [true, false, true], none, .mv (.t [false, true, true, true, false]), []⟩]) a5_12
def a5_11 : ACode := a5_11b
def a5_10b : ACode := .seq (.ops [
  ⟨some [true, false, true, false, true], none, .mv (.t [true, true]), []⟩,
  ⟨some [false, false, true, false, true], none, .buildSlice 1 1 [(1, .int .i64 (.ofNat 0))] [(0, 1, .c (.int .i64 (.ofNat 1)))], []⟩,
  ⟨some [true, true, false, false, true], none, .call 9 [.t [true, false, true, false, true], .t [false, false, true, false, true]], []⟩]) a5_11
def a5_10 : ACode := a5_10b
def a5_9b : ACode := .seq (.ops [
  ⟨some [true, false, false, true, true], none, .mv (.t [true, true]), []⟩,
  ⟨some [false, false, false, true, true], none, .buildSlice 1 3 [(1, .int .u8 (.ofNat 0))] [(0, 1, .c (.int .u8 (.ofNat 120))), (1, 1, .c (.int .u8 (.ofNat 121))), (2, 1, .c (.int .u8 (.ofNat 122)))], []⟩,
  ⟨some [true, true, true, false, true], none, .markStr (.t [false, false, false, true, true]), []⟩,
  ⟨some [false, true, true, false, true], none, .call 7 [.t [true, false, false, true, true], .c (.int .i64 (.ofNat 0)), .t [true, true, true, false, true]], []⟩,
  ⟨some [true, true, true], none, .mv (.t [false, true, true, false, true]), []⟩]) a5_10
def a5_9 : ACode := a5_9b
def a5_8b : ACode := .seq (.ops [
  ⟨some [true, true, false, true, true], none, .mv (.t [true, true]), []⟩,
  ⟨some [false, true, false, true, true], none, .call 8 [.t [true, true, false, true, true]], []⟩,
  ⟨some [false, false], none, .mv (.t [false, true, false, true, true]), []⟩]) a5_9
def a5_8 : ACode := a5_8b
def a5_7b : ACode := .seq (.ops [
  ⟨some [true, true, true, true, true], none, .mv (.t [true, true]), []⟩,
  ⟨some [false, true, true, true, true], none, .buildSlice 1 3 [(1, .int .u8 (.ofNat 0))] [(0, 1, .c (.int .u8 (.ofNat 97))), (1, 1, .c (.int .u8 (.ofNat 98))), (2, 1, .c (.int .u8 (.ofNat 99)))], []⟩,
  ⟨some [true, false, true, true, true], none, .markStr (.t [false, true, true, true, true]), []⟩,
  ⟨some [false, false, true, true, true], none, .call 7 [.t [true, true, true, true, true], .c (.int .i64 (.ofNat 0)), .t [true, false, true, true, true]], []⟩,
  ⟨some [true, false], none, .mv (.t [false, false, true, true, true]), []⟩]) a5_8
def a5_7 : ACode := a5_7b
def a5_6b : ACode := .seq (.ops [
  ⟨some [], none, .mv (.c (.bool false)), []⟩]) .ret
def a5_6 : ACode := a5_6b
def a5_5b : ACode := .cond (.t [false, false, false, false]) a5_6 .skip
def a5_5 : ACode := a5_5b
def a5_4b : ACode := .seq (.ops [
  ⟨some [true, false, false, true], none, .mv (.t [false]), []⟩,
  ⟨some [false, false, false, true], none, .eqs true .int (.t [true, false, false, true]) (.c (.int .i64 (.ofNat 1))), []⟩,
  ⟨some [true, true, true, false], none, .mv (.t [false, false, false, true]), []⟩,
  ⟨some [false, true, true, false], some ([true, true, true, false], false), .mv (.t [false, true]), []⟩,
  ⟨some [true, false, true, false], some ([true, true, true, false], false), .eqs true .int (.t [false, true, true, false]) (.c (.int .i64 (.ofNat 0))), []⟩,
  ⟨some [false, false, true, false], none, .pick (.t [true, true, true, false]) (.c (.bool true)) (.t [true, false, true, false]), []⟩,
  ⟨some [true, true, false, false], none, .mv (.t [false, false, true, false]), []⟩,
  ⟨some [false, true, false, false], some ([true, true, false, false], false), .mv (.t [true, true]), []⟩,
  ⟨some [true, false, false, false], some ([true, true, false, false], false), .eqs false .ptr (.t [false, true, false, false]) (.c .nilptr), []⟩,
  ⟨some [false, false, false, false], none, .pick (.t [true, true, false, false]) (.c (.bool true)) (.t [true, false, false, false]), []⟩]) a5_5
def a5_4 : ACode := a5_4b
def a5_3b : ACode := .seq a5_4 a5_7
def a5_3 : ACode := a5_3b
def a5_2b : ACode := .seq (.ops [
  ⟨some [false, false, true, true], none, .call 6 [.c (.int .i64 (.ofNat 64))], []⟩,
  ⟨some [true, false, true, true], none, .mv (.t [false, false, true, true]), []⟩,
  ⟨some [true, true, false, true], none, .extract (.t [true, false, true, true]) 0, []⟩,
  ⟨some [false, true, false, true], none, .extract (.t [true, false, true, true]) 1, []⟩,
  ⟨some [true, true], none, .mv (.t [true, true, false, true]), []⟩,
  ⟨some [false, true], none, .mv (.t [false, true, false, true]), []⟩]) a5_3
def a5_2 : ACode := a5_2b
def a5_1b : ACode := .seq (.ops [
  ⟨some [false, false, false], none, .call 6 [.c (.int .i64 (.ofNat 63))], []⟩,
  ⟨some [true, false, false], none, .mv (.t [false, false, false]), []⟩,
  ⟨some [true, true, true, true], none, .extract (.t [true, false, false]) 0, []⟩,
  ⟨some [false, true, true, true], none, .extract (.t [true, false, false]) 1, []⟩,
  ⟨some [true], none, .mv (.t [true, true, true, true]), []⟩,
  ⟨some [false], none, .mv (.t [false, true, true, true]), []⟩]) a5_2
def a5_1 : ACode := a5_1b
def a5_0b : ACode := .seq (.ops [
  ⟨some [], none, .mv (.c (.bool false)), []⟩]) a5_1
def a5_0 : ACode := a5_0b
def a5 : AFunc := { body := a5_0, res := [([], none)] }
theorem c5 : a5.body = a5_0 ∧
  a5.res = [([], none)] ∧
  Unf a5_0 a5_0b ∧
  Unf a5_1 a5_1b ∧
  Unf a5_2 a5_2b ∧
  Unf a5_3 a5_3b ∧
  Unf a5_4 a5_4b ∧
  Unf a5_5 a5_5b ∧
  Unf a5_6 a5_6b ∧
  Unf a5_7 a5_7b ∧
  Unf a5_8 a5_8b ∧
  Unf a5_9 a5_9b ∧
  Unf a5_10 a5_10b ∧
  Unf a5_11 a5_11b ∧
  Unf a5_12 a5_12b ∧
  Unf a5_13 a5_13b ∧
  Unf a5_14 a5_14b :=
  ⟨rfl, rfl, Unf.of rfl, Unf.of rfl, Unf.of rfl, Unf.of rfl, Unf.of rfl, Unf.of rfl, Unf.of rfl, Unf.of rfl, Unf.of rfl, Unf.of rfl, Unf.of rfl, Unf.of rfl, Unf.of rfl, Unf.of rfl, Unf.of rfl⟩
def a6_5b : ACode := .seq (.ops [
  ⟨some [true, true, true], none, .mv (.t []), []⟩,
  ⟨some [true, false, true], none, .mv (.t []), []⟩,
  ⟨some [false, true, true], none, .makeSlice 64 64 [(64, .int .u8 (.ofNat 0))] (.t [true, true, true]) (.t [true, true, true]), []⟩,
  ⟨some [false, false, true], none, .makeSlice 64 64 [(64, .int .u8 (.ofNat 0))] (.t [true, false, true]) (.t [true, false, true]), []⟩,
  ⟨some [true, true, false], none, .build [(3, .nilslice), (1, .int .i64 (.ofNat 0)), (1, .bool false)] [(0, 1, .t [false, true, true]), (1, 1, .t [false, false, true]), (3, 1, .c (.int .i64 (.negSucc 0)))], []⟩,
  ⟨some [false, true, false], none, .box (.t [true, true, false]), []⟩,
  ⟨some [false], none, .mv (.t [false, true, false]), []⟩,
  ⟨some [true, true], none, .mv (.c (.int .i64 (.ofNat 0))), []⟩]) .ret
def a6_5 : ACode := a6_5b
def a6_4b : ACode := .seq (.ops [
  ⟨some [false], none, .mv (.c .nilptr), []⟩,
  ⟨some [true, true], none, .mv (.c (.int .i64 (.ofNat 1))), []⟩]) .ret
def a6_4 : ACode := a6_4b
def a6_3b : ACode := .cond (.t [false, false]) a6_4 .skip
def a6_3 : ACode := a6_3b
def a6_2b : ACode := .seq (.ops [
  ⟨some [false, true], none, .mv (.t []), []⟩,
  ⟨some [true, false], none, .call 16 [.t [false, true], .c (.int .i64 (.ofNat 64)), .c (.int .i64 (.ofNat 65536))], []⟩,
  ⟨some [false, false], none, .un .not (.t [true, false]), []⟩]) a6_3
def a6_2 : ACode := a6_2b
def a6_1b : ACode := .seq a6_2 a6_5
def a6_1 : ACode := a6_1b
def a6_0b : ACode := .seq (.ops [
  ⟨some [false], none, .mv (.c .nilptr), []⟩,
  ⟨some [true, true], none, .mv (.c (.int .i64 (.ofNat 0))), []⟩]) a6_1
def a6_0 : ACode := a6_0b
def a6 : AFunc := { body := a6_0, res := [([false], none), ([true, true], none)] }
theorem c6 : a6.body = a6_0 ∧
  a6.res = [([false], none), ([true, true], none)] ∧
  Unf a6_0 a6_0b ∧
  Unf a6_1 a6_1b ∧
  Unf a6_2 a6_2b ∧
  Unf a6_3 a6_3b ∧
  Unf a6_4 a6_4b ∧
  Unf a6_5 a6_5b :=
  ⟨rfl, rfl, Unf.of rfl, Unf.of rfl, Unf.of rfl, Unf.of rfl, Unf.of rfl, Unf.of rfl⟩
def a7_23b : ACode := .seq (.ops [
  ⟨some [false, false], none, .mv (.c (.int .i64 (.ofNat 0))), []⟩]) .ret
def a7_23 : ACode := a7_23b
def a7_22b : ACode := .seq (.ops [
  ⟨some [true, true, true, false, true], none, .mv (.t []), []⟩,
  ⟨some [false, true, true, false, true], none, .mv (.t []), []⟩,
  ⟨some [true, false, true, false, true], none, .nilCheck (.t [false, true, true, false, true]), []⟩,
  ⟨some [false, false, true, false, true], none, .fieldAddr 2 (.t [true, false, true, false, true]), []⟩,
  ⟨some [true, true, false, false, true], none, .load false 1 (.t [false, false, true, false, true]), []⟩,
  ⟨some [false, true, false, false, true], none, .mv (.t [true]), []⟩,
  ⟨some [true, false, false, false, true], none, .load true 64 (.t [true, false, true]), []⟩,
  ⟨some [false, false, false, false, true], none, .build [(1, .int .i64 (.ofNat 0)), (64, .int .u8 (.ofNat 0))] [(0, 1, .t [false, true, false, false, true]), (1, 64, .t [true, false, false, false, true])], []⟩,
  ⟨some [true, true, true, true, false], none, .buildSlice 65 1 [(1, .int .i64 (.ofNat 0)), (64, .int .u8 (.ofNat 0))] [(0, 65, .t [false, false, false, false, true])], []⟩,
  ⟨some [false, true, true, true, false], none, .append 65 72 (.t [true, true, false, false, true]) (.t [true, true, true, true, false]), []⟩,
  ⟨some [true, false, true, true, false], none, .nilCheck (.t [true, true, true, false, true]), []⟩,
  ⟨some [false, false, true, true, false], none, .fieldAddr 2 (.t [true, false, true, true, false]), []⟩,
  ⟨none, none, .store 1 (.t [false, false, true, true, false]) (.t [false, true, true, true, false]), []⟩]) a7_23
def a7_22 : ACode := a7_22b
def a7_21b : ACode := .seq (.ops [
  ⟨some [false, true, true, true, true], none, .mv (.t []), []⟩,
  ⟨some [true, false, true, true, true], none, .nilCheck (.t [false, true, true, true, true]), []⟩,
  ⟨some [false, false, true, true, true], none, .fieldAddr 1 (.t [true, false, true, true, true]), []⟩,
  ⟨some [true, true, false, true, true], none, .load false 1 (.t [false, false, true, true, true]), []⟩,
  ⟨some [false, true, false, true, true], none, .mv (.t [true]), []⟩,
  ⟨some [true, false, false, true, true], none, .load true 64 (.t [true, false, true]), []⟩,
  ⟨some [false, false, false, true, true], none, .indexAddrS 64 (.t [true, true, false, true, true]) (.t [false, true, false, true, true]), []⟩,
  ⟨none, none, .store 64 (.t [false, false, false, true, true]) (.t [true, false, false, true, true]), []⟩]) a7_22
def a7_21 : ACode := a7_21b
def a7_20b : ACode := .seq (.ops [
  ⟨some [true, false, false, false], none, .sliceArr false 64 1 (.t [true, false, true]) none none none, []⟩,
  ⟨some [false, false, false, false], none, .mv (.t [false]), []⟩,
  ⟨some [true, true, true, true, true], none, .copy 1 (.t [true, false, false, false]) (.t [false, false, false, false]), []⟩]) a7_21
def a7_20 : ACode := a7_20b
def a7_19b : ACode := .seq (.ops [
  ⟨some [true, false, true], none, .alloc [(64, .int .u8 (.ofNat 0))], []⟩]) a7_20
def a7_19 : ACode := a7_19b
def a7_18b : ACode := .seq (.ops [
  ⟨some [false, true, false, false], none, .mv (.t [false, true, true]), []⟩,
  ⟨some [false, false], none, .mv (.t [false, true, false, false]), []⟩]) .ret
def a7_18 : ACode := a7_18b
def a7_17b : ACode := .cond (.t [true, true, false, false]) a7_18 .skip
def a7_17 : ACode := a7_17b
def a7_16b : ACode := .seq (.ops [
  ⟨some [false, false, true, false], none, .mv (.t [false, true, true]), []⟩,
  ⟨some [true, true, false, false], none, .eqs true .int (.t [false, false, true, false]) (.c (.int .i64 (.ofNat 0))), []⟩]) a7_17
def a7_16 : ACode := a7_16b
def a7_15b : ACode := .seq (.ops [
  ⟨some [false, true, true, false], none, .mv (.t []), []⟩,
  ⟨some [true, false, true, false], none, .call 19 [.t [false, true, true, false]], []⟩,
  ⟨some [false, true, true], none, .mv (.t [true, false, true, false]), []⟩]) a7_16
def a7_15 : ACode := a7_15b
def a7_14b : ACode := .seq a7_15 a7_19
def a7_14 : ACode := a7_14b
def a7_13b : ACode := .seq (.ops [
  ⟨some [false, false], none, .mv (.c (.int .i64 (.ofNat 2))), []⟩]) .ret
def a7_13 : ACode := a7_13b
def a7_12b : ACode := .cond (.t [false, true, false, true]) a7_13 .skip
def a7_12 : ACode := a7_12b
def a7_11b : ACode := .seq (.ops [
  ⟨some [true, false, false, true], none, .mv (.t [false]), []⟩,
  ⟨some [false, false, false, true], none, .len (.t [true, false, false, true]), []⟩,
  ⟨some [true, true, true, false], none, .arith .gtr (.t [false, false, false, true]) (.c (.int .i64 (.ofNat 64))), []⟩,
  ⟨some [false, true, false, true], none, .mv (.t [true, true, true, false]), []⟩]) a7_12
def a7_11 : ACode := a7_11b
def a7_10b : ACode := .seq (.ops [
  ⟨some [false, false], none, .mv (.c (.int .i64 (.ofNat 1))), []⟩]) .ret
def a7_10 : ACode := a7_10b
def a7_9b : ACode := .cond (.t [true, true, true, true]) a7_10 a7_11
def a7_9 : ACode := a7_9b
def a7_8b : ACode := .seq (.ops [
  ⟨some [false, true, true, true], none, .mv (.t []), []⟩,
  ⟨some [true, false, true, true], none, .mv (.t [true]), []⟩,
  ⟨some [false, false, true, true], none, .call 18 [.t [false, true, true, true], .t [true, false, true, true]], []⟩,
  ⟨some [true, true, false, true], none, .un .not (.t [false, false, true, true]), []⟩,
  ⟨some [true, true, true, true], none, .mv (.t [true, true, false, true]), []⟩]) a7_9
def a7_8 : ACode := a7_8b
def a7_7b : ACode := .block 0 a7_8
def a7_7 : ACode := a7_7b
def a7_6b : ACode := .seq a7_7 a7_14
def a7_6 : ACode := a7_6b
def a7_5b : ACode := .seq (.ops [
  ⟨some [false, false, false], none, .mv (.t [true, true, true]), []⟩,
  ⟨some [false, false], none, .mv (.t [false, false, false]), []⟩]) .ret
def a7_5 : ACode := a7_5b
def a7_4b : ACode := .cond (.t [true, false, false]) a7_5 .skip
def a7_4 : ACode := a7_4b
def a7_3b : ACode := .seq (.ops [
  ⟨some [false, true, false], none, .mv (.t [true, true, true]), []⟩,
  ⟨some [true, false, false], none, .eqs true .int (.t [false, true, false]) (.c (.int .i64 (.ofNat 0))), []⟩]) a7_4
def a7_3 : ACode := a7_3b
def a7_2b : ACode := .seq (.ops [
  ⟨some [false, false, true], none, .mv (.t []), []⟩,
  ⟨some [true, true, false], none, .call 17 [.t [false, false, true]], []⟩,
  ⟨some [true, true, true], none, .mv (.t [true, true, false]), []⟩]) a7_3
def a7_2 : ACode := a7_2b
def a7_1b : ACode := .seq a7_2 a7_6
def a7_1 : ACode := a7_1b
def a7_0b : ACode := .seq (.ops [
  ⟨some [false, false], none, .mv (.c (.int .i64 (.ofNat 0))), []⟩]) a7_1
def a7_0 : ACode := a7_0b
def a7 : AFunc := { body := a7_0, res := [([false, false], none)] }
theorem c7 : a7.body = a7_0 ∧
  a7.res = [([false, false], none)] ∧
  Unf a7_0 a7_0b ∧
  Unf a7_1 a7_1b ∧
  Unf a7_2 a7_2b ∧
  Unf a7_3 a7_3b ∧
  Unf a7_4 a7_4b ∧
  Unf a7_5 a7_5b ∧
  Unf a7_6 a7_6b ∧
  Unf a7_7 a7_7b ∧
  Unf a7_8 a7_8b ∧
  Unf a7_9 a7_9b ∧
  Unf a7_10 a7_10b ∧
  Unf a7_11 a7_11b ∧
  Unf a7_12 a7_12b ∧
  Unf a7_13 a7_13b ∧
  Unf a7_14 a7_14b ∧
  Unf a7_15 a7_15b ∧
  Unf a7_16 a7_16b ∧
  Unf a7_17 a7_17b ∧
  Unf a7_18 a7_18b ∧
  Unf a7_19 a7_19b ∧
  Unf a7_20 a7_20b ∧
  Unf a7_21 a7_21b ∧
  Unf a7_22 a7_22b ∧
  Unf a7_23 a7_23b :=
  ⟨rfl, rfl, Unf.of rfl, Unf.of rfl, Unf.of rfl, Unf.of rfl, Unf.of rfl, Unf.of rfl, Unf.of rfl, Unf.of rfl, Unf.of rfl, Unf.of rfl, Unf.of rfl, Unf.of rfl, Unf.of rfl, Unf.of rfl, Unf.of rfl, Unf.of rfl, Unf.of rfl, Unf.of rfl, Unf.of rfl, Unf.of rfl, Unf.of rfl, Unf.of rfl, Unf.of rfl, Unf.of rfl⟩
def a8_24b : ACode := .seq (.ops [
  ⟨some [false], none, .mv (.c (.int .i64 (.ofNat 0))), []⟩]) .ret
def a8_24 : ACode := a8_24b
def a8_23b : ACode := .seq (.ops [
  ⟨some [false, true, false, true, true], none, .mv (.t []), []⟩,
  ⟨some [true, false, false, true, true], none, .nilCheck (.t [false, true, false, true, true]), []⟩,
  ⟨some [false, false, false, true, true], none, .fieldAddr 2 (.t [true, false, false, true, true]), []⟩,
  ⟨none, none, .store 1 (.t [false, false, false, true, true]) (.c .nilslice), []⟩]) a8_24
def a8_23 : ACode := a8_23b
def a8_22b : ACode := .ops [
  ⟨some [true, true, false, true, true], none, .arith .add (.t [false, false, false, true]) (.c (.int .i64 (.ofNat 1))), []⟩,
  ⟨some [false, false, false, true], none, .mv (.t [true, true, false, true, true]), []⟩]
def a8_22 : ACode := a8_22b
def a8_21b : ACode := .ops [
  ⟨some [false, false, true, false], none, .mv (.t []), []⟩,
  ⟨some [true, true, false, false], none, .nilCheck (.t [false, false, true, false]), []⟩,
  ⟨some [false, true, false, false], none, .fieldAddr 0 (.t [true, true, false, false]), []⟩,
  ⟨some [true, false, false, false], none, .load false 1 (.t [false, true, false, false]), []⟩,
  ⟨some [false, false, false, false], none, .fieldAddr 0 (.t [false, false]), []⟩,
  ⟨some [true, true, true, true, true], none, .load false 1 (.t [false, false, false, false]), []⟩,
  ⟨some [false, true, true, true, true], none, .fieldAddr 1 (.t [false, false]), []⟩,
  ⟨some [true, false, true, true, true], none, .load true 64 (.t [false, true, true, true, true]), []⟩,
  ⟨some [false, false, true, true, true], none, .indexAddrS 64 (.t [true, false, false, false]) (.t [true, true, true, true, true]), []⟩,
  ⟨none, none, .store 64 (.t [false, false, true, true, true]) (.t [true, false, true, true, true]), []⟩]
def a8_21 : ACode := a8_21b
def a8_20b : ACode := .seq (.ops [
  ⟨some [false, true, true, false], none, .indexAddrS 65 (.t [false, true, false, true]) (.t [false, false, false, true]), []⟩,
  ⟨some [true, false, true, false], none, .load true 65 (.t [false, true, true, false]), []⟩,
  ⟨some [false, false], none, .alloc [(1, .int .i64 (.ofNat 0)), (64, .int .u8 (.ofNat 0))], []⟩,
  ⟨none, none, .store 65 (.t [false, false]) (.t [true, false, true, false]), []⟩]) a8_21
def a8_20 : ACode := a8_20b
def a8_19b : ACode := .block 1 a8_20
def a8_19 : ACode := a8_19b
def a8_18b : ACode := .seq a8_19 a8_22
def a8_18 : ACode := a8_18b
def a8_17b : ACode := .cond (.t [true, true, true, false]) .skip (.exit 0)
def a8_17 : ACode := a8_17b
def a8_16b : ACode := .seq a8_17 a8_18
def a8_16 : ACode := a8_16b
def a8_15b : ACode := .seq (.ops [
  ⟨some [true, true, true, false], none, .arith .lss (.t [false, false, false, true]) (.t [true, false, false, true]), []⟩]) a8_16
def a8_15 : ACode := a8_15b
def a8_14b : ACode := .loop a8_15
def a8_14 : ACode := a8_14b
def a8_13b : ACode := .block 0 a8_14
def a8_13 : ACode := a8_13b
def a8_12b : ACode := .seq (.ops [
  ⟨some [true, false, true, true], none, .mv (.t []), []⟩,
  ⟨some [false, false, true, true], none, .nilCheck (.t [true, false, true, true]), []⟩,
  ⟨some [true, true, false, true], none, .fieldAddr 2 (.t [false, false, true, true]), []⟩,
  ⟨some [false, true, false, true], none, .load false 1 (.t [true, true, false, true]), []⟩,
  ⟨some [true, false, false, true], none, .len (.t [false, true, false, true]), []⟩,
  ⟨some [false, false, false, true], none, .mv (.c (.int .i64 (.ofNat 0))), []⟩]) a8_13
def a8_12 : ACode := a8_12b
def a8_11b : ACode := .seq a8_12 a8_23
def a8_11 : ACode := a8_11b
def a8_10b : ACode := .seq (.ops [
  ⟨some [false, true, true, true], none, .mv (.t [false, true]), []⟩,
  ⟨some [false], none, .mv (.t [false, true, true, true]), []⟩]) .ret
def a8_10 : ACode := a8_10b
def a8_9b : ACode := .cond (.t [true, true, true, true]) a8_10 .skip
def a8_9 : ACode := a8_9b
def a8_8b : ACode := .seq (.ops [
  ⟨some [false, false, false], none, .mv (.t [false, true]), []⟩,
  ⟨some [true, true, true, true], none, .eqs true .int (.t [false, false, false]) (.c (.int .i64 (.ofNat 0))), []⟩]) a8_9
def a8_8 : ACode := a8_8b
def a8_7b : ACode := .seq (.ops [
  ⟨some [false, true, false], none, .mv (.t []), []⟩,
  ⟨some [true, false, false], none, .call 19 [.t [false, true, false]], []⟩,
  ⟨some [false, true], none, .mv (.t [true, false, false]), []⟩]) a8_8
def a8_7 : ACode := a8_7b
def a8_6b : ACode := .seq a8_7 a8_11
def a8_6 : ACode := a8_6b
def a8_5b : ACode := .seq (.ops [
  ⟨some [true, true, false], none, .mv (.t [true, true]), []⟩,
  ⟨some [false], none, .mv (.t [true, true, false]), []⟩]) .ret
def a8_5 : ACode := a8_5b
def a8_4b : ACode := .cond (.t [false, false, true]) a8_5 .skip
def a8_4 : ACode := a8_4b
def a8_3b : ACode := .seq (.ops [
  ⟨some [true, false, true], none, .mv (.t [true, true]), []⟩,
  ⟨some [false, false, true], none, .eqs true .int (.t [true, false, true]) (.c (.int .i64 (.ofNat 0))), []⟩]) a8_4
def a8_3 : ACode := a8_3b
def a8_2b : ACode := .seq (.ops [
  ⟨some [true, true, true], none, .mv (.t []), []⟩,
  ⟨some [false, true, true], none, .call 17 [.t [true, true, true]], []⟩,
  ⟨some [true, true], none, .mv (.t [false, true, true]), []⟩]) a8_3
def a8_2 : ACode := a8_2b
def a8_1b : ACode := .seq a8_2 a8_6
def a8_1 : ACode := a8_1b
def a8_0b : ACode := .seq (.ops [
  ⟨some [false], none, .mv (.c (.int .i64 (.ofNat 0))), []⟩]) a8_1
def a8_0 : ACode := a8_0b
def a8 : AFunc := { body := a8_0, res := [([false], none)] }
theorem c8 : a8.body = a8_0 ∧
  a8.res = [([false], none)] ∧
  Unf a8_0 a8_0b ∧
  Unf a8_1 a8_1b ∧
  Unf a8_2 a8_2b ∧
  Unf a8_3 a8_3b ∧
  Unf a8_4 a8_4b ∧
  Unf a8_5 a8_5b ∧
  Unf a8_6 a8_6b ∧
  Unf a8_7 a8_7b ∧
  Unf a8_8 a8_8b ∧
  Unf a8_9 a8_9b ∧
  Unf a8_10 a8_10b ∧
  Unf a8_11 a8_11b ∧
  Unf a8_12 a8_12b ∧
  Unf a8_13 a8_13b ∧
  Unf a8_14 a8_14b ∧
  Unf a8_15 a8_15b ∧
  Unf a8_16 a8_16b ∧
  Unf a8_17 a8_17b ∧
  Unf a8_18 a8_18b ∧
  Unf a8_19 a8_19b ∧
  Unf a8_20 a8_20b ∧
  Unf a8_21 a8_21b ∧
  Unf a8_22 a8_22b ∧
  Unf a8_23 a8_23b ∧
  Unf a8_24 a8_24b :=
  ⟨rfl, rfl, Unf.of rfl, Unf.of rfl, Unf.of rfl, Unf.of rfl, Unf.of rfl, Unf.of rfl, Unf.of rfl, Unf.of rfl, Unf.of rfl, Unf.of rfl, Unf.of rfl, Unf.of rfl, Unf.of rfl, Unf.of rfl, Unf.of rfl, Unf.of rfl, Unf.of rfl, Unf.of rfl, Unf.of rfl, Unf.of rfl, Unf.of rfl, Unf.of rfl, Unf.of rfl, Unf.of rfl, Unf.of rfl⟩
def a9_23b : ACode := .ops [
  ⟨some [true, false, true, false, false], none, .mv (.t []), []⟩,
  ⟨some [false, false, true, false, false], none, .nilCheck (.t [true, false, true, false, false]), []⟩,
  ⟨some [true, true, false, false, false], none, .fieldAddr 4 (.t [false, false, true, false, false]), []⟩,
  ⟨none, none, .store 1 (.t [true, true, false, false, false]) (.c (.bool false)), []⟩]
def a9_23 : ACode := a9_23b
def a9_22b : ACode := .seq (.ops [
  ⟨some [false, false, false, true, false], none, .mv (.t []), []⟩,
  ⟨some [true, true, true, false, false], none, .nilCheck (.t [false, false, false, true, false]), []⟩,
  ⟨some [false, true, true, false, false], none, .fieldAddr 3 (.t [true, true, true, false, false]), []⟩,
  ⟨none, none, .store 1 (.t [false, true, true, false, false]) (.c (.int .i64 (.negSucc 0))), []⟩]) a9_23
def a9_22 : ACode := a9_22b
def a9_21b : ACode := .seq (.ops [
  ⟨some [false, false, false, false, true], none, .mv (.t []), []⟩,
  ⟨some [true, true, true, true, false], none, .mv (.t []), []⟩,
  ⟨some [false, true, true, true, false], none, .nilCheck (.t [true, true, true, true, false]), []⟩,
  ⟨some [true, false, true, true, false], none, .fieldAddr 0 (.t [false, true, true, true, false]), []⟩,
  ⟨some [false, false, true, true, false], none, .load false 1 (.t [true, false, true, true, false]), []⟩,
  ⟨some [true, true, false, true, false], none, .call 20 [.t [false, false, true, true, false]], []⟩,
  ⟨some [false, true, false, true, false], none, .nilCheck (.t [false, false, false, false, true]), []⟩,
  ⟨some [true, false, false, true, false], none, .fieldAddr 1 (.t [false, true, false, true, false]), []⟩,
  ⟨none, none, .store 1 (.t [true, false, false, true, false]) (.t [true, true, false, true, false]), []⟩]) a9_22
def a9_21 : ACode := a9_21b
def a9_20b : ACode := .seq (.ops [
  ⟨some [true, true, false, false, true], none, .mv (.t []), []⟩,
  ⟨some [false, true, false, false, true], none, .nilCheck (.t [true, true, false, false, true]), []⟩,
  ⟨some [true, false, false, false, true], none, .fieldAddr 2 (.t [false, true, false, false, true]), []⟩,
  ⟨none, none, .store 1 (.t [true, false, false, false, true]) (.c .nilslice), []⟩]) a9_21
def a9_20 : ACode := a9_20b
def a9_19b : ACode := .ops [
  ⟨some [false, false, true, false, true], none, .arith .add (.t [false, false, false]) (.c (.int .i64 (.ofNat 1))), []⟩,
  ⟨some [false, false, false], none, .mv (.t [false, false, true, false, true]), []⟩]
def a9_19 : ACode := a9_19b
def a9_18b : ACode := .ops [
  ⟨some [true, false, false, false], none, .mv (.t []), []⟩,
  ⟨some [false, false, false, false], none, .nilCheck (.t [true, false, false, false]), []⟩,
  ⟨some [true, true, true, true, true], none, .fieldAddr 0 (.t [false, false, false, false]), []⟩,
  ⟨some [false, true, true, true, true], none, .load false 1 (.t [true, true, true, true, true]), []⟩,
  ⟨some [true, false, true, true, true], none, .fieldAddr 0 (.t [true, false]), []⟩,
  ⟨some [false, false, true, true, true], none, .load false 1 (.t [true, false, true, true, true]), []⟩,
  ⟨some [true, true, false, true, true], none, .indexAddrS 64 (.t [false, true, true, true, true]) (.t [false, false, true, true, true]), []⟩,
  ⟨some [false, true, false, true, true], none, .mv (.t [false, false]), []⟩,
  ⟨some [true, false, false, true, true], none, .sliceArr false 64 1 (.t [true, true, false, true, true]) none (some (.t [false, true, false, true, true])) none, []⟩,
  ⟨some [false, false, false, true, true], none, .fieldAddr 1 (.t [true, false]), []⟩,
  ⟨some [true, true, true, false, true], none, .mv (.t [false, false]), []⟩,
  ⟨some [false, true, true, false, true], none, .sliceArr false 64 1 (.t [false, false, false, true, true]) none (some (.t [true, true, true, false, true])) none, []⟩,
  ⟨some [true, false, true, false, true], none, .copy 1 (.t [true, false, false, true, true]) (.t [false, true, true, false, true]), []⟩]
def a9_18 : ACode := a9_18b
def a9_17b : ACode := .ops [
  ⟨some [true, true, true, false], none, .mv (.t [true]), []⟩,
  ⟨some [false, true, true, false], none, .mv (.t [false, true]), []⟩,
  ⟨some [true, false, true, false], none, .indexAddrS 1 (.t [true, true, true, false]) (.t [false, true, true, false]), []⟩,
  ⟨some [false, false, true, false], none, .load false 1 (.t [true, false, true, false]), []⟩,
  ⟨some [true, true, false, false], none, .max [.t [false, false, true, false], .c (.int .i64 (.ofNat 0))], []⟩,
  ⟨some [false, true, false, false], none, .min [.t [true, true, false, false], .c (.int .i64 (.ofNat 64))], []⟩,
  ⟨some [false, false], none, .mv (.t [false, true, false, false]), []⟩]
def a9_17 : ACode := a9_17b
def a9_16b : ACode := .cond (.t [false, false, false, true]) a9_17 .skip
def a9_16 : ACode := a9_16b
def a9_15b : ACode := .seq (.ops [
  ⟨some [true, true, false, true], none, .mv (.t [false, true]), []⟩,
  ⟨some [false, true, false, true], none, .mv (.t [true]), []⟩,
  ⟨some [true, false, false, true], none, .len (.t [false, true, false, true]), []⟩,
  ⟨some [false, false, false, true], none, .arith .lss (.t [true, true, false, true]) (.t [true, false, false, true]), []⟩]) a9_16
def a9_15 : ACode := a9_15b
def a9_14b : ACode := .seq a9_15 a9_18
def a9_14 : ACode := a9_14b
def a9_13b : ACode := .seq (.ops [
  ⟨some [false, false], none, .mv (.c (.int .i64 (.ofNat 0))), []⟩]) a9_14
def a9_13 : ACode := a9_13b
def a9_12b : ACode := .seq (.ops [
  ⟨some [false, true, true, true], none, .mv (.t [false, false, false]), []⟩,
  ⟨some [true, false, true, true], none, .indexAddrS 65 (.t [false, true, false]) (.t [false, false, false]), []⟩,
  ⟨some [false, false, true, true], none, .load true 65 (.t [true, false, true, true]), []⟩,
  ⟨some [true, false], none, .alloc [(1, .int .i64 (.ofNat 0)), (64, .int .u8 (.ofNat 0))], []⟩,
  ⟨some [false, true], none, .mv (.t [false, true, true, true]), []⟩,
  ⟨none, none, .store 65 (.t [true, false]) (.t [false, false, true, true]), []⟩]) a9_13
def a9_12 : ACode := a9_12b
def a9_11b : ACode := .block 1 a9_12
def a9_11 : ACode := a9_11b
def a9_10b : ACode := .seq a9_11 a9_19
def a9_10 : ACode := a9_10b
def a9_9b : ACode := .cond (.t [true, true, true, true]) .skip (.exit 0)
def a9_9 : ACode := a9_9b
def a9_8b : ACode := .seq a9_9 a9_10
def a9_8 : ACode := a9_8b
def a9_7b : ACode := .seq (.ops [
  ⟨some [true, true, true, true], none, .arith .lss (.t [false, false, false]) (.t [true, false, false]), []⟩]) a9_8
def a9_7 : ACode := a9_7b
def a9_6b : ACode := .loop a9_7
def a9_6 : ACode := a9_6b
def a9_5b : ACode := .block 0 a9_6
def a9_5 : ACode := a9_5b
def a9_4b : ACode := .seq (.ops [
  ⟨some [true, false, true], none, .mv (.t []), []⟩,
  ⟨some [false, false, true], none, .nilCheck (.t [true, false, true]), []⟩,
  ⟨some [true, true, false], none, .fieldAddr 2 (.t [false, false, true]), []⟩,
  ⟨some [false, true, false], none, .load false 1 (.t [true, true, false]), []⟩,
  ⟨some [true, false, false], none, .len (.t [false, true, false]), []⟩,
  ⟨some [false, false, false], none, .mv (.c (.int .i64 (.ofNat 0))), []⟩]) a9_5
def a9_4 : ACode := a9_4b
def a9_3b : ACode := .seq a9_4 a9_20
def a9_3 : ACode := a9_3b
def a9_2b : ACode := .cond (.t [false, true, true]) .ret .skip
def a9_2 : ACode := a9_2b
def a9_1b : ACode := .seq (.ops [
  ⟨some [true, true, true], none, .mv (.t []), []⟩,
  ⟨some [false, true, true], none, .eqs false .ptr (.t [true, true, true]) (.c .nilptr), []⟩]) a9_2
def a9_1 : ACode := a9_1b
def a9_0b : ACode := .seq a9_1 a9_3
def a9_0 : ACode := a9_0b
def a9 : AFunc := { body := a9_0, res := [] }
theorem c9 : a9.body = a9_0 ∧
  a9.res = [] ∧
  Unf a9_0 a9_0b ∧
  Unf a9_1 a9_1b ∧
  Unf a9_2 a9_2b ∧
  Unf a9_3 a9_3b ∧
  Unf a9_4 a9_4b ∧
  Unf a9_5 a9_5b ∧
  Unf a9_6 a9_6b ∧
  Unf a9_7 a9_7b ∧
  Unf a9_8 a9_8b ∧
  Unf a9_9 a9_9b ∧
  Unf a9_10 a9_10b ∧
  Unf a9_11 a9_11b ∧
  Unf a9_12 a9_12b ∧
  Unf a9_13 a9_13b ∧
  Unf a9_14 a9_14b ∧
  Unf a9_15 a9_15b ∧
  Unf a9_16 a9_16b ∧
  Unf a9_17 a9_17b ∧
  Unf a9_18 a9_18b ∧
  Unf a9_19 a9_19b ∧
  Unf a9_20 a9_20b ∧
  Unf a9_21 a9_21b ∧
  Unf a9_22 a9_22b ∧
  Unf a9_23 a9_23b :=
  ⟨rfl, rfl, Unf.of rfl, Unf.of rfl, Unf.of rfl, Unf.of rfl, Unf.of rfl, Unf.of rfl, Unf.of rfl, Unf.of rfl, Unf.of rfl, Unf.of rfl, Unf.of rfl, Unf.of rfl, Unf.of rfl, Unf.of rfl, Unf.of rfl, Unf.of rfl, Unf.of rfl, Unf.of rfl, Unf.of rfl, Unf.of rfl, Unf.of rfl, Unf.of rfl, Unf.of rfl, Unf.of rfl⟩
def a10_25b : ACode := .seq (.ops [
  ⟨some [false, false], none, .mv (.c (.int .i64 (.ofNat 0))), []⟩]) .ret
def a10_25 : ACode := a10_25b
def a10_24b : ACode := .ops [
  ⟨some [false, false, false, false, false], none, .arith .add (.t [false, true, true, false, true]) (.c (.int .i64 (.ofNat 1))), []⟩,
  ⟨some [false, true, true, false, true], none, .mv (.t [false, false, false, false, false]), []⟩]
def a10_24 : ACode := a10_24b
def a10_23b : ACode := .ops [
  ⟨some [true, false, false, true, false], none, .mv (.t []), []⟩,
  ⟨some [false, false, false, true, false], none, .nilCheck (.t [true, false, false, true, false]), []⟩,
  ⟨some [true, true, true, false, false], none, .fieldAddr 2 (.t [false, false, false, true, false]), []⟩,
  ⟨some [false, true, true, false, false], none, .load false 1 (.t [true, true, true, false, false]), []⟩,
  ⟨some [true, false, true, false, false], none, .mv (.t [true, true, true]), []⟩,
  ⟨some [false, false, true, false, false], none, .indexAddrS 65 (.t [false, true, true, false, false]) (.t [true, false, true, false, false]), []⟩,
  ⟨some [true, true, false, false, false], none, .fieldAddr 1 (.t [false, false, true, false, false]), []⟩,
  ⟨some [false, true, false, false, false], none, .mv (.t [false]), []⟩,
  ⟨some [true, false, false, false, false], none, .call 21 [.t [true, true, false, false, false], .t [false, true, false, false, false]], []⟩]
def a10_23 : ACode := a10_23b
def a10_22b : ACode := .cond (.t [false, true, false, true, false]) a10_23 .skip
def a10_22 : ACode := a10_22b
def a10_21b : ACode := .seq (.ops [
  ⟨some [true, true, false, false, true], none, .mv (.t []), []⟩,
  ⟨some [false, true, false, false, true], none, .nilCheck (.t [true, true, false, false, true]), []⟩,
  ⟨some [true, false, false, false, true], none, .fieldAddr 2 (.t [false, true, false, false, true]), []⟩,
  ⟨some [false, false, false, false, true], none, .load false 1 (.t [true, false, false, false, true]), []⟩,
  ⟨some [true, true, true, true, false], none, .mv (.t [true, true, true]), []⟩,
  ⟨some [false, true, true, true, false], none, .indexAddrS 65 (.t [false, false, false, false, true]) (.t [true, true, true, true, false]), []⟩,
  ⟨some [true, false, true, true, false], none, .fieldAddr 0 (.t [false, true, true, true, false]), []⟩,
  ⟨some [false, false, true, true, false], none, .load false 1 (.t [true, false, true, true, false]), []⟩,
  ⟨some [true, true, false, true, false], none, .mv (.t [true]), []⟩,
  ⟨some [false, true, false, true, false], none, .eqs false .int (.t [false, false, true, true, false]) (.t [true, true, false, true, false]), []⟩]) a10_22
def a10_21 : ACode := a10_21b
def a10_20b : ACode := .seq (.ops [
  ⟨some [false, false, true, false, true], none, .mv (.t [false, true, true, false, true]), []⟩,
  ⟨some [true, true, true], none, .mv (.t [false, false, true, false, true]), []⟩]) a10_21
def a10_20 : ACode := a10_20b
def a10_19b : ACode := .block 1 a10_20
def a10_19 : ACode := a10_19b
def a10_18b : ACode := .seq a10_19 a10_24
def a10_18 : ACode := a10_18b
def a10_17b : ACode := .cond (.t [true, false, true, false, true]) .skip (.exit 0)
def a10_17 : ACode := a10_17b
def a10_16b : ACode := .seq a10_17 a10_18
def a10_16 : ACode := a10_16b
def a10_15b : ACode := .seq (.ops [
  ⟨some [true, false, true, false, true], none, .arith .lss (.t [false, true, true, false, true]) (.t [true, true, true, false, true]), []⟩]) a10_16
def a10_15 : ACode := a10_15b
def a10_14b : ACode := .loop a10_15
def a10_14 : ACode := a10_14b
def a10_13b : ACode := .block 0 a10_14
def a10_13 : ACode := a10_13b
def a10_12b : ACode := .seq (.ops [
  ⟨some [true, true, false, true, true], none, .mv (.t []), []⟩,
  ⟨some [false, true, false, true, true], none, .nilCheck (.t [true, true, false, true, true]), []⟩,
  ⟨some [true, false, false, true, true], none, .fieldAddr 2 (.t [false, true, false, true, true]), []⟩,
  ⟨some [false, false, false, true, true], none, .load false 1 (.t [true, false, false, true, true]), []⟩,
  ⟨some [true, true, true, false, true], none, .len (.t [false, false, false, true, true]), []⟩,
  ⟨some [false, true, true, false, true], none, .mv (.c (.int .i64 (.ofNat 0))), []⟩]) a10_13
def a10_12 : ACode := a10_12b
def a10_11b : ACode := .seq a10_12 a10_25
def a10_11 : ACode := a10_11b
def a10_10b : ACode := .seq (.ops [
  ⟨some [true, true, false, false], none, .mv (.t []), []⟩,
  ⟨some [false, true, false, false], none, .nilCheck (.t [true, true, false, false]), []⟩,
  ⟨some [true, false, false, false], none, .fieldAddr 0 (.t [false, true, false, false]), []⟩,
  ⟨some [false, false, false, false], none, .load false 1 (.t [true, false, false, false]), []⟩,
  ⟨some [true, true, true, true, true], none, .mv (.t [true]), []⟩,
  ⟨some [false, true, true, true, true], none, .indexAddrS 64 (.t [false, false, false, false]) (.t [true, true, true, true, true]), []⟩,
  ⟨some [true, false, true, true, true], none, .mv (.t [false]), []⟩,
  ⟨some [false, false, true, true, true], none, .call 21 [.t [false, true, true, true, true], .t [true, false, true, true, true]], []⟩]) a10_11
def a10_10 : ACode := a10_10b
def a10_9b : ACode := .seq (.ops [
  ⟨some [true, true, false, true], none, .mv (.t []), []⟩,
  ⟨some [false, true, false, true], none, .nilCheck (.t [true, true, false, true]), []⟩,
  ⟨some [true, false, false, true], none, .fieldAddr 1 (.t [false, true, false, true]), []⟩,
  ⟨some [false, false, false, true], none, .load false 1 (.t [true, false, false, true]), []⟩,
  ⟨some [true, true, true, false], none, .mv (.t [true]), []⟩,
  ⟨some [false, true, true, false], none, .indexAddrS 64 (.t [false, false, false, true]) (.t [true, true, true, false]), []⟩,
  ⟨some [true, false, true, false], none, .mv (.t [false]), []⟩,
  ⟨some [false, false, true, false], none, .call 21 [.t [false, true, true, false], .t [true, false, true, false]], []⟩]) a10_10
def a10_9 : ACode := a10_9b
def a10_8b : ACode := .seq (.ops [
  ⟨some [false, false], none, .mv (.c (.int .i64 (.ofNat 1))), []⟩]) .ret
def a10_8 : ACode := a10_8b
def a10_7b : ACode := .cond (.t [false, false, true, true]) a10_8 .skip
def a10_7 : ACode := a10_7b
def a10_6b : ACode := .seq (.ops [
  ⟨some [false, false, true], none, .mv (.t []), []⟩,
  ⟨some [true, true, false], none, .mv (.t [true]), []⟩,
  ⟨some [false, true, false], none, .call 18 [.t [false, false, true], .t [true, true, false]], []⟩,
  ⟨some [true, false, false], none, .un .not (.t [false, true, false]), []⟩,
  ⟨some [false, false, false], none, .mv (.t [true, false, false]), []⟩,
  ⟨some [true, true, true, true], some ([false, false, false], false), .mv (.t [false]), []⟩,
  ⟨some [false, true, true, true], some ([false, false, false], false), .call 16 [.t [true, true, true, true], .c (.int .i64 (.ofNat 0)), .c (.int .i64 (.ofNat 64))], []⟩,
  ⟨some [true, false, true, true], some ([false, false, false], false), .un .not (.t [false, true, true, true]), []⟩,
  ⟨some [false, false, true, true], none, .pick (.t [false, false, false]) (.c (.bool true)) (.t [true, false, true, true]), []⟩]) a10_7
def a10_6 : ACode := a10_6b
def a10_5b : ACode := .seq a10_6 a10_9
def a10_5 : ACode := a10_5b
def a10_4b : ACode := .seq (.ops [
  ⟨some [false, false], none, .mv (.c (.int .i64 (.ofNat 3))), []⟩]) .ret
def a10_4 : ACode := a10_4b
def a10_3b : ACode := .cond (.t [true, false, true]) a10_4 .skip
def a10_3 : ACode := a10_3b
def a10_2b : ACode := .seq (.ops [
  ⟨some [false, true, true], none, .mv (.t []), []⟩,
  ⟨some [true, false, true], none, .eqs false .ptr (.t [false, true, true]) (.c .nilptr), []⟩]) a10_3
def a10_2 : ACode := a10_2b
def a10_1b : ACode := .seq a10_2 a10_5
def a10_1 : ACode := a10_1b
def a10_0b : ACode := .seq (.ops [
  ⟨some [false, false], none, .mv (.c (.int .i64 (.ofNat 0))), []⟩]) a10_1
def a10_0 : ACode := a10_0b
def a10 : AFunc := { body := a10_0, res := [([false, false], none)] }
theorem c10 : a10.body = a10_0 ∧
  a10.res = [([false, false], none)] ∧
  Unf a10_0 a10_0b ∧
  Unf a10_1 a10_1b ∧
  Unf a10_2 a10_2b ∧
  Unf a10_3 a10_3b ∧
  Unf a10_4 a10_4b ∧
  Unf a10_5 a10_5b ∧
  Unf a10_6 a10_6b ∧
  Unf a10_7 a10_7b ∧
  Unf a10_8 a10_8b ∧
  Unf a10_9 a10_9b ∧
  Unf a10_10 a10_10b ∧
  Unf a10_11 a10_11b ∧
  Unf a10_12 a10_12b ∧
  Unf a10_13 a10_13b ∧
  Unf a10_14 a10_14b ∧
  Unf a10_15 a10_15b ∧
  Unf a10_16 a10_16b ∧
  Unf a10_17 a10_17b ∧
  Unf a10_18 a10_18b ∧
  Unf a10_19 a10_19b ∧
  Unf a10_20 a10_20b ∧
  Unf a10_21 a10_21b ∧
  Unf a10_22 a10_22b ∧
  Unf a10_23 a10_23b ∧
  Unf a10_24 a10_24b ∧
  Unf a10_25 a10_25b :=
  ⟨rfl, rfl, Unf.of rfl, Unf.of rfl, Unf.of rfl, Unf.of rfl, Unf.of rfl, Unf.of rfl, Unf.of rfl, Unf.of rfl, Unf.of rfl, Unf.of rfl, Unf.of rfl, Unf.of rfl, Unf.of rfl, Unf.of rfl, Unf.of rfl, Unf.of rfl, Unf.of rfl, Unf.of rfl, Unf.of rfl, Unf.of rfl, Unf.of rfl, Unf.of rfl, Unf.of rfl, Unf.of rfl, Unf.of rfl, Unf.of rfl⟩
def a11_10b : ACode := .seq (.ops [
  ⟨some [false, true, true, true], none, .mv (.t []), []⟩,
  ⟨some [true, false, true, true], none, .nilCheck (.t [false, true, true, true]), []⟩,
  ⟨some [false, false, true, true], none, .fieldAddr 1 (.t [true, false, true, true]), []⟩,
  ⟨some [true, true, false, true], none, .load false 1 (.t [false, false, true, true]), []⟩,
  ⟨some [false, true, false, true], none, .mv (.t [true]), []⟩,
  ⟨some [true, false, false, true], none, .indexAddrS 64 (.t [true, true, false, true]) (.t [false, true, false, true]), []⟩,
  ⟨some [false, false, false, true], none, .sliceArr false 64 1 (.t [true, false, false, true]) none none none, []⟩,
  ⟨some [true, true, true, false], none, .call 22 [.t [false, false, false, true]], []⟩,
  ⟨some [false, true], none, .mv (.t [true, true, true, false]), []⟩,
  ⟨some [true, false], none, .mv (.c (.int .i64 (.ofNat 0))), []⟩]) .ret
def a11_10 : ACode := a11_10b
def a11_9b : ACode := .seq (.ops [
  ⟨some [false, true], none, .mv (.c .nilslice), []⟩,
  ⟨some [true, false], none, .mv (.c (.int .i64 (.ofNat 1))), []⟩]) .ret
def a11_9 : ACode := a11_9b
def a11_8b : ACode := .cond (.t [true, true, true, true]) a11_9 .skip
def a11_8 : ACode := a11_8b
def a11_7b : ACode := .seq (.ops [
  ⟨some [false, true, false], none, .mv (.t []), []⟩,
  ⟨some [true, false, false], none, .mv (.t [true]), []⟩,
  ⟨some [false, false, false], none, .call 18 [.t [false, true, false], .t [true, false, false]], []⟩,
  ⟨some [true, true, true, true], none, .un .not (.t [false, false, false]), []⟩]) a11_8
def a11_7 : ACode := a11_7b
def a11_6b : ACode := .seq a11_7 a11_10
def a11_6 : ACode := a11_6b
def a11_5b : ACode := .seq (.ops [
  ⟨some [true, true, false], none, .mv (.t [false, false]), []⟩,
  ⟨some [false, true], none, .mv (.c .nilslice), []⟩,
  ⟨some [true, false], none, .mv (.t [true, true, false]), []⟩]) .ret
def a11_5 : ACode := a11_5b
def a11_4b : ACode := .cond (.t [false, false, true]) a11_5 .skip
def a11_4 : ACode := a11_4b
def a11_3b : ACode := .seq (.ops [
  ⟨some [true, false, true], none, .mv (.t [false, false]), []⟩,
  ⟨some [false, false, true], none, .eqs true .int (.t [true, false, true]) (.c (.int .i64 (.ofNat 0))), []⟩]) a11_4
def a11_3 : ACode := a11_3b
def a11_2b : ACode := .seq (.ops [
  ⟨some [true, true, true], none, .mv (.t []), []⟩,
  ⟨some [false, true, true], none, .call 17 [.t [true, true, true]], []⟩,
  ⟨some [false, false], none, .mv (.t [false, true, true]), []⟩]) a11_3
def a11_2 : ACode := a11_2b
def a11_1b : ACode := .seq a11_2 a11_6
def a11_1 : ACode := a11_1b
def a11_0b : ACode := .seq (.ops [
  ⟨some [false, true], none, .mv (.c .nilslice), []⟩,
  ⟨some [true, false], none, .mv (.c (.int .i64 (.ofNat 0))), []⟩]) a11_1
def a11_0 : ACode := a11_0b
def a11 : AFunc := { body := a11_0, res := [([false, true], none), ([true, false], none)] }
theorem c11 : a11.body = a11_0 ∧
  a11.res = [([false, true], none), ([true, false], none)] ∧
  Unf a11_0 a11_0b ∧
  Unf a11_1 a11_1b ∧
  Unf a11_2 a11_2b ∧
  Unf a11_3 a11_3b ∧
  Unf a11_4 a11_4b ∧
  Unf a11_5 a11_5b ∧
  Unf a11_6 a11_6b ∧
  Unf a11_7 a11_7b ∧
  Unf a11_8 a11_8b ∧
  Unf a11_9 a11_9b ∧
  Unf a11_10 a11_10b :=
  ⟨rfl, rfl, Unf.of rfl, Unf.of rfl, Unf.of rfl, Unf.of rfl, Unf.of rfl, Unf.of rfl, Unf.of rfl, Unf.of rfl, Unf.of rfl, Unf.of rfl, Unf.of rfl⟩
def a12_1b : ACode := .seq (.ops [
  ⟨some [true, true], none, .mv (.t []), []⟩,
  ⟨some [false, true], none, .eqs false .ptr (.t [true, true]) (.c .nilptr), []⟩,
  ⟨some [true, false], none, .mv (.t [false, true]), []⟩,
  ⟨some [false, false], some ([true, false], false), .mv (.t []), []⟩,
  ⟨some [true, true, true], some ([true, false], false), .nilCheck (.t [false, false]), []⟩,
  ⟨some [false, true, true], some ([true, false], false), .fieldAddr 4 (.t [true, true, true]), []⟩,
  ⟨some [true, false, true], some ([true, false], false), .load false 1 (.t [false, true, true]), []⟩,
  ⟨some [false, false, true], none, .pick (.t [true, false]) (.c (.bool true)) (.t [true, false, true]), []⟩,
  ⟨some [false], none, .mv (.t [false, false, true]), []⟩]) .ret
def a12_1 : ACode := a12_1b
def a12_0b : ACode := .seq (.ops [
  ⟨some [false], none, .mv (.c (.bool false)), []⟩]) a12_1
def a12_0 : ACode := a12_0b
def a12 : AFunc := { body := a12_0, res := [([false], none)] }
theorem c12 : a12.body = a12_0 ∧
  a12.res = [([false], none)] ∧
  Unf a12_0 a12_0b ∧
  Unf a12_1 a12_1b :=
  ⟨rfl, rfl, Unf.of rfl, Unf.of rfl⟩
def a13_18b : ACode := .seq (.ops [
  ⟨some [false], none, .mv (.c (.bool true)), []⟩]) .ret
def a13_18 : ACode := a13_18b
def a13_17b : ACode := .ops [
  ⟨some [true, true, false], none, .mv (.t [true, true]), []⟩,
  ⟨some [false, true, false], none, .arith .add (.t [true, true, false]) (.c (.int .i64 (.ofNat 1))), []⟩,
  ⟨some [true, true], none, .mv (.t [false, true, false]), []⟩]
def a13_17 : ACode := a13_17b
def a13_16b : ACode := .seq (.ops [
  ⟨some [false], none, .mv (.c (.bool false)), []⟩]) .ret
def a13_16 : ACode := a13_16b
def a13_15b : ACode := .cond (.t [false, true, false, false]) a13_16 .skip
def a13_15 : ACode := a13_15b
def a13_14b : ACode := .seq (.ops [
  ⟨some [true, false, false], none, .mv (.t []), []⟩,
  ⟨some [false, false, false], none, .mv (.t [true, true]), []⟩,
  ⟨some [true, true, true, true], none, .indexAddrS 5 (.t [true, false, false]) (.t [false, false, false]), []⟩,
  ⟨some [false, true, true, true], none, .fieldAddr 2 (.t [true, true, true, true]), []⟩,
  ⟨some [true, false, true, true], none, .load false 1 (.t [false, true, true, true]), []⟩,
  ⟨some [false, false, true, true], none, .len (.t [true, false, true, true]), []⟩,
  ⟨some [true, true, false, true], none, .arith .gtr (.t [false, false, true, true]) (.c (.int .i64 (.ofNat 200))), []⟩,
  ⟨some [false, true, false, true], none, .mv (.t [true, true, false, true]), []⟩,
  ⟨some [true, false, false, true], some ([false, true, false, true], false), .mv (.t []), []⟩,
  ⟨some [false, false, false, true], some ([false, true, false, true], false), .mv (.t [true, true]), []⟩,
  ⟨some [true, true, true, false], some ([false, true, false, true], false), .indexAddrS 5 (.t [true, false, false, true]) (.t [false, false, false, true]), []⟩,
  ⟨some [false, true, true, false], some ([false, true, false, true], false), .fieldAddr 4 (.t [true, true, true, false]), []⟩,
  ⟨some [true, false, true, false], some ([false, true, false, true], false), .load false 1 (.t [false, true, true, false]), []⟩,
  ⟨some [false, false, true, false], some ([false, true, false, true], false), .len (.t [true, false, true, false]), []⟩,
  ⟨some [true, true, false, false], some ([false, true, false, true], false), .arith .gtr (.t [false, false, true, false]) (.c (.int .i64 (.ofNat 200))), []⟩,
  ⟨some [false, true, false, false], none, .pick (.t [false, true, false, true]) (.c (.bool true)) (.t [true, true, false, false]), []⟩]) a13_15
def a13_14 : ACode := a13_14b
def a13_13b : ACode := .block 1 a13_14
def a13_13 : ACode := a13_13b
def a13_12b : ACode := .seq a13_13 a13_17
def a13_12 : ACode := a13_12b
def a13_11b : ACode := .cond (.t [false, false, true]) .skip (.exit 0)
def a13_11 : ACode := a13_11b
def a13_10b : ACode := .seq (.ops [
  ⟨some [true, true, true], none, .mv (.t [true, true]), []⟩,
  ⟨some [false, true, true], none, .mv (.t []), []⟩,
  ⟨some [true, false, true], none, .len (.t [false, true, true]), []⟩,
  ⟨some [false, false, true], none, .arith .lss (.t [true, true, true]) (.t [true, false, true]), []⟩]) a13_11
def a13_10 : ACode := a13_10b
def a13_9b : ACode := .seq a13_10 a13_12
def a13_9 : ACode := a13_9b
def a13_8b : ACode := .loop a13_9
def a13_8 : ACode := a13_8b
def a13_7b : ACode := .block 0 a13_8
def a13_7 : ACode := a13_7b
def a13_6b : ACode := .seq (.ops [
  ⟨some [true, true], none, .mv (.c (.int .i64 (.ofNat 0))), []⟩]) a13_7
def a13_6 : ACode := a13_6b
def a13_5b : ACode := .seq a13_6 a13_18
def a13_5 : ACode := a13_5b
def a13_4b : ACode := .seq (.ops [
  ⟨some [false], none, .mv (.c (.bool false)), []⟩]) .ret
def a13_4 : ACode := a13_4b
def a13_3b : ACode := .cond (.t [false, false]) a13_4 .skip
def a13_3 : ACode := a13_3b
def a13_2b : ACode := .seq (.ops [
  ⟨some [false, true], none, .mv (.t []), []⟩,
  ⟨some [true, false], none, .len (.t [false, true]), []⟩,
  ⟨some [false, false], none, .arith .gtr (.t [true, false]) (.c (.int .i64 (.ofNat 200))), []⟩]) a13_3
def a13_2 : ACode := a13_2b
def a13_1b : ACode := .seq a13_2 a13_5
def a13_1 : ACode := a13_1b
def a13_0b : ACode := .seq (.ops [
  ⟨some [false], none, .mv (.c (.bool false)), []⟩]) a13_1
def a13_0 : ACode := a13_0b
def a13 : AFunc := { body := a13_0, res := [([false], none)] }
theorem c13 : a13.body = a13_0 ∧
  a13.res = [([false], none)] ∧
  Unf a13_0 a13_0b ∧
  Unf a13_1 a13_1b ∧
  Unf a13_2 a13_2b ∧
  Unf a13_3 a13_3b ∧
  Unf a13_4 a13_4b ∧
  Unf a13_5 a13_5b ∧
  Unf a13_6 a13_6b ∧
  Unf a13_7 a13_7b ∧
  Unf a13_8 a13_8b ∧
  Unf a13_9 a13_9b ∧
  Unf a13_10 a13_10b ∧
  Unf a13_11 a13_11b ∧
  Unf a13_12 a13_12b ∧
  Unf a13_13 a13_13b ∧
  Unf a13_14 a13_14b ∧
  Unf a13_15 a13_15b ∧
  Unf a13_16 a13_16b ∧
  Unf a13_17 a13_17b ∧
  Unf a13_18 a13_18b :=
  ⟨rfl, rfl, Unf.of rfl, Unf.of rfl, Unf.of rfl, Unf.of rfl, Unf.of rfl, Unf.of rfl, Unf.of rfl, Unf.of rfl, Unf.of rfl, Unf.of rfl, Unf.of rfl, Unf.of rfl, Unf.of rfl, Unf.of rfl, Unf.of rfl, Unf.of rfl, Unf.of rfl, Unf.of rfl, Unf.of rfl⟩
def a14_4b : ACode := .seq (.ops [
  ⟨some [true, false, true, false], none, .mv (.t [false, false]), []⟩,
  ⟨some [false, false, true, false], none, .mv (.t [false, true, true]), []⟩,
  ⟨some [true, true, false, false], none, .mv (.t [true, true, true]), []⟩,
  ⟨some [false, true, false, false], none, .mv (.t [true, false, true]), []⟩,
  ⟨some [true, false, false, false], none, .eqs false .int (.t [true, true, false, false]) (.t [false, true, false, false]), []⟩,
  ⟨some [false, false, false, false], none, .mv (.t [true, false, false, false]), []⟩,
  ⟨some [true, true, true, true, true], some ([false, false, false, false], true), .mv (.t [false, false]), []⟩,
  ⟨some [false, true, true, true, true], some ([false, false, false, false], true), .eqs true .ptr (.t [true, true, true, true, true]) (.c .nilptr), []⟩,
  ⟨some [true, false, true, true, true], none, .pick (.t [false, false, false, false]) (.t [false, true, true, true, true]) (.c (.bool false)), []⟩,
  ⟨some [false], none, .mv (.t [true, false, true, false]), []⟩,
  ⟨some [true, true], none, .mv (.t [false, false, true, false]), []⟩,
  ⟨some [false, true], none, .mv (.t [true, false, true, true, true]), []⟩]) .ret
def a14_4 : ACode := a14_4b
def a14_3b : ACode := .seq (.ops [
  ⟨some [true, false, false, true], none, .mv (.t [true, false]), []⟩,
  ⟨some [false, false, false, true], none, .call 23 [.t [true, false, false, true]], []⟩,
  ⟨some [false, true, false, true], none, .mv (.t [false, false, false, true]), []⟩,
  ⟨some [true, true, true, false], none, .extract (.t [false, true, false, true]) 0, []⟩,
  ⟨some [false, true, true, false], none, .extract (.t [false, true, false, true]) 1, []⟩,
  ⟨some [false, true, true], none, .mv (.t [true, true, true, false]), []⟩,
  ⟨some [true, false, true], none, .mv (.t [false, true, true, false]), []⟩]) a14_4
def a14_3 : ACode := a14_3b
def a14_2b : ACode := .seq (.ops [
  ⟨some [false, true, true, true], none, .mv (.t [true, false]), []⟩,
  ⟨some [true, false, true, true], none, .call 6 [.t [false, true, true, true]], []⟩,
  ⟨some [true, true, true, true], none, .mv (.t [true, false, true, true]), []⟩,
  ⟨some [false, false, true, true], none, .extract (.t [true, true, true, true]) 0, []⟩,
  ⟨some [true, true, false, true], none, .extract (.t [true, true, true, true]) 1, []⟩,
  ⟨some [false, false], none, .mv (.t [false, false, true, true]), []⟩,
  ⟨some [true, true, true], none, .mv (.t [true, true, false, true]), []⟩]) a14_3
def a14_2 : ACode := a14_2b
def a14_1b : ACode := .seq (.ops [
  ⟨some [false, false, true], none, .mv (.t []), []⟩,
  ⟨some [true, true, false], none, .toInt .u64 (.t [false, false, true]), []⟩,
  ⟨some [false, true, false], none, .arith .rem (.t [true, true, false]) (.c (.int .u64 (.ofNat 65))), []⟩,
  ⟨some [true, false, false], none, .toInt .i64 (.t [false, true, false]), []⟩,
  ⟨some [false, false, false], none, .arith .add (.c (.int .i64 (.ofNat 64))) (.t [true, false, false]), []⟩,
  ⟨some [true, false], none, .mv (.t [false, false, false]), []⟩]) a14_2
def a14_1 : ACode := a14_1b
def a14_0b : ACode := .seq (.ops [
  ⟨some [false], none, .mv (.c .nilptr), []⟩,
  ⟨some [true, true], none, .mv (.c .nilptr), []⟩,
  ⟨some [false, true], none, .mv (.c (.bool false)), []⟩]) a14_1
def a14_0 : ACode := a14_0b
def a14 : AFunc := { body := a14_0, res := [([false], none), ([true, true], none), ([false, true], none)] }
theorem c14 : a14.body = a14_0 ∧
  a14.res = [([false], none), ([true, true], none), ([false, true], none)] ∧
  Unf a14_0 a14_0b ∧
  Unf a14_1 a14_1b ∧
  Unf a14_2 a14_2b ∧
  Unf a14_3 a14_3b ∧
  Unf a14_4 a14_4b :=
  ⟨rfl, rfl, Unf.of rfl, Unf.of rfl, Unf.of rfl, Unf.of rfl, Unf.of rfl⟩
def a15_23b : ACode := .seq (.ops [
  ⟨some [false, false, false, false, false, false], none, .mv (.t []), []⟩,
  ⟨some [true, true, true, true, true, true, true], none, .fieldAddr 1 (.t [true, false]), []⟩,
  ⟨some [false, true, true, true, true, true, true], none, .load false 1 (.t [true, true, true, true, true, true, true]), []⟩,
  ⟨some [true, false, true, true, true, true, true], none, .fieldAddr 3 (.t [true, false]), []⟩,
  ⟨some [false, false, true, true, true, true, true], none, .load false 1 (.t [true, false, true, true, true, true, true]), []⟩,
  ⟨some [false, true, false, true, true, true, true], none, .mv (.t [true]), []⟩,
  ⟨some [true, false, false, true, true, true, true], none, .fieldAddr 1 (.t [true, false]), []⟩,
  ⟨some [false, false, false, true, true, true, true], none, .load false 1 (.t [true, false, false, true, true, true, true]), []⟩,
  ⟨some [true, true, true, false, true, true, true], none, .fieldAddr 3 (.t [true, false]), []⟩,
  ⟨some [false, true, true, false, true, true, true], none, .load false 1 (.t [true, true, true, false, true, true, true]), []⟩,
  ⟨some [true, true, false, true, true, true, true], none, .call 10 [.t [false, false, false, false, false, false], .t [false, true, true, true, true, true, true], .t [false, false, true, true, true, true, true]], [(none, [false, true, true, false, true, true, true], .load false 1 (.t [true, true, true, false, true, true, true])), (none, [false, false, false, true, true, true, true], .load false 1 (.t [true, false, false, true, true, true, true]))]⟩,
  ⟨some [true, false, true, false, true, true, true], none, .call 30 [.t [false, true, false, true, true, true, true], .t [false, false, false, true, true, true, true], .t [false, true, true, false, true, true, true]], []⟩,
  ⟨some [false, false, true, false, true, true, true], none, .eqs false .int (.t [true, true, false, true, true, true, true]) (.t [true, false, true, false, true, true, true]), []⟩,
  ⟨some [true, true, false, false, true, true, true], none, .mv (.t [false, false, true, false, true, true, true]), []⟩,
  ⟨some [false, true, false, false, true, true, true], some ([true, true, false, false, true, true, true], true), .mv (.t []), []⟩,
  ⟨some [false, false, false, false, true, true, true], some ([true, true, false, false, true, true, true], true), .mv (.t [true]), []⟩,
  ⟨some [true, true, true, true, false, true, true], some ([true, true, false, false, true, true, true], true), .nilCheck (.t [false, false, false, false, true, true, true]), []⟩,
  ⟨some [false, true, true, true, false, true, true], some ([true, true, false, false, true, true, true], true), .fieldAddr 3 (.t [true, true, true, true, false, true, true]), []⟩,
  ⟨some [true, false, true, true, false, true, true], some ([true, true, false, false, true, true, true], true), .load false 1 (.t [false, true, true, true, false, true, true]), []⟩,
  ⟨some [true, false, false, false, true, true, true], some ([true, true, false, false, true, true, true], true), .call 12 [.t [false, true, false, false, true, true, true]], [(some ([true, true, false, false, true, true, true], true), [true, false, true, true, false, true, true], .load false 1 (.t [false, true, true, true, false, true, true]))]⟩,
  ⟨some [false, false, true, true, false, true, true], some ([true, true, false, false, true, true, true], true), .eqs false .bool (.t [true, false, false, false, true, true, true]) (.t [true, false, true, true, false, true, true]), []⟩,
  ⟨some [true, true, false, true, false, true, true], none, .pick (.t [true, true, false, false, true, true, true]) (.t [false, false, true, true, false, true, true]) (.c (.bool false)), []⟩,
  ⟨some [false, false], none, .mv (.t [true, true, false, true, false, true, true]), []⟩]) .ret
def a15_23 : ACode := a15_23b
def a15_22b : ACode := .seq (.ops [
  ⟨some [true, true, true, false, false, false], none, .mv (.t []), []⟩,
  ⟨some [true, false, true, false, false, false], none, .mv (.t [true]), []⟩,
  ⟨some [false, false, true, false, false, false], none, .nilCheck (.t [true, false, true, false, false, false]), []⟩,
  ⟨some [true, true, false, false, false, false], none, .fieldAddr 3 (.t [false, false, true, false, false, false]), []⟩,
  ⟨some [false, true, false, false, false, false], none, .load false 1 (.t [true, true, false, false, false, false]), []⟩,
  ⟨some [false, true, true, false, false, false], none, .call 12 [.t [true, true, true, false, false, false]], [(none, [false, true, false, false, false, false], .load false 1 (.t [true, true, false, false, false, false]))]⟩,
  ⟨some [true, false, false, false, false, false], none, .eqs false .bool (.t [false, true, true, false, false, false]) (.t [false, true, false, false, false, false]), []⟩,
  ⟨some [false, false], none, .mv (.t [true, false, false, false, false, false]), []⟩]) .ret
def a15_22 : ACode := a15_22b
def a15_21b : ACode := .seq (.ops [
  ⟨some [true, true, false, true, false, false], none, .mv (.t [true]), []⟩,
  ⟨some [false, true, false, true, false, false], none, .fieldAddr 4 (.t [true, false]), []⟩,
  ⟨some [true, false, false, true, false, false], none, .load false 1 (.t [false, true, false, true, false, false]), []⟩,
  ⟨some [false, false, false, true, false, false], none, .call 29 [.t [true, true, false, true, false, false], .t [true, false, false, true, false, false]], []⟩]) a15_22
def a15_21 : ACode := a15_21b
def a15_20b : ACode := .seq (.ops [
  ⟨some [true, true, true, true, false, false], none, .mv (.t []), []⟩,
  ⟨some [false, true, true, true, false, false], none, .fieldAddr 4 (.t [true, false]), []⟩,
  ⟨some [true, false, true, true, false, false], none, .load false 1 (.t [false, true, true, true, false, false]), []⟩,
  ⟨some [false, false, true, true, false, false], none, .call 9 [.t [true, true, true, true, false, false], .t [true, false, true, true, false, false]], []⟩]) a15_21
def a15_20 : ACode := a15_20b
def a15_19b : ACode := .cond (.t [true, false, false, false, true, false]) a15_20 .skip
def a15_19 : ACode := a15_19b
def a15_18b : ACode := .seq (.ops [
  ⟨some [false, false, false, false, true, false], none, .eqs false .int (.t [true, false, false]) (.c (.int .u8 (.ofNat 4))), []⟩,
  ⟨some [true, false, false, false, true, false], none, .mv (.t [false, false, false, false, true, false]), []⟩]) a15_19
def a15_18 : ACode := a15_18b
def a15_17b : ACode := .seq (.ops [
  ⟨some [true, true, false, false, false, true], none, .mv (.t []), []⟩,
  ⟨some [false, true, false, false, false, true], none, .fieldAddr 3 (.t [true, false]), []⟩,
  ⟨some [true, false, false, false, false, true], none, .load false 1 (.t [false, true, false, false, false, true]), []⟩,
  ⟨some [true, true, true, true, true, false], none, .mv (.t [true]), []⟩,
  ⟨some [false, true, true, true, true, false], none, .fieldAddr 3 (.t [true, false]), []⟩,
  ⟨some [true, false, true, true, true, false], none, .load false 1 (.t [false, true, true, true, true, false]), []⟩,
  ⟨some [false, false, false, false, false, true], none, .call 27 [.t [true, true, false, false, false, true], .t [true, false, false, false, false, true]], [(none, [true, false, true, true, true, false], .load false 1 (.t [false, true, true, true, true, false]))]⟩,
  ⟨some [false, false, true, true, true, false], none, .call 28 [.t [true, true, true, true, true, false], .t [true, false, true, true, true, false]], []⟩,
  ⟨some [true, true, false, true, true, false], none, .eqs false .int (.t [false, false, false, false, false, true]) (.t [false, false, true, true, true, false]), []⟩,
  ⟨some [false, true, false, true, true, false], none, .mv (.t [true, true, false, true, true, false]), []⟩,
  ⟨some [true, false, false, true, true, false], some ([false, true, false, true, true, false], true), .mv (.t []), []⟩,
  ⟨some [true, true, true, false, true, false], some ([false, true, false, true, true, false], true), .mv (.t [true]), []⟩,
  ⟨some [false, true, true, false, true, false], some ([false, true, false, true, true, false], true), .nilCheck (.t [true, true, true, false, true, false]), []⟩,
  ⟨some [true, false, true, false, true, false], some ([false, true, false, true, true, false], true), .fieldAddr 3 (.t [false, true, true, false, true, false]), []⟩,
  ⟨some [false, false, true, false, true, false], some ([false, true, false, true, true, false], true), .load false 1 (.t [true, false, true, false, true, false]), []⟩,
  ⟨some [false, false, false, true, true, false], some ([false, true, false, true, true, false], true), .call 12 [.t [true, false, false, true, true, false]], [(some ([false, true, false, true, true, false], true), [false, false, true, false, true, false], .load false 1 (.t [true, false, true, false, true, false]))]⟩,
  ⟨some [true, true, false, false, true, false], some ([false, true, false, true, true, false], true), .eqs false .bool (.t [false, false, false, true, true, false]) (.t [false, false, true, false, true, false]), []⟩,
  ⟨some [false, true, false, false, true, false], none, .pick (.t [false, true, false, true, true, false]) (.t [true, true, false, false, true, false]) (.c (.bool false)), []⟩,
  ⟨some [false, false], none, .mv (.t [false, true, false, false, true, false]), []⟩]) .ret
def a15_17 : ACode := a15_17b
def a15_16b : ACode := .cond (.t [true, false, true, false, false, true]) a15_17 a15_18
def a15_16 : ACode := a15_16b
def a15_15b : ACode := .seq (.ops [
  ⟨some [false, false, true, false, false, true], none, .eqs false .int (.t [true, false, false]) (.c (.int .u8 (.ofNat 3))), []⟩,
  ⟨some [true, false, true, false, false, true], none, .mv (.t [false, false, true, false, false, true]), []⟩]) a15_16
def a15_15 : ACode := a15_15b
def a15_14b : ACode := .seq (.ops [
  ⟨some [true, true, false, false, true, true], none, .mv (.t []), []⟩,
  ⟨some [true, false, false, false, true, true], none, .mv (.t [true]), []⟩,
  ⟨some [false, true, false, false, true, true], none, .call 8 [.t [true, true, false, false, true, true]], []⟩,
  ⟨some [false, false, false, false, true, true], none, .call 26 [.t [true, false, false, false, true, true]], []⟩,
  ⟨some [true, true, true, true, false, true], none, .eqs false .int (.t [false, true, false, false, true, true]) (.t [false, false, false, false, true, true]), []⟩,
  ⟨some [false, true, true, true, false, true], none, .mv (.t [true, true, true, true, false, true]), []⟩,
  ⟨some [true, false, true, true, false, true], some ([false, true, true, true, false, true], true), .mv (.t []), []⟩,
  ⟨some [true, true, false, true, false, true], some ([false, true, true, true, false, true], true), .mv (.t [true]), []⟩,
  ⟨some [false, true, false, true, false, true], some ([false, true, true, true, false, true], true), .nilCheck (.t [true, true, false, true, false, true]), []⟩,
  ⟨some [true, false, false, true, false, true], some ([false, true, true, true, false, true], true), .fieldAddr 3 (.t [false, true, false, true, false, true]), []⟩,
  ⟨some [false, false, false, true, false, true], some ([false, true, true, true, false, true], true), .load false 1 (.t [true, false, false, true, false, true]), []⟩,
  ⟨some [false, false, true, true, false, true], some ([false, true, true, true, false, true], true), .call 12 [.t [true, false, true, true, false, true]], [(some ([false, true, true, true, false, true], true), [false, false, false, true, false, true], .load false 1 (.t [true, false, false, true, false, true]))]⟩,
  ⟨some [true, true, true, false, false, true], some ([false, true, true, true, false, true], true), .eqs false .bool (.t [false, false, true, true, false, true]) (.t [false, false, false, true, false, true]), []⟩,
  ⟨some [false, true, true, false, false, true], none, .pick (.t [false, true, true, true, false, true]) (.t [true, true, true, false, false, true]) (.c (.bool false)), []⟩,
  ⟨some [false, false], none, .mv (.t [false, true, true, false, false, true]), []⟩]) .ret
def a15_14 : ACode := a15_14b
def a15_13b : ACode := .cond (.t [true, false, true, false, true, true]) a15_14 a15_15
def a15_13 : ACode := a15_13b
def a15_12b : ACode := .seq (.ops [
  ⟨some [false, false, true, false, true, true], none, .eqs false .int (.t [true, false, false]) (.c (.int .u8 (.ofNat 2))), []⟩,
  ⟨some [true, false, true, false, true, true], none, .mv (.t [false, false, true, false, true, true]), []⟩]) a15_13
def a15_12 : ACode := a15_12b
def a15_11b : ACode := .seq (.ops [
  ⟨some [false, false, true, true, false], none, .mv (.t []), []⟩,
  ⟨some [true, true, false, true, false], none, .fieldAddr 1 (.t [true, false]), []⟩,
  ⟨some [false, true, false, true, false], none, .load false 1 (.t [true, true, false, true, false]), []⟩,
  ⟨some [true, false, false, true, false], none, .fieldAddr 2 (.t [true, false]), []⟩,
  ⟨some [false, false, false, true, false], none, .load false 1 (.t [true, false, false, true, false]), []⟩,
  ⟨some [false, true, true, false, false], none, .mv (.t [true]), []⟩,
  ⟨some [true, false, true, false, false], none, .fieldAddr 1 (.t [true, false]), []⟩,
  ⟨some [false, false, true, false, false], none, .load false 1 (.t [true, false, true, false, false]), []⟩,
  ⟨some [true, true, false, false, false], none, .fieldAddr 2 (.t [true, false]), []⟩,
  ⟨some [false, true, false, false, false], none, .load false 1 (.t [true, true, false, false, false]), []⟩,
  ⟨some [true, false, false, false, false], none, .bytesToStr (.t [false, true, false, false, false]), []⟩,
  ⟨some [true, true, true, false, false], none, .call 7 [.t [false, false, true, true, false], .t [false, true, false, true, false], .t [false, false, false, true, false]], [(none, [true, false, false, false, false], .bytesToStr (.t [false, true, false, false, false])), (none, [false, true, false, false, false], .load false 1 (.t [true, true, false, false, false])), (none, [false, false, true, false, false], .load false 1 (.t [true, false, true, false, false]))]⟩,
  ⟨some [false, false, false, false, false], none, .call 25 [.t [false, true, true, false, false], .t [false, false, true, false, false], .t [true, false, false, false, false]], []⟩,
  ⟨some [true, true, true, true, true, true], none, .eqs false .int (.t [true, true, true, false, false]) (.t [false, false, false, false, false]), []⟩,
  ⟨some [false, true, true, true, true, true], none, .mv (.t [true, true, true, true, true, true]), []⟩,
  ⟨some [true, false, true, true, true, true], some ([false, true, true, true, true, true], true), .mv (.t []), []⟩,
  ⟨some [true, true, false, true, true, true], some ([false, true, true, true, true, true], true), .mv (.t [true]), []⟩,
  ⟨some [false, true, false, true, true, true], some ([false, true, true, true, true, true], true), .nilCheck (.t [true, true, false, true, true, true]), []⟩,
  ⟨some [true, false, false, true, true, true], some ([false, true, true, true, true, true], true), .fieldAddr 3 (.t [false, true, false, true, true, true]), []⟩,
  ⟨some [false, false, false, true, true, true], some ([false, true, true, true, true, true], true), .load false 1 (.t [true, false, false, true, true, true]), []⟩,
  ⟨some [false, false, true, true, true, true], some ([false, true, true, true, true, true], true), .call 12 [.t [true, false, true, true, true, true]], [(some ([false, true, true, true, true, true], true), [false, false, false, true, true, true], .load false 1 (.t [true, false, false, true, true, true]))]⟩,
  ⟨some [true, true, true, false, true, true], some ([false, true, true, true, true, true], true), .eqs false .bool (.t [false, false, true, true, true, true]) (.t [false, false, false, true, true, true]), []⟩,
  ⟨some [false, true, true, false, true, true], none, .pick (.t [false, true, true, true, true, true]) (.t [true, true, true, false, true, true]) (.c (.bool false)), []⟩,
  ⟨some [false, false], none, .mv (.t [false, true, true, false, true, true]), []⟩]) .ret
def a15_11 : ACode := a15_11b
def a15_10b : ACode := .cond (.t [false, true, true, true, false]) a15_11 a15_12
def a15_10 : ACode := a15_10b
def a15_9b : ACode := .seq (.ops [
  ⟨some [true, false, true, true, false], none, .eqs false .int (.t [true, false, false]) (.c (.int .u8 (.ofNat 1))), []⟩,
  ⟨some [false, true, true, true, false], none, .mv (.t [true, false, true, true, false]), []⟩]) a15_10
def a15_9 : ACode := a15_9b
def a15_8b : ACode := .seq (.ops [
  ⟨some [false, false, false, false], none, .mv (.t [false, true, true]), []⟩,
  ⟨some [true, true, true, true, true], none, .mv (.t [false, false, true]), []⟩,
  ⟨some [false, true, true, true, true], none, .eqs false .int (.t [false, false, false, false]) (.t [true, true, true, true, true]), []⟩,
  ⟨some [true, false, true, true, true], none, .mv (.t [false, true, true, true, true]), []⟩,
  ⟨some [false, false, true, true, true], some ([true, false, true, true, true], true), .mv (.t [true, true, true]), []⟩,
  ⟨some [true, true, false, true, true], some ([true, false, true, true, true], true), .bytesToStr (.t [false, false, true, true, true]), []⟩,
  ⟨some [false, true, false, true, true], some ([true, false, true, true, true], true), .mv (.t [true, false, true]), []⟩,
  ⟨some [true, false, false, true, true], some ([true, false, true, true, true], true), .eqs false .str (.t [true, true, false, true, true]) (.t [false, true, false, true, true]), []⟩,
  ⟨some [false, false, false, true, true], none, .pick (.t [true, false, true, true, true]) (.t [true, false, false, true, true]) (.c (.bool false)), []⟩,
  ⟨some [true, true, true, false, true], none, .mv (.t [false, false, false, true, true]), []⟩,
  ⟨some [false, true, true, false, true], some ([true, true, true, false, true], true), .mv (.t []), []⟩,
  ⟨some [false, false, true, false, true], some ([true, true, true, false, true], true), .mv (.t [true]), []⟩,
  ⟨some [true, true, false, false, true], some ([true, true, true, false, true], true), .nilCheck (.t [false, false, true, false, true]), []⟩,
  ⟨some [false, true, false, false, true], some ([true, true, true, false, true], true), .fieldAddr 3 (.t [true, true, false, false, true]), []⟩,
  ⟨some [true, false, false, false, true], some ([true, true, true, false, true], true), .load false 1 (.t [false, true, false, false, true]), []⟩,
  ⟨some [true, false, true, false, true], some ([true, true, true, false, true], true), .call 12 [.t [false, true, true, false, true]], [(some ([true, true, true, false, true], true), [true, false, false, false, true], .load false 1 (.t [false, true, false, false, true]))]⟩,
  ⟨some [false, false, false, false, true], some ([true, true, true, false, true], true), .eqs false .bool (.t [true, false, true, false, true]) (.t [true, false, false, false, true]), []⟩,
  ⟨some [true, true, true, true, false], none, .pick (.t [true, true, true, false, true]) (.t [false, false, false, false, true]) (.c (.bool false)), []⟩,
  ⟨some [false, false], none, .mv (.t [true, true, true, true, false]), []⟩]) .ret
def a15_8 : ACode := a15_8b
def a15_7b : ACode := .seq (.ops [
  ⟨some [false, true, true, false], none, .mv (.t [true]), []⟩,
  ⟨some [true, false, true, false], none, .fieldAddr 1 (.t [true, false]), []⟩,
  ⟨some [false, false, true, false], none, .load false 1 (.t [true, false, true, false]), []⟩,
  ⟨some [true, true, false, false], none, .call 24 [.t [false, true, true, false], .t [false, false, true, false]], []⟩,
  ⟨some [true, true, true, false], none, .mv (.t [true, true, false, false]), []⟩,
  ⟨some [false, true, false, false], none, .extract (.t [true, true, true, false]) 0, []⟩,
  ⟨some [true, false, false, false], none, .extract (.t [true, true, true, false]) 1, []⟩,
  ⟨some [true, false, true], none, .mv (.t [false, true, false, false]), []⟩,
  ⟨some [false, false, true], none, .mv (.t [true, false, false, false]), []⟩]) a15_8
def a15_7 : ACode := a15_7b
def a15_6b : ACode := .seq (.ops [
  ⟨some [true, false, true, true], none, .mv (.t []), []⟩,
  ⟨some [false, false, true, true], none, .fieldAddr 1 (.t [true, false]), []⟩,
  ⟨some [true, true, false, true], none, .load false 1 (.t [false, false, true, true]), []⟩,
  ⟨some [false, true, false, true], none, .call 11 [.t [true, false, true, true], .t [true, true, false, true]], []⟩,
  ⟨some [false, true, true, true], none, .mv (.t [false, true, false, true]), []⟩,
  ⟨some [true, false, false, true], none, .extract (.t [false, true, true, true]) 0, []⟩,
  ⟨some [false, false, false, true], none, .extract (.t [false, true, true, true]) 1, []⟩,
  ⟨some [true, true, true], none, .mv (.t [true, false, false, true]), []⟩,
  ⟨some [false, true, true], none, .mv (.t [false, false, false, true]), []⟩]) a15_7
def a15_6 : ACode := a15_6b
def a15_5b : ACode := .cond (.t [false, false, false]) a15_6 a15_9
def a15_5 : ACode := a15_5b
def a15_4b : ACode := .seq (.ops [
  ⟨some [true, true, true, true], none, .eqs false .int (.t [true, false, false]) (.c (.int .u8 (.ofNat 0))), []⟩,
  ⟨some [false, false, false], none, .mv (.t [true, true, true, true]), []⟩]) a15_5
def a15_4 : ACode := a15_4b
def a15_3b : ACode := .block 0 a15_4
def a15_3 : ACode := a15_3b
def a15_2b : ACode := .seq (.ops [
  ⟨some [true, true, false], none, .fieldAddr 0 (.t [true, false]), []⟩,
  ⟨some [false, true, false], none, .load false 1 (.t [true, true, false]), []⟩,
  ⟨some [true, false, false], none, .arith .rem (.t [false, true, false]) (.c (.int .u8 (.ofNat 6))), []⟩]) a15_3
def a15_2 : ACode := a15_2b
def a15_1b : ACode := .seq a15_2 a15_23
def a15_1 : ACode := a15_1b
def a15_0b : ACode := .seq (.ops [
  ⟨some [true, false], none, .box (.t [false]), []⟩,
  ⟨some [false, false], none, .mv (.c (.bool false)), []⟩]) a15_1
def a15_0 : ACode := a15_0b
def a15 : AFunc := { body := a15_0, res := [([false, false], none)] }
theorem c15 : a15.body = a15_0 ∧
  a15.res = [([false, false], none)] ∧
  Unf a15_0 a15_0b ∧
  Unf a15_1 a15_1b ∧
  Unf a15_2 a15_2b ∧
  Unf a15_3 a15_3b ∧
  Unf a15_4 a15_4b ∧
  Unf a15_5 a15_5b ∧
  Unf a15_6 a15_6b ∧
  Unf a15_7 a15_7b ∧
  Unf a15_8 a15_8b ∧
  Unf a15_9 a15_9b ∧
  Unf a15_10 a15_10b ∧
  Unf a15_11 a15_11b ∧
  Unf a15_12 a15_12b ∧
  Unf a15_13 a15_13b ∧
  Unf a15_14 a15_14b ∧
  Unf a15_15 a15_15b ∧
  Unf a15_16 a15_16b ∧
  Unf a15_17 a15_17b ∧
  Unf a15_18 a15_18b ∧
  Unf a15_19 a15_19b ∧
  Unf a15_20 a15_20b ∧
  Unf a15_21 a15_21b ∧
  Unf a15_22 a15_22b ∧
  Unf a15_23 a15_23b :=
  ⟨rfl, rfl, Unf.of rfl, Unf.of rfl, Unf.of rfl, Unf.of rfl, Unf.of rfl, Unf.of rfl, Unf.of rfl, Unf.of rfl, Unf.of rfl, Unf.of rfl, Unf.of rfl, Unf.of rfl, Unf.of rfl, Unf.of rfl, Unf.of rfl, Unf.of rfl, Unf.of rfl, Unf.of rfl, Unf.of rfl, Unf.of rfl, Unf.of rfl, Unf.of rfl, Unf.of rfl, Unf.of rfl⟩
def a16_1b : ACode := .seq (.ops [
  ⟨some [true, true, true], none, .mv (.t []), []⟩,
  ⟨some [false, true, true], none, .mv (.t [true]), []⟩,
  ⟨some [true, false, true], none, .arith .geq (.t [true, true, true]) (.t [false, true, true]), []⟩,
  ⟨some [false, false, true], none, .mv (.t [true, false, true]), []⟩,
  ⟨some [true, true, false], some ([false, false, true], true), .mv (.t []), []⟩,
  ⟨some [false, true, false], some ([false, false, true], true), .mv (.t [false]), []⟩,
  ⟨some [true, false, false], some ([false, false, true], true), .arith .leq (.t [true, true, false]) (.t [false, true, false]), []⟩,
  ⟨some [false, false, false], none, .pick (.t [false, false, true]) (.t [true, false, false]) (.c (.bool false)), []⟩,
  ⟨some [false, false], none, .mv (.t [false, false, false]), []⟩]) .ret
def a16_1 : ACode := a16_1b
def a16_0b : ACode := .seq (.ops [
  ⟨some [false, false], none, .mv (.c (.bool false)), []⟩]) a16_1
def a16_0 : ACode := a16_0b
def a16 : AFunc := { body := a16_0, res := [([false, false], none)] }
theorem c16 : a16.body = a16_0 ∧
  a16.res = [([false, false], none)] ∧
  Unf a16_0 a16_0b ∧
  Unf a16_1 a16_1b :=
  ⟨rfl, rfl, Unf.of rfl, Unf.of rfl⟩
def a17_9b : ACode := .seq (.ops [
  ⟨some [false], none, .mv (.c (.int .i64 (.ofNat 0))), []⟩]) .ret
def a17_9 : ACode := a17_9b
def a17_8b : ACode := .seq (.ops [
  ⟨some [false], none, .mv (.c (.int .i64 (.ofNat 90))), []⟩]) .ret
def a17_8 : ACode := a17_8b
def a17_7b : ACode := .cond (.t [false, false]) a17_8 .skip
def a17_7 : ACode := a17_7b
def a17_6b : ACode := .seq (.ops [
  ⟨some [true, true, true], none, .mv (.t []), []⟩,
  ⟨some [false, true, true], none, .nilCheck (.t [true, true, true]), []⟩,
  ⟨some [true, false, true], none, .fieldAddr 4 (.t [false, true, true]), []⟩,
  ⟨some [false, false, true], none, .load false 1 (.t [true, false, true]), []⟩,
  ⟨some [false, false], none, .mv (.t [false, false, true]), []⟩]) a17_7
def a17_6 : ACode := a17_6b
def a17_5b : ACode := .seq (.ops [
  ⟨some [false], none, .mv (.c (.int .i64 (.ofNat 3))), []⟩]) .ret
def a17_5 : ACode := a17_5b
def a17_4b : ACode := .cond (.t [true, true]) a17_5 a17_6
def a17_4 : ACode := a17_4b
def a17_3b : ACode := .seq (.ops [
  ⟨some [false, true], none, .mv (.t []), []⟩,
  ⟨some [true, false], none, .eqs false .ptr (.t [false, true]) (.c .nilptr), []⟩,
  ⟨some [true, true], none, .mv (.t [true, false]), []⟩]) a17_4
def a17_3 : ACode := a17_3b
def a17_2b : ACode := .block 0 a17_3
def a17_2 : ACode := a17_2b
def a17_1b : ACode := .seq a17_2 a17_9
def a17_1 : ACode := a17_1b
def a17_0b : ACode := .seq (.ops [
  ⟨some [false], none, .mv (.c (.int .i64 (.ofNat 0))), []⟩]) a17_1
def a17_0 : ACode := a17_0b
def a17 : AFunc := { body := a17_0, res := [([false], none)] }
theorem c17 : a17.body = a17_0 ∧
  a17.res = [([false], none)] ∧
  Unf a17_0 a17_0b ∧
  Unf a17_1 a17_1b ∧
  Unf a17_2 a17_2b ∧
  Unf a17_3 a17_3b ∧
  Unf a17_4 a17_4b ∧
  Unf a17_5 a17_5b ∧
  Unf a17_6 a17_6b ∧
  Unf a17_7 a17_7b ∧
  Unf a17_8 a17_8b ∧
  Unf a17_9 a17_9b :=
  ⟨rfl, rfl, Unf.of rfl, Unf.of rfl, Unf.of rfl, Unf.of rfl, Unf.of rfl, Unf.of rfl, Unf.of rfl, Unf.of rfl, Unf.of rfl, Unf.of rfl⟩
def a18_1b : ACode := .seq (.ops [
  ⟨some [true, false], none, .mv (.t [true]), []⟩,
  ⟨some [false, false], none, .mv (.t []), []⟩,
  ⟨some [true, true, true], none, .nilCheck (.t [false, false]), []⟩,
  ⟨some [false, true, true], none, .fieldAddr 1 (.t [true, true, true]), []⟩,
  ⟨some [true, false, true], none, .load false 1 (.t [false, true, true]), []⟩,
  ⟨some [false, false, true], none, .len (.t [true, false, true]), []⟩,
  ⟨some [true, true, false], none, .arith .sub (.t [false, false, true]) (.c (.int .i64 (.ofNat 1))), []⟩,
  ⟨some [false, true, false], none, .call 16 [.t [true, false], .c (.int .i64 (.ofNat 0)), .t [true, true, false]], []⟩,
  ⟨some [false, true], none, .mv (.t [false, true, false]), []⟩]) .ret
def a18_1 : ACode := a18_1b
def a18_0b : ACode := .seq (.ops [
  ⟨some [false, true], none, .mv (.c (.bool false)), []⟩]) a18_1
def a18_0 : ACode := a18_0b
def a18 : AFunc := { body := a18_0, res := [([false, true], none)] }
theorem c18 : a18.body = a18_0 ∧
  a18.res = [([false, true], none)] ∧
  Unf a18_0 a18_0b ∧
  Unf a18_1 a18_1b :=
  ⟨rfl, rfl, Unf.of rfl, Unf.of rfl⟩
def a19_10b : ACode := .seq (.ops [
  ⟨some [false], none, .mv (.c (.int .i64 (.ofNat 0))), []⟩]) .ret
def a19_10 : ACode := a19_10b
def a19_9b : ACode := .ops [
  ⟨some [false, true, true, true], none, .mv (.t []), []⟩,
  ⟨some [true, false, true, true], none, .nilCheck (.t [false, true, true, true]), []⟩,
  ⟨some [false, false, true, true], none, .fieldAddr 3 (.t [true, false, true, true]), []⟩,
  ⟨some [true, true, false, true], none, .load false 1 (.t [false, false, true, true]), []⟩,
  ⟨some [false, true, false, true], none, .arith .sub (.t [true, true, false, true]) (.c (.int .i64 (.ofNat 1))), []⟩,
  ⟨some [true, false, false, true], none, .nilCheck (.t [false, true, true, true]), []⟩,
  ⟨some [false, false, false, true], none, .fieldAddr 3 (.t [true, false, false, true]), []⟩,
  ⟨none, none, .store 1 (.t [false, false, false, true]) (.t [false, true, false, true]), []⟩]
def a19_9 : ACode := a19_9b
def a19_8b : ACode := .cond (.t [true, true, true, true]) a19_9 .skip
def a19_8 : ACode := a19_8b
def a19_7b : ACode := .seq (.ops [
  ⟨some [true, true, false], none, .mv (.t []), []⟩,
  ⟨some [false, true, false], none, .nilCheck (.t [true, true, false]), []⟩,
  ⟨some [true, false, false], none, .fieldAddr 3 (.t [false, true, false]), []⟩,
  ⟨some [false, false, false], none, .load false 1 (.t [true, false, false]), []⟩,
  ⟨some [true, true, true, true], none, .arith .gtr (.t [false, false, false]) (.c (.int .i64 (.ofNat 0))), []⟩]) a19_8
def a19_7 : ACode := a19_7b
def a19_6b : ACode := .seq a19_7 a19_10
def a19_6 : ACode := a19_6b
def a19_5b : ACode := .seq (.ops [
  ⟨some [false], none, .mv (.c (.int .i64 (.ofNat 90))), []⟩]) .ret
def a19_5 : ACode := a19_5b
def a19_4b : ACode := .seq (.ops [
  ⟨some [false, true, true], none, .mv (.t []), []⟩,
  ⟨some [true, false, true], none, .nilCheck (.t [false, true, true]), []⟩,
  ⟨some [false, false, true], none, .fieldAddr 4 (.t [true, false, true]), []⟩,
  ⟨none, none, .store 1 (.t [false, false, true]) (.c (.bool true)), []⟩]) a19_5
def a19_4 : ACode := a19_4b
def a19_3b : ACode := .cond (.t [true, true, true]) a19_4 .skip
def a19_3 : ACode := a19_3b
def a19_2b : ACode := .seq (.ops [
  ⟨some [true, true], none, .mv (.t []), []⟩,
  ⟨some [false, true], none, .nilCheck (.t [true, true]), []⟩,
  ⟨some [true, false], none, .fieldAddr 3 (.t [false, true]), []⟩,
  ⟨some [false, false], none, .load false 1 (.t [true, false]), []⟩,
  ⟨some [true, true, true], none, .eqs false .int (.t [false, false]) (.c (.int .i64 (.ofNat 0))), []⟩]) a19_3
def a19_2 : ACode := a19_2b
def a19_1b : ACode := .seq a19_2 a19_6
def a19_1 : ACode := a19_1b
def a19_0b : ACode := .seq (.ops [
  ⟨some [false], none, .mv (.c (.int .i64 (.ofNat 0))), []⟩]) a19_1
def a19_0 : ACode := a19_0b
def a19 : AFunc := { body := a19_0, res := [([false], none)] }
theorem c19 : a19.body = a19_0 ∧
  a19.res = [([false], none)] ∧
  Unf a19_0 a19_0b ∧
  Unf a19_1 a19_1b ∧
  Unf a19_2 a19_2b ∧
  Unf a19_3 a19_3b ∧
  Unf a19_4 a19_4b ∧
  Unf a19_5 a19_5b ∧
  Unf a19_6 a19_6b ∧
  Unf a19_7 a19_7b ∧
  Unf a19_8 a19_8b ∧
  Unf a19_9 a19_9b ∧
  Unf a19_10 a19_10b :=
  ⟨rfl, rfl, Unf.of rfl, Unf.of rfl, Unf.of rfl, Unf.of rfl, Unf.of rfl, Unf.of rfl, Unf.of rfl, Unf.of rfl, Unf.of rfl, Unf.of rfl, Unf.of rfl⟩
def a20_5b : ACode := .seq (.ops [
  ⟨some [true, false], none, .buildSlice 64 0 [(64, .int .u8 (.ofNat 0))] [], []⟩,
  ⟨some [false, false], none, .mv (.t []), []⟩,
  ⟨some [true, true, true], none, .append 64 64 (.t [true, false]) (.t [false, false]), []⟩,
  ⟨some [false], none, .mv (.t [true, true, true]), []⟩]) .ret
def a20_5 : ACode := a20_5b
def a20_4b : ACode := .seq (.ops [
  ⟨some [false], none, .mv (.c .nilslice), []⟩]) .ret
def a20_4 : ACode := a20_4b
def a20_3b : ACode := .cond (.t [false, true]) a20_4 .skip
def a20_3 : ACode := a20_3b
def a20_2b : ACode := .seq (.ops [
  ⟨some [true, true], none, .mv (.t []), []⟩,
  ⟨some [false, true], none, .eqs false .slice (.t [true, true]) (.c .nilslice), []⟩]) a20_3
def a20_2 : ACode := a20_2b
def a20_1b : ACode := .seq a20_2 a20_5
def a20_1 : ACode := a20_1b
def a20_0b : ACode := .seq (.ops [
  ⟨some [false], none, .mv (.c .nilslice), []⟩]) a20_1
def a20_0 : ACode := a20_0b
def a20 : AFunc := { body := a20_0, res := [([false], none)] }
theorem c20 : a20.body = a20_0 ∧
  a20.res = [([false], none)] ∧
  Unf a20_0 a20_0b ∧
  Unf a20_1 a20_1b ∧
  Unf a20_2 a20_2b ∧
  Unf a20_3 a20_3b ∧
  Unf a20_4 a20_4b ∧
  Unf a20_5 a20_5b :=
  ⟨rfl, rfl, Unf.of rfl, Unf.of rfl, Unf.of rfl, Unf.of rfl, Unf.of rfl, Unf.of rfl⟩
def a21_0b : ACode := .ops [
  ⟨some [false, true], none, .mv (.t []), []⟩,
  ⟨some [true, false], none, .nilCheck (.t [false, true]), []⟩,
  ⟨some [false, false], none, .mv (.t [true]), []⟩,
  ⟨some [true, true, true], none, .sliceArr false 64 1 (.t [true, false]) (some (.t [false, false])) none none, []⟩,
  ⟨none, none, .clear 1 [(1, .int .u8 (.ofNat 0))] (.t [true, true, true]), []⟩]
def a21_0 : ACode := a21_0b
def a21 : AFunc := { body := a21_0, res := [] }
theorem c21 : a21.body = a21_0 ∧
  a21.res = [] ∧
  Unf a21_0 a21_0b :=
  ⟨rfl, rfl, Unf.of rfl⟩
def a22_5b : ACode := .seq (.ops [
  ⟨some [true, false], none, .buildSlice 1 0 [(1, .int .u8 (.ofNat 0))] [], []⟩,
  ⟨some [false, false], none, .mv (.t []), []⟩,
  ⟨some [true, true, true], none, .append 1 1 (.t [true, false]) (.t [false, false]), []⟩,
  ⟨some [false], none, .mv (.t [true, true, true]), []⟩]) .ret
def a22_5 : ACode := a22_5b
def a22_4b : ACode := .seq (.ops [
  ⟨some [false], none, .mv (.c .nilslice), []⟩]) .ret
def a22_4 : ACode := a22_4b
def a22_3b : ACode := .cond (.t [false, true]) a22_4 .skip
def a22_3 : ACode := a22_3b
def a22_2b : ACode := .seq (.ops [
  ⟨some [true, true], none, .mv (.t []), []⟩,
  ⟨some [false, true], none, .eqs false .slice (.t [true, true]) (.c .nilslice), []⟩]) a22_3
def a22_2 : ACode := a22_2b
def a22_1b : ACode := .seq a22_2 a22_5
def a22_1 : ACode := a22_1b
def a22_0b : ACode := .seq (.ops [
  ⟨some [false], none, .mv (.c .nilslice), []⟩]) a22_1
def a22_0 : ACode := a22_0b
def a22 : AFunc := { body := a22_0, res := [([false], none)] }
theorem c22 : a22.body = a22_0 ∧
  a22.res = [([false], none)] ∧
  Unf a22_0 a22_0b ∧
  Unf a22_1 a22_1b ∧
  Unf a22_2 a22_2b ∧
  Unf a22_3 a22_3b ∧
  Unf a22_4 a22_4b ∧
  Unf a22_5 a22_5b :=
  ⟨rfl, rfl, Unf.of rfl, Unf.of rfl, Unf.of rfl, Unf.of rfl, Unf.of rfl, Unf.of rfl⟩
def a23_17b : ACode := .seq (.ops [
  ⟨some [true, false, false, false], none, .mv (.t [false, true]), []⟩,
  ⟨some [false], none, .mv (.t [true, false, false, false]), []⟩,
  ⟨some [true, true], none, .mv (.c (.int .i64 (.ofNat 0))), []⟩]) .ret
def a23_17 : ACode := a23_17b
def a23_16b : ACode := .ops [
  ⟨some [true, false, true, true], none, .mv (.t [true, false]), []⟩,
  ⟨some [false, false, true, true], none, .arith .add (.t [true, false, true, true]) (.c (.int .i64 (.ofNat 1))), []⟩,
  ⟨some [true, false], none, .mv (.t [false, false, true, true]), []⟩]
def a23_16 : ACode := a23_16b
def a23_15b : ACode := .ops [
  ⟨some [true, true, false, true], none, .mv (.t [false, true]), []⟩,
  ⟨some [false, true, false, true], none, .mv (.t [false, true]), []⟩,
  ⟨some [true, false, false, true], none, .nilCheck (.t [false, true, false, true]), []⟩,
  ⟨some [false, false, false, true], none, .fieldAddr 0 (.t [true, false, false, true]), []⟩,
  ⟨some [true, true, true, false], none, .load false 1 (.t [false, false, false, true]), []⟩,
  ⟨some [false, true, true, false], none, .call 31 [.c (.str [])], [(none, [true, true, true, false], .load false 1 (.t [false, false, false, true]))]⟩,
  ⟨some [true, false, true, false], none, .buildSlice 1 1 [(1, .str [])] [(0, 1, .t [false, true, true, false])], []⟩,
  ⟨some [false, false, true, false], none, .append 1 16 (.t [true, true, true, false]) (.t [true, false, true, false]), []⟩,
  ⟨some [true, true, false, false], none, .nilCheck (.t [true, true, false, true]), []⟩,
  ⟨some [false, true, false, false], none, .fieldAddr 0 (.t [true, true, false, false]), []⟩,
  ⟨none, none, .store 1 (.t [false, true, false, false]) (.t [false, false, true, false]), []⟩]
def a23_15 : ACode := a23_15b
def a23_14b : ACode := .block 1 a23_15
def a23_14 : ACode := a23_14b
def a23_13b : ACode := .seq a23_14 a23_16
def a23_13 : ACode := a23_13b
def a23_12b : ACode := .cond (.t [false, true, true, true]) .skip (.exit 0)
def a23_12 : ACode := a23_12b
def a23_11b : ACode := .seq (.ops [
  ⟨some [false, false, false], none, .mv (.t [true, false]), []⟩,
  ⟨some [true, true, true, true], none, .mv (.t []), []⟩,
  ⟨some [false, true, true, true], none, .arith .lss (.t [false, false, false]) (.t [true, true, true, true]), []⟩]) a23_12
def a23_11 : ACode := a23_11b
def a23_10b : ACode := .seq a23_11 a23_13
def a23_10 : ACode := a23_10b
def a23_9b : ACode := .loop a23_10
def a23_9 : ACode := a23_9b
def a23_8b : ACode := .block 0 a23_9
def a23_8 : ACode := a23_8b
def a23_7b : ACode := .seq (.ops [
  ⟨some [true, false], none, .mv (.c (.int .i64 (.ofNat 0))), []⟩]) a23_8
def a23_7 : ACode := a23_7b
def a23_6b : ACode := .seq a23_7 a23_17
def a23_6 : ACode := a23_6b
def a23_5b : ACode := .seq (.ops [
  ⟨some [false, true, false], none, .build [(2, .nilslice), (1, .int .i64 (.ofNat 0)), (1, .bool false)] [(2, 1, .c (.int .i64 (.negSucc 0)))], []⟩,
  ⟨some [true, false, false], none, .box (.t [false, true, false]), []⟩,
  ⟨some [false, true], none, .mv (.t [true, false, false]), []⟩]) a23_6
def a23_5 : ACode := a23_5b
def a23_4b : ACode := .seq (.ops [
  ⟨some [false], none, .mv (.c .nilptr), []⟩,
  ⟨some [true, true], none, .mv (.c (.int .i64 (.ofNat 1))), []⟩]) .ret
def a23_4 : ACode := a23_4b
def a23_3b : ACode := .cond (.t [true, true, false]) a23_4 .skip
def a23_3 : ACode := a23_3b
def a23_2b : ACode := .seq (.ops [
  ⟨some [false, false], none, .mv (.t []), []⟩,
  ⟨some [true, true, true], none, .arith .lss (.t [false, false]) (.c (.int .i64 (.ofNat 64))), []⟩,
  ⟨some [false, true, true], none, .mv (.t [true, true, true]), []⟩,
  ⟨some [true, false, true], some ([false, true, true], false), .mv (.t []), []⟩,
  ⟨some [false, false, true], some ([false, true, true], false), .arith .gtr (.t [true, false, true]) (.c (.int .i64 (.ofNat 65536))), []⟩,
  ⟨some [true, true, false], none, .pick (.t [false, true, true]) (.c (.bool true)) (.t [false, false, true]), []⟩]) a23_3
def a23_2 : ACode := a23_2b
def a23_1b : ACode := .seq a23_2 a23_5
def a23_1 : ACode := a23_1b
def a23_0b : ACode := .seq (.ops [
  ⟨some [false], none, .mv (.c .nilptr), []⟩,
  ⟨some [true, true], none, .mv (.c (.int .i64 (.ofNat 0))), []⟩]) a23_1
def a23_0 : ACode := a23_0b
def a23 : AFunc := { body := a23_0, res := [([false], none), ([true, true], none)] }
theorem c23 : a23.body = a23_0 ∧
  a23.res = [([false], none), ([true, true], none)] ∧
  Unf a23_0 a23_0b ∧
  Unf a23_1 a23_1b ∧
  Unf a23_2 a23_2b ∧
  Unf a23_3 a23_3b ∧
  Unf a23_4 a23_4b ∧
  Unf a23_5 a23_5b ∧
  Unf a23_6 a23_6b ∧
  Unf a23_7 a23_7b ∧
  Unf a23_8 a23_8b ∧
  Unf a23_9 a23_9b ∧
  Unf a23_10 a23_10b ∧
  Unf a23_11 a23_11b ∧
  Unf a23_12 a23_12b ∧
  Unf a23_13 a23_13b ∧
  Unf a23_14 a23_14b ∧
  Unf a23_15 a23_15b ∧
  Unf a23_16 a23_16b ∧
  Unf a23_17 a23_17b :=
  ⟨rfl, rfl, Unf.of rfl, Unf.of rfl, Unf.of rfl, Unf.of rfl, Unf.of rfl, Unf.of rfl, Unf.of rfl, Unf.of rfl, Unf.of rfl, Unf.of rfl, Unf.of rfl, Unf.of rfl, Unf.of rfl, Unf.of rfl, Unf.of rfl, Unf.of rfl, Unf.of rfl, Unf.of rfl⟩
def a24_23b : ACode := .seq (.ops [
  ⟨some [true, false, true, false, false], none, .mv (.t [false, false]), []⟩,
  ⟨some [false, true], none, .mv (.t [true, false, true, false, false]), []⟩,
  ⟨some [true, false], none, .mv (.c (.int .i64 (.ofNat 0))), []⟩]) .ret
def a24_23 : ACode := a24_23b
def a24_22b : ACode := .ops [
  ⟨some [true, false, false, true, true], none, .mv (.t [true, true, true]), []⟩,
  ⟨some [false, false, false, true, true], none, .arith .add (.t [true, false, false, true, true]) (.c (.int .i64 (.ofNat 1))), []⟩,
  ⟨some [true, true, true], none, .mv (.t [false, false, false, true, true]), []⟩]
def a24_22 : ACode := a24_22b
def a24_21b : ACode := .ops [
  ⟨some [true, false, true, true, false], none, .mv (.t []), []⟩,
  ⟨some [false, false, true, true, false], none, .nilCheck (.t [true, false, true, true, false]), []⟩,
  ⟨some [true, true, false, true, false], none, .fieldAddr 1 (.t [false, false, true, true, false]), []⟩,
  ⟨some [false, true, false, true, false], none, .load false 1 (.t [true, true, false, true, false]), []⟩,
  ⟨some [true, false, false, true, false], none, .mv (.t [true, true, true]), []⟩,
  ⟨some [false, false, false, true, false], none, .indexAddrS 2 (.t [false, true, false, true, false]) (.t [true, false, false, true, false]), []⟩,
  ⟨some [true, true, true, false, false], none, .fieldAddr 1 (.t [false, false, false, true, false]), []⟩,
  ⟨some [false, true, true, false, false], none, .load false 1 (.t [true, true, true, false, false]), []⟩,
  ⟨some [false, false], none, .mv (.t [false, true, true, false, false]), []⟩]
def a24_21 : ACode := a24_21b
def a24_20b : ACode := .cond (.t [false, true, true, true, false]) a24_21 .skip
def a24_20 : ACode := a24_20b
def a24_19b : ACode := .seq (.ops [
  ⟨some [true, true, true, false, true], none, .mv (.t []), []⟩,
  ⟨some [false, true, true, false, true], none, .nilCheck (.t [true, true, true, false, true]), []⟩,
  ⟨some [true, false, true, false, true], none, .fieldAddr 1 (.t [false, true, true, false, true]), []⟩,
  ⟨some [false, false, true, false, true], none, .load false 1 (.t [true, false, true, false, true]), []⟩,
  ⟨some [true, true, false, false, true], none, .mv (.t [true, true, true]), []⟩,
  ⟨some [false, true, false, false, true], none, .indexAddrS 2 (.t [false, false, true, false, true]) (.t [true, true, false, false, true]), []⟩,
  ⟨some [true, false, false, false, true], none, .fieldAddr 0 (.t [false, true, false, false, true]), []⟩,
  ⟨some [false, false, false, false, true], none, .load false 1 (.t [true, false, false, false, true]), []⟩,
  ⟨some [true, true, true, true, false], none, .mv (.t [true]), []⟩,
  ⟨some [false, true, true, true, false], none, .eqs false .int (.t [false, false, false, false, true]) (.t [true, true, true, true, false]), []⟩]) a24_20
def a24_19 : ACode := a24_19b
def a24_18b : ACode := .block 1 a24_19
def a24_18 : ACode := a24_18b
def a24_17b : ACode := .seq a24_18 a24_22
def a24_17 : ACode := a24_17b
def a24_16b : ACode := .cond (.t [false, true, false, true, true]) .skip (.exit 0)
def a24_16 : ACode := a24_16b
def a24_15b : ACode := .seq (.ops [
  ⟨some [false, false, false, false], none, .mv (.t [true, true, true]), []⟩,
  ⟨some [true, true, true, true, true], none, .mv (.t []), []⟩,
  ⟨some [false, true, true, true, true], none, .nilCheck (.t [true, true, true, true, true]), []⟩,
  ⟨some [true, false, true, true, true], none, .fieldAddr 1 (.t [false, true, true, true, true]), []⟩,
  ⟨some [false, false, true, true, true], none, .load false 1 (.t [true, false, true, true, true]), []⟩,
  ⟨some [true, true, false, true, true], none, .len (.t [false, false, true, true, true]), []⟩,
  ⟨some [false, true, false, true, true], none, .arith .lss (.t [false, false, false, false]) (.t [true, true, false, true, true]), []⟩]) a24_16
def a24_15 : ACode := a24_15b
def a24_14b : ACode := .seq a24_15 a24_17
def a24_14 : ACode := a24_14b
def a24_13b : ACode := .loop a24_14
def a24_13 : ACode := a24_13b
def a24_12b : ACode := .block 0 a24_13
def a24_12 : ACode := a24_12b
def a24_11b : ACode := .seq (.ops [
  ⟨some [true, true, true], none, .mv (.c (.int .i64 (.ofNat 0))), []⟩]) a24_12
def a24_11 : ACode := a24_11b
def a24_10b : ACode := .seq a24_11 a24_23
def a24_10 : ACode := a24_10b
def a24_9b : ACode := .seq (.ops [
  ⟨some [true, true, true, false], none, .mv (.t []), []⟩,
  ⟨some [false, true, true, false], none, .nilCheck (.t [true, true, true, false]), []⟩,
  ⟨some [true, false, true, false], none, .fieldAddr 0 (.t [false, true, true, false]), []⟩,
  ⟨some [false, false, true, false], none, .load false 1 (.t [true, false, true, false]), []⟩,
  ⟨some [true, true, false, false], none, .mv (.t [true]), []⟩,
  ⟨some [false, true, false, false], none, .indexAddrS 1 (.t [false, false, true, false]) (.t [true, true, false, false]), []⟩,
  ⟨some [true, false, false, false], none, .load false 1 (.t [false, true, false, false]), []⟩,
  ⟨some [false, false], none, .mv (.t [true, false, false, false]), []⟩]) a24_10
def a24_9 : ACode := a24_9b
def a24_8b : ACode := .seq (.ops [
  ⟨some [false, true], none, .mv (.c (.str [])), []⟩,
  ⟨some [true, false], none, .mv (.c (.int .i64 (.ofNat 1))), []⟩]) .ret
def a24_8 : ACode := a24_8b
def a24_7b : ACode := .cond (.t [false, false, false, true]) a24_8 .skip
def a24_7 : ACode := a24_7b
def a24_6b : ACode := .seq (.ops [
  ⟨some [false, true, false], none, .mv (.t [true]), []⟩,
  ⟨some [true, false, false], none, .arith .lss (.t [false, true, false]) (.c (.int .i64 (.ofNat 0))), []⟩,
  ⟨some [false, false, false], none, .mv (.t [true, false, false]), []⟩,
  ⟨some [true, true, true, true], some ([false, false, false], false), .mv (.t [true]), []⟩,
  ⟨some [false, true, true, true], some ([false, false, false], false), .mv (.t []), []⟩,
  ⟨some [true, false, true, true], some ([false, false, false], false), .nilCheck (.t [false, true, true, true]), []⟩,
  ⟨some [false, false, true, true], some ([false, false, false], false), .fieldAddr 0 (.t [true, false, true, true]), []⟩,
  ⟨some [true, true, false, true], some ([false, false, false], false), .load false 1 (.t [false, false, true, true]), []⟩,
  ⟨some [false, true, false, true], some ([false, false, false], false), .len (.t [true, true, false, true]), []⟩,
  ⟨some [true, false, false, true], some ([false, false, false], false), .arith .geq (.t [true, true, true, true]) (.t [false, true, false, true]), []⟩,
  ⟨some [false, false, false, true], none, .pick (.t [false, false, false]) (.c (.bool true)) (.t [true, false, false, true]), []⟩]) a24_7
def a24_6 : ACode := a24_6b
def a24_5b : ACode := .seq a24_6 a24_9
def a24_5 : ACode := a24_5b
def a24_4b : ACode := .seq (.ops [
  ⟨some [false, true], none, .mv (.c (.str [])), []⟩,
  ⟨some [true, false], none, .mv (.c (.int .i64 (.ofNat 90))), []⟩]) .ret
def a24_4 : ACode := a24_4b
def a24_3b : ACode := .cond (.t [true, true, false]) a24_4 .skip
def a24_3 : ACode := a24_3b
def a24_2b : ACode := .seq (.ops [
  ⟨some [false, true, true], none, .mv (.t []), []⟩,
  ⟨some [true, false, true], none, .nilCheck (.t [false, true, true]), []⟩,
  ⟨some [false, false, true], none, .fieldAddr 3 (.t [true, false, true]), []⟩,
  ⟨some [true, true, false], none, .load false 1 (.t [false, false, true]), []⟩]) a24_3
def a24_2 : ACode := a24_2b
def a24_1b : ACode := .seq a24_2 a24_5
def a24_1 : ACode := a24_1b
def a24_0b : ACode := .seq (.ops [
  ⟨some [false, true], none, .mv (.c (.str [])), []⟩,
  ⟨some [true, false], none, .mv (.c (.int .i64 (.ofNat 0))), []⟩]) a24_1
def a24_0 : ACode := a24_0b
def a24 : AFunc := { body := a24_0, res := [([false, true], none), ([true, false], none)] }
theorem c24 : a24.body = a24_0 ∧
  a24.res = [([false, true], none), ([true, false], none)] ∧
  Unf a24_0 a24_0b ∧
  Unf a24_1 a24_1b ∧
  Unf a24_2 a24_2b ∧
  Unf a24_3 a24_3b ∧
  Unf a24_4 a24_4b ∧
  Unf a24_5 a24_5b ∧
  Unf a24_6 a24_6b ∧
  Unf a24_7 a24_7b ∧
  Unf a24_8 a24_8b ∧
  Unf a24_9 a24_9b ∧
  Unf a24_10 a24_10b ∧
  Unf a24_11 a24_11b ∧
  Unf a24_12 a24_12b ∧
  Unf a24_13 a24_13b ∧
  Unf a24_14 a24_14b ∧
  Unf a24_15 a24_15b ∧
  Unf a24_16 a24_16b ∧
  Unf a24_17 a24_17b ∧
  Unf a24_18 a24_18b ∧
  Unf a24_19 a24_19b ∧
  Unf a24_20 a24_20b ∧
  Unf a24_21 a24_21b ∧
  Unf a24_22 a24_22b ∧
  Unf a24_23 a24_23b :=
  ⟨rfl, rfl, Unf.of rfl, Unf.of rfl, Unf.of rfl, Unf.of rfl, Unf.of rfl, Unf.of rfl, Unf.of rfl, Unf.of rfl, Unf.of rfl, Unf.of rfl, Unf.of rfl, Unf.of rfl, Unf.of rfl, Unf.of rfl, Unf.of rfl, Unf.of rfl, Unf.of rfl, Unf.of rfl, Unf.of rfl, Unf.of rfl, Unf.of rfl, Unf.of rfl, Unf.of rfl, Unf.of rfl⟩
def a25_18b : ACode := .seq (.ops [
  ⟨some [false, false], none, .mv (.c (.int .i64 (.ofNat 0))), []⟩]) .ret
def a25_18 : ACode := a25_18b
def a25_17b : ACode := .seq (.ops [
  ⟨some [false, true, false, false], none, .mv (.t []), []⟩,
  ⟨some [true, false, false, false], none, .mv (.t []), []⟩,
  ⟨some [false, false, false, false], none, .nilCheck (.t [true, false, false, false]), []⟩,
  ⟨some [true, true, true, true, true], none, .fieldAddr 1 (.t [false, false, false, false]), []⟩,
  ⟨some [false, true, true, true, true], none, .load false 1 (.t [true, true, true, true, true]), []⟩,
  ⟨some [true, false, true, true, true], none, .mv (.t [true]), []⟩,
  ⟨some [false, false, true, true, true], none, .mv (.t [false]), []⟩,
  ⟨some [true, true, false, true, true], none, .call 31 [.t [false, false, true, true, true]], [(none, [false, true, true, true, true], .load false 1 (.t [true, true, true, true, true]))]⟩,
  ⟨some [false, true, false, true, true], none, .build [(1, .int .i64 (.ofNat 0)), (1, .str [])] [(0, 1, .t [true, false, true, true, true]), (1, 1, .t [true, true, false, true, true])], []⟩,
  ⟨some [true, false, false, true, true], none, .buildSlice 2 1 [(1, .int .i64 (.ofNat 0)), (1, .str [])] [(0, 2, .t [false, true, false, true, true])], []⟩,
  ⟨some [false, false, false, true, true], none, .append 2 24 (.t [false, true, true, true, true]) (.t [true, false, false, true, true]), []⟩,
  ⟨some [true, true, true, false, true], none, .nilCheck (.t [false, true, false, false]), []⟩,
  ⟨some [false, true, true, false, true], none, .fieldAddr 1 (.t [true, true, true, false, true]), []⟩,
  ⟨none, none, .store 1 (.t [false, true, true, false, true]) (.t [false, false, false, true, true]), []⟩]) a25_18
def a25_17 : ACode := a25_17b
def a25_16b : ACode := .seq (.ops [
  ⟨some [false, false], none, .mv (.c (.int .i64 (.ofNat 90))), []⟩]) .ret
def a25_16 : ACode := a25_16b
def a25_15b : ACode := .cond (.t [true, true, false, false]) a25_16 .skip
def a25_15 : ACode := a25_15b
def a25_14b : ACode := .seq (.ops [
  ⟨some [true, false, true, false], none, .mv (.t []), []⟩,
  ⟨some [false, false, true, false], none, .call 32 [.t [true, false, true, false]], []⟩,
  ⟨some [true, true, false, false], none, .un .not (.t [false, false, true, false]), []⟩]) a25_15
def a25_14 : ACode := a25_14b
def a25_13b : ACode := .seq a25_14 a25_17
def a25_13 : ACode := a25_13b
def a25_12b : ACode := .seq (.ops [
  ⟨some [false, false], none, .mv (.c (.int .i64 (.ofNat 2))), []⟩]) .ret
def a25_12 : ACode := a25_12b
def a25_11b : ACode := .cond (.t [false, true, true, false]) a25_12 .skip
def a25_11 : ACode := a25_11b
def a25_10b : ACode := .seq (.ops [
  ⟨some [false, false, false, true], none, .mv (.t [false]), []⟩,
  ⟨some [true, true, true, false], none, .lenStr (.t [false, false, false, true]), []⟩,
  ⟨some [false, true, true, false], none, .arith .gtr (.t [true, true, true, false]) (.c (.int .i64 (.ofNat 64))), []⟩]) a25_11
def a25_10 : ACode := a25_10b
def a25_9b : ACode := .seq a25_10 a25_13
def a25_9 : ACode := a25_9b
def a25_8b : ACode := .seq (.ops [
  ⟨some [false, false], none, .mv (.c (.int .i64 (.ofNat 1))), []⟩]) .ret
def a25_8 : ACode := a25_8b
def a25_7b : ACode := .cond (.t [true, false, false, true]) a25_8 .skip
def a25_7 : ACode := a25_7b
def a25_6b : ACode := .seq (.ops [
  ⟨some [true, true, false], none, .mv (.t [true]), []⟩,
  ⟨some [false, true, false], none, .arith .lss (.t [true, true, false]) (.c (.int .i64 (.ofNat 0))), []⟩,
  ⟨some [true, false, false], none, .mv (.t [false, true, false]), []⟩,
  ⟨some [false, false, false], some ([true, false, false], false), .mv (.t [true]), []⟩,
  ⟨some [true, true, true, true], some ([true, false, false], false), .mv (.t []), []⟩,
  ⟨some [false, true, true, true], some ([true, false, false], false), .nilCheck (.t [true, true, true, true]), []⟩,
  ⟨some [true, false, true, true], some ([true, false, false], false), .fieldAddr 0 (.t [false, true, true, true]), []⟩,
  ⟨some [false, false, true, true], some ([true, false, false], false), .load false 1 (.t [true, false, true, true]), []⟩,
  ⟨some [true, true, false, true], some ([true, false, false], false), .len (.t [false, false, true, true]), []⟩,
  ⟨some [false, true, false, true], some ([true, false, false], false), .arith .geq (.t [false, false, false]) (.t [true, true, false, true]), []⟩,
  ⟨some [true, false, false, true], none, .pick (.t [true, false, false]) (.c (.bool true)) (.t [false, true, false, true]), []⟩]) a25_7
def a25_6 : ACode := a25_6b
def a25_5b : ACode := .seq a25_6 a25_9
def a25_5 : ACode := a25_5b
def a25_4b : ACode := .seq (.ops [
  ⟨some [false, false], none, .mv (.c (.int .i64 (.ofNat 90))), []⟩]) .ret
def a25_4 : ACode := a25_4b
def a25_3b : ACode := .cond (.t [false, false, true]) a25_4 .skip
def a25_3 : ACode := a25_3b
def a25_2b : ACode := .seq (.ops [
  ⟨some [true, true, true], none, .mv (.t []), []⟩,
  ⟨some [false, true, true], none, .nilCheck (.t [true, true, true]), []⟩,
  ⟨some [true, false, true], none, .fieldAddr 3 (.t [false, true, true]), []⟩,
  ⟨some [false, false, true], none, .load false 1 (.t [true, false, true]), []⟩]) a25_3
def a25_2 : ACode := a25_2b
def a25_1b : ACode := .seq a25_2 a25_5
def a25_1 : ACode := a25_1b
def a25_0b : ACode := .seq (.ops [
  ⟨some [false, false], none, .mv (.c (.int .i64 (.ofNat 0))), []⟩]) a25_1
def a25_0 : ACode := a25_0b
def a25 : AFunc := { body := a25_0, res := [([false, false], none)] }
theorem c25 : a25.body = a25_0 ∧
  a25.res = [([false, false], none)] ∧
  Unf a25_0 a25_0b ∧
  Unf a25_1 a25_1b ∧
  Unf a25_2 a25_2b ∧
  Unf a25_3 a25_3b ∧
  Unf a25_4 a25_4b ∧
  Unf a25_5 a25_5b ∧
  Unf a25_6 a25_6b ∧
  Unf a25_7 a25_7b ∧
  Unf a25_8 a25_8b ∧
  Unf a25_9 a25_9b ∧
  Unf a25_10 a25_10b ∧
  Unf a25_11 a25_11b ∧
  Unf a25_12 a25_12b ∧
  Unf a25_13 a25_13b ∧
  Unf a25_14 a25_14b ∧
  Unf a25_15 a25_15b ∧
  Unf a25_16 a25_16b ∧
  Unf a25_17 a25_17b ∧
  Unf a25_18 a25_18b :=
  ⟨rfl, rfl, Unf.of rfl, Unf.of rfl, Unf.of rfl, Unf.of rfl, Unf.of rfl, Unf.of rfl, Unf.of rfl, Unf.of rfl, Unf.of rfl, Unf.of rfl, Unf.of rfl, Unf.of rfl, Unf.of rfl, Unf.of rfl, Unf.of rfl, Unf.of rfl, Unf.of rfl, Unf.of rfl, Unf.of rfl⟩
def a26_17b : ACode := .seq (.ops [
  ⟨some [false], none, .mv (.c (.int .i64 (.ofNat 0))), []⟩]) .ret
def a26_17 : ACode := a26_17b
def a26_16b : ACode := .seq (.ops [
  ⟨some [true, true, false, false, true], none, .mv (.t []), []⟩,
  ⟨some [false, true, false, false, true], none, .nilCheck (.t [true, true, false, false, true]), []⟩,
  ⟨some [true, false, false, false, true], none, .fieldAddr 1 (.t [false, true, false, false, true]), []⟩,
  ⟨none, none, .store 1 (.t [true, false, false, false, true]) (.c .nilslice), []⟩]) a26_17
def a26_16 : ACode := a26_16b
def a26_15b : ACode := .ops [
  ⟨some [false, true, false, true], none, .mv (.t [true, true]), []⟩,
  ⟨some [true, false, false, true], none, .arith .add (.t [false, true, false, true]) (.c (.int .i64 (.ofNat 1))), []⟩,
  ⟨some [true, true], none, .mv (.t [true, false, false, true]), []⟩]
def a26_15 : ACode := a26_15b
def a26_14b : ACode := .ops [
  ⟨some [false, false, false, true], none, .mv (.t []), []⟩,
  ⟨some [true, true, true, false], none, .nilCheck (.t [false, false, false, true]), []⟩,
  ⟨some [false, true, true, false], none, .fieldAddr 0 (.t [true, true, true, false]), []⟩,
  ⟨some [true, false, true, false], none, .load false 1 (.t [false, true, true, false]), []⟩,
  ⟨some [false, false, true, false], none, .mv (.t []), []⟩,
  ⟨some [true, true, false, false], none, .nilCheck (.t [false, false, true, false]), []⟩,
  ⟨some [false, true, false, false], none, .fieldAddr 1 (.t [true, true, false, false]), []⟩,
  ⟨some [true, false, false, false], none, .load false 1 (.t [false, true, false, false]), []⟩,
  ⟨some [false, false, false, false], none, .mv (.t [true, true]), []⟩,
  ⟨some [true, true, true, true, true], none, .indexAddrS 2 (.t [true, false, false, false]) (.t [false, false, false, false]), []⟩,
  ⟨some [false, true, true, true, true], none, .fieldAddr 0 (.t [true, true, true, true, true]), []⟩,
  ⟨some [true, false, true, true, true], none, .load false 1 (.t [false, true, true, true, true]), []⟩,
  ⟨some [false, false, true, true, true], none, .mv (.t []), []⟩,
  ⟨some [true, true, false, true, true], none, .nilCheck (.t [false, false, true, true, true]), []⟩,
  ⟨some [false, true, false, true, true], none, .fieldAddr 1 (.t [true, true, false, true, true]), []⟩,
  ⟨some [true, false, false, true, true], none, .load false 1 (.t [false, true, false, true, true]), []⟩,
  ⟨some [false, false, false, true, true], none, .mv (.t [true, true]), []⟩,
  ⟨some [true, true, true, false, true], none, .indexAddrS 2 (.t [true, false, false, true, true]) (.t [false, false, false, true, true]), []⟩,
  ⟨some [false, true, true, false, true], none, .fieldAddr 1 (.t [true, true, true, false, true]), []⟩,
  ⟨some [true, false, true, false, true], none, .load false 1 (.t [false, true, true, false, true]), []⟩,
  ⟨some [false, false, true, false, true], none, .indexAddrS 1 (.t [true, false, true, false]) (.t [true, false, true, true, true]), []⟩,
  ⟨none, none, .store 1 (.t [false, false, true, false, true]) (.t [true, false, true, false, true]), []⟩]
def a26_14 : ACode := a26_14b
def a26_13b : ACode := .block 1 a26_14
def a26_13 : ACode := a26_13b
def a26_12b : ACode := .seq a26_13 a26_15
def a26_12 : ACode := a26_12b
def a26_11b : ACode := .cond (.t [true, true, false, true]) .skip (.exit 0)
def a26_11 : ACode := a26_11b
def a26_10b : ACode := .seq (.ops [
  ⟨some [true, false, false], none, .mv (.t [true, true]), []⟩,
  ⟨some [false, false, false], none, .mv (.t []), []⟩,
  ⟨some [true, true, true, true], none, .nilCheck (.t [false, false, false]), []⟩,
  ⟨some [false, true, true, true], none, .fieldAddr 1 (.t [true, true, true, true]), []⟩,
  ⟨some [true, false, true, true], none, .load false 1 (.t [false, true, true, true]), []⟩,
  ⟨some [false, false, true, true], none, .len (.t [true, false, true, true]), []⟩,
  ⟨some [true, true, false, true], none, .arith .lss (.t [true, false, false]) (.t [false, false, true, true]), []⟩]) a26_11
def a26_10 : ACode := a26_10b
def a26_9b : ACode := .seq a26_10 a26_12
def a26_9 : ACode := a26_9b
def a26_8b : ACode := .loop a26_9
def a26_8 : ACode := a26_8b
def a26_7b : ACode := .block 0 a26_8
def a26_7 : ACode := a26_7b
def a26_6b : ACode := .seq (.ops [
  ⟨some [true, true], none, .mv (.c (.int .i64 (.ofNat 0))), []⟩]) a26_7
def a26_6 : ACode := a26_6b
def a26_5b : ACode := .seq a26_6 a26_16
def a26_5 : ACode := a26_5b
def a26_4b : ACode := .seq (.ops [
  ⟨some [false], none, .mv (.c (.int .i64 (.ofNat 90))), []⟩]) .ret
def a26_4 : ACode := a26_4b
def a26_3b : ACode := .cond (.t [false, true, false]) a26_4 .skip
def a26_3 : ACode := a26_3b
def a26_2b : ACode := .seq (.ops [
  ⟨some [false, true], none, .mv (.t []), []⟩,
  ⟨some [true, false], none, .nilCheck (.t [false, true]), []⟩,
  ⟨some [false, false], none, .fieldAddr 3 (.t [true, false]), []⟩,
  ⟨some [true, true, true], none, .load false 1 (.t [false, false]), []⟩,
  ⟨some [false, true, true], none, .mv (.t [true, true, true]), []⟩,
  ⟨some [true, false, true], some ([false, true, true], false), .mv (.t []), []⟩,
  ⟨some [false, false, true], some ([false, true, true], false), .call 32 [.t [true, false, true]], []⟩,
  ⟨some [true, true, false], some ([false, true, true], false), .un .not (.t [false, false, true]), []⟩,
  ⟨some [false, true, false], none, .pick (.t [false, true, true]) (.c (.bool true)) (.t [true, true, false]), []⟩]) a26_3
def a26_2 : ACode := a26_2b
def a26_1b : ACode := .seq a26_2 a26_5
def a26_1 : ACode := a26_1b
def a26_0b : ACode := .seq (.ops [
  ⟨some [false], none, .mv (.c (.int .i64 (.ofNat 0))), []⟩]) a26_1
def a26_0 : ACode := a26_0b
def a26 : AFunc := { body := a26_0, res := [([false], none)] }
theorem c26 : a26.body = a26_0 ∧
  a26.res = [([false], none)] ∧
  Unf a26_0 a26_0b ∧
  Unf a26_1 a26_1b ∧
  Unf a26_2 a26_2b ∧
  Unf a26_3 a26_3b ∧
  Unf a26_4 a26_4b ∧
  Unf a26_5 a26_5b ∧
  Unf a26_6 a26_6b ∧
  Unf a26_7 a26_7b ∧
  Unf a26_8 a26_8b ∧
  Unf a26_9 a26_9b ∧
  Unf a26_10 a26_10b ∧
  Unf a26_11 a26_11b ∧
  Unf a26_12 a26_12b ∧
  Unf a26_13 a26_13b ∧
  Unf a26_14 a26_14b ∧
  Unf a26_15 a26_15b ∧
  Unf a26_16 a26_16b ∧
  Unf a26_17 a26_17b :=
  ⟨rfl, rfl, Unf.of rfl, Unf.of rfl, Unf.of rfl, Unf.of rfl, Unf.of rfl, Unf.of rfl, Unf.of rfl, Unf.of rfl, Unf.of rfl, Unf.of rfl, Unf.of rfl, Unf.of rfl, Unf.of rfl, Unf.of rfl, Unf.of rfl, Unf.of rfl, Unf.of rfl, Unf.of rfl⟩
def a27_11b : ACode := .seq (.ops [
  ⟨some [false, true], none, .mv (.c (.int .i64 (.ofNat 0))), []⟩]) .ret
def a27_11 : ACode := a27_11b
def a27_10b : ACode := .seq (.ops [
  ⟨some [true, false, false], none, .mv (.t []), []⟩,
  ⟨some [false, false, false], none, .mv (.t [true]), []⟩,
  ⟨some [true, true, true, true], none, .nilCheck (.t [true, false, false]), []⟩,
  ⟨some [false, true, true, true], none, .fieldAddr 3 (.t [true, true, true, true]), []⟩,
  ⟨none, none, .store 1 (.t [false, true, true, true]) (.t [false, false, false]), []⟩]) a27_11
def a27_10 : ACode := a27_10b
def a27_9b : ACode := .seq (.ops [
  ⟨some [false, true], none, .mv (.c (.int .i64 (.ofNat 1))), []⟩]) .ret
def a27_9 : ACode := a27_9b
def a27_8b : ACode := .cond (.t [false, true, false]) a27_9 .skip
def a27_8 : ACode := a27_8b
def a27_7b : ACode := .seq (.ops [
  ⟨some [true, true, false], none, .mv (.t [true]), []⟩,
  ⟨some [false, true, false], none, .arith .lss (.t [true, true, false]) (.c (.int .i64 (.ofNat 0))), []⟩]) a27_8
def a27_7 : ACode := a27_7b
def a27_6b : ACode := .seq a27_7 a27_10
def a27_6 : ACode := a27_6b
def a27_5b : ACode := .seq (.ops [
  ⟨some [false, false, true], none, .mv (.t [true, false]), []⟩,
  ⟨some [false, true], none, .mv (.t [false, false, true]), []⟩]) .ret
def a27_5 : ACode := a27_5b
def a27_4b : ACode := .cond (.t [true, false, true]) a27_5 .skip
def a27_4 : ACode := a27_4b
def a27_3b : ACode := .seq (.ops [
  ⟨some [false, true, true], none, .mv (.t [true, false]), []⟩,
  ⟨some [true, false, true], none, .eqs true .int (.t [false, true, true]) (.c (.int .i64 (.ofNat 0))), []⟩]) a27_4
def a27_3 : ACode := a27_3b
def a27_2b : ACode := .seq (.ops [
  ⟨some [false, false], none, .mv (.t []), []⟩,
  ⟨some [true, true, true], none, .call 17 [.t [false, false]], []⟩,
  ⟨some [true, false], none, .mv (.t [true, true, true]), []⟩]) a27_3
def a27_2 : ACode := a27_2b
def a27_1b : ACode := .seq a27_2 a27_6
def a27_1 : ACode := a27_1b
def a27_0b : ACode := .seq (.ops [
  ⟨some [false, true], none, .mv (.c (.int .i64 (.ofNat 0))), []⟩]) a27_1
def a27_0 : ACode := a27_0b
def a27 : AFunc := { body := a27_0, res := [([false, true], none)] }
theorem c27 : a27.body = a27_0 ∧
  a27.res = [([false, true], none)] ∧
  Unf a27_0 a27_0b ∧
  Unf a27_1 a27_1b ∧
  Unf a27_2 a27_2b ∧
  Unf a27_3 a27_3b ∧
  Unf a27_4 a27_4b ∧
  Unf a27_5 a27_5b ∧
  Unf a27_6 a27_6b ∧
  Unf a27_7 a27_7b ∧
  Unf a27_8 a27_8b ∧
  Unf a27_9 a27_9b ∧
  Unf a27_10 a27_10b ∧
  Unf a27_11 a27_11b :=
  ⟨rfl, rfl, Unf.of rfl, Unf.of rfl, Unf.of rfl, Unf.of rfl, Unf.of rfl, Unf.of rfl, Unf.of rfl, Unf.of rfl, Unf.of rfl, Unf.of rfl, Unf.of rfl, Unf.of rfl⟩
def a28_10b : ACode := .seq (.ops [
  ⟨some [false, true], none, .mv (.c (.int .i64 (.ofNat 0))), []⟩]) .ret
def a28_10 : ACode := a28_10b
def a28_9b : ACode := .seq (.ops [
  ⟨some [true, true, false], none, .mv (.t []), []⟩,
  ⟨some [false, true, false], none, .mv (.t [true]), []⟩,
  ⟨some [true, false, false], none, .nilCheck (.t [true, true, false]), []⟩,
  ⟨some [false, false, false], none, .fieldAddr 2 (.t [true, false, false]), []⟩,
  ⟨none, none, .store 1 (.t [false, false, false]) (.t [false, true, false]), []⟩]) a28_10
def a28_9 : ACode := a28_9b
def a28_8b : ACode := .seq (.ops [
  ⟨some [false, true], none, .mv (.c (.int .i64 (.ofNat 1))), []⟩]) .ret
def a28_8 : ACode := a28_8b
def a28_7b : ACode := .cond (.t [false, false, true]) a28_8 .skip
def a28_7 : ACode := a28_7b
def a28_6b : ACode := .seq (.ops [
  ⟨some [true, false, true], none, .mv (.t [true]), []⟩,
  ⟨some [false, false, true], none, .arith .lss (.t [true, false, true]) (.c (.int .i64 (.ofNat 0))), []⟩]) a28_7
def a28_6 : ACode := a28_6b
def a28_5b : ACode := .seq a28_6 a28_9
def a28_5 : ACode := a28_5b
def a28_4b : ACode := .seq (.ops [
  ⟨some [false, true], none, .mv (.c (.int .i64 (.ofNat 90))), []⟩]) .ret
def a28_4 : ACode := a28_4b
def a28_3b : ACode := .cond (.t [false, true, true]) a28_4 .skip
def a28_3 : ACode := a28_3b
def a28_2b : ACode := .seq (.ops [
  ⟨some [true, false], none, .mv (.t []), []⟩,
  ⟨some [false, false], none, .nilCheck (.t [true, false]), []⟩,
  ⟨some [true, true, true], none, .fieldAddr 3 (.t [false, false]), []⟩,
  ⟨some [false, true, true], none, .load false 1 (.t [true, true, true]), []⟩]) a28_3
def a28_2 : ACode := a28_2b
def a28_1b : ACode := .seq a28_2 a28_5
def a28_1 : ACode := a28_1b
def a28_0b : ACode := .seq (.ops [
  ⟨some [false, true], none, .mv (.c (.int .i64 (.ofNat 0))), []⟩]) a28_1
def a28_0 : ACode := a28_0b
def a28 : AFunc := { body := a28_0, res := [([false, true], none)] }
theorem c28 : a28.body = a28_0 ∧
  a28.res = [([false, true], none)] ∧
  Unf a28_0 a28_0b ∧
  Unf a28_1 a28_1b ∧
  Unf a28_2 a28_2b ∧
  Unf a28_3 a28_3b ∧
  Unf a28_4 a28_4b ∧
  Unf a28_5 a28_5b ∧
  Unf a28_6 a28_6b ∧
  Unf a28_7 a28_7b ∧
  Unf a28_8 a28_8b ∧
  Unf a28_9 a28_9b ∧
  Unf a28_10 a28_10b :=
  ⟨rfl, rfl, Unf.of rfl, Unf.of rfl, Unf.of rfl, Unf.of rfl, Unf.of rfl, Unf.of rfl, Unf.of rfl, Unf.of rfl, Unf.of rfl, Unf.of rfl, Unf.of rfl⟩
def a29_19b : ACode := .ops [
  ⟨some [true, false, false, false, false], none, .mv (.t []), []⟩,
  ⟨some [false, false, false, false, false], none, .nilCheck (.t [true, false, false, false, false]), []⟩,
  ⟨some [true, true, true, true, true, true], none, .fieldAddr 3 (.t [false, false, false, false, false]), []⟩,
  ⟨none, none, .store 1 (.t [true, true, true, true, true, true]) (.c (.bool false)), []⟩]
def a29_19 : ACode := a29_19b
def a29_18b : ACode := .seq (.ops [
  ⟨some [false, false, true, false, false], none, .mv (.t []), []⟩,
  ⟨some [true, true, false, false, false], none, .nilCheck (.t [false, false, true, false, false]), []⟩,
  ⟨some [false, true, false, false, false], none, .fieldAddr 2 (.t [true, true, false, false, false]), []⟩,
  ⟨none, none, .store 1 (.t [false, true, false, false, false]) (.c (.int .i64 (.negSucc 0))), []⟩]) a29_19
def a29_18 : ACode := a29_18b
def a29_17b : ACode := .seq (.ops [
  ⟨some [true, true, true, false, false], none, .mv (.t []), []⟩,
  ⟨some [false, true, true, false, false], none, .nilCheck (.t [true, true, true, false, false]), []⟩,
  ⟨some [true, false, true, false, false], none, .fieldAddr 1 (.t [false, true, true, false, false]), []⟩,
  ⟨none, none, .store 1 (.t [true, false, true, false, false]) (.c .nilslice), []⟩]) a29_18
def a29_17 : ACode := a29_17b
def a29_16b : ACode := .ops [
  ⟨some [false, false, false], none, .mv (.t [false, true]), []⟩,
  ⟨some [true, true, true, true], none, .arith .add (.t [false, false, false]) (.c (.int .i64 (.ofNat 1))), []⟩,
  ⟨some [false, true], none, .mv (.t [true, true, true, true]), []⟩]
def a29_16 : ACode := a29_16b
def a29_15b : ACode := .ops [
  ⟨some [true, false, true, true, true], none, .mv (.t []), []⟩,
  ⟨some [false, false, true, true, true], none, .nilCheck (.t [true, false, true, true, true]), []⟩,
  ⟨some [true, true, false, true, true], none, .fieldAddr 0 (.t [false, false, true, true, true]), []⟩,
  ⟨some [false, true, false, true, true], none, .load false 1 (.t [true, true, false, true, true]), []⟩,
  ⟨some [true, false, false, true, true], none, .fieldAddr 0 (.t [false, false]), []⟩,
  ⟨some [false, false, false, true, true], none, .load false 1 (.t [true, false, false, true, true]), []⟩,
  ⟨some [true, true, true, false, true], none, .fieldAddr 1 (.t [false, false]), []⟩,
  ⟨some [false, true, true, false, true], none, .load false 1 (.t [true, true, true, false, true]), []⟩,
  ⟨some [true, false, true, false, true], none, .mv (.t [true, false]), []⟩,
  ⟨some [false, false, true, false, true], none, .sliceStr (.t [false, true, true, false, true]) none (some (.t [true, false, true, false, true])), []⟩,
  ⟨some [true, true, false, false, true], none, .mv (.t []), []⟩,
  ⟨some [false, true, false, false, true], none, .nilCheck (.t [true, true, false, false, true]), []⟩,
  ⟨some [true, false, false, false, true], none, .fieldAddr 0 (.t [false, true, false, false, true]), []⟩,
  ⟨some [false, false, false, false, true], none, .load false 1 (.t [true, false, false, false, true]), []⟩,
  ⟨some [true, true, true, true, false], none, .fieldAddr 0 (.t [false, false]), []⟩,
  ⟨some [false, true, true, true, false], none, .load false 1 (.t [true, true, true, true, false]), []⟩,
  ⟨some [true, false, true, true, false], none, .indexAddrS 1 (.t [false, false, false, false, true]) (.t [false, true, true, true, false]), []⟩,
  ⟨some [false, false, true, true, false], none, .load false 1 (.t [true, false, true, true, false]), []⟩,
  ⟨some [true, true, false, true, false], none, .mv (.t [true, false]), []⟩,
  ⟨some [false, true, false, true, false], none, .sliceStr (.t [false, false, true, true, false]) (some (.t [true, true, false, true, false])) none, []⟩,
  ⟨some [true, false, false, true, false], none, .arith .add (.t [false, false, true, false, true]) (.t [false, true, false, true, false]), []⟩,
  ⟨some [false, false, false, true, false], none, .indexAddrS 1 (.t [false, true, false, true, true]) (.t [false, false, false, true, true]), []⟩,
  ⟨none, none, .store 1 (.t [false, false, false, true, false]) (.t [true, false, false, true, false]), []⟩]
def a29_15 : ACode := a29_15b
def a29_14b : ACode := .seq (.ops [
  ⟨some [false, false, true, false], none, .mv (.t []), []⟩,
  ⟨some [true, true, false, false], none, .nilCheck (.t [false, false, true, false]), []⟩,
  ⟨some [false, true, false, false], none, .fieldAddr 1 (.t [true, true, false, false]), []⟩,
  ⟨some [true, false, false, false], none, .load false 1 (.t [false, true, false, false]), []⟩,
  ⟨some [false, false, false, false], none, .mv (.t [false, true]), []⟩,
  ⟨some [true, true, true, true, true], none, .indexAddrS 2 (.t [true, false, false, false]) (.t [false, false, false, false]), []⟩,
  ⟨some [false, true, true, true, true], none, .load true 2 (.t [true, true, true, true, true]), []⟩,
  ⟨some [false, false], none, .alloc [(1, .int .i64 (.ofNat 0)), (1, .str [])], []⟩,
  ⟨none, none, .store 2 (.t [false, false]) (.t [false, true, true, true, true]), []⟩]) a29_15
def a29_14 : ACode := a29_14b
def a29_13b : ACode := .ops [
  ⟨some [false, true, false, true], none, .mv (.t [true]), []⟩,
  ⟨some [true, false, false, true], none, .mv (.t [false, true]), []⟩,
  ⟨some [false, false, false, true], none, .indexAddrS 1 (.t [false, true, false, true]) (.t [true, false, false, true]), []⟩,
  ⟨some [true, true, true, false], none, .load false 1 (.t [false, false, false, true]), []⟩,
  ⟨some [false, true, true, false], none, .max [.t [true, true, true, false], .c (.int .i64 (.ofNat 0))], []⟩,
  ⟨some [true, false, true, false], none, .min [.t [false, true, true, false], .c (.int .i64 (.ofNat 64))], []⟩,
  ⟨some [true, false], none, .mv (.t [true, false, true, false]), []⟩]
def a29_13 : ACode := a29_13b
def a29_12b : ACode := .cond (.t [true, true, false, true]) a29_13 .skip
def a29_12 : ACode := a29_12b
def a29_11b : ACode := .seq (.ops [
  ⟨some [false, true, true, true], none, .mv (.t [false, true]), []⟩,
  ⟨some [true, false, true, true], none, .mv (.t [true]), []⟩,
  ⟨some [false, false, true, true], none, .len (.t [true, false, true, true]), []⟩,
  ⟨some [true, true, false, true], none, .arith .lss (.t [false, true, true, true]) (.t [false, false, true, true]), []⟩]) a29_12
def a29_11 : ACode := a29_11b
def a29_10b : ACode := .seq a29_11 a29_14
def a29_10 : ACode := a29_10b
def a29_9b : ACode := .seq (.ops [
  ⟨some [true, false], none, .mv (.c (.int .i64 (.ofNat 0))), []⟩]) a29_10
def a29_9 : ACode := a29_9b
def a29_8b : ACode := .block 1 a29_9
def a29_8 : ACode := a29_8b
def a29_7b : ACode := .seq a29_8 a29_16
def a29_7 : ACode := a29_7b
def a29_6b : ACode := .cond (.t [true, false, false]) .skip (.exit 0)
def a29_6 : ACode := a29_6b
def a29_5b : ACode := .seq (.ops [
  ⟨some [true, true, true], none, .mv (.t [false, true]), []⟩,
  ⟨some [false, true, true], none, .mv (.t []), []⟩,
  ⟨some [true, false, true], none, .nilCheck (.t [false, true, true]), []⟩,
  ⟨some [false, false, true], none, .fieldAddr 1 (.t [true, false, true]), []⟩,
  ⟨some [true, true, false], none, .load false 1 (.t [false, false, true]), []⟩,
  ⟨some [false, true, false], none, .len (.t [true, true, false]), []⟩,
  ⟨some [true, false, false], none, .arith .lss (.t [true, true, true]) (.t [false, true, false]), []⟩]) a29_6
def a29_5 : ACode := a29_5b
def a29_4b : ACode := .seq a29_5 a29_7
def a29_4 : ACode := a29_4b
def a29_3b : ACode := .loop a29_4
def a29_3 : ACode := a29_3b
def a29_2b : ACode := .block 0 a29_3
def a29_2 : ACode := a29_2b
def a29_1b : ACode := .seq (.ops [
  ⟨some [false, true], none, .mv (.c (.int .i64 (.ofNat 0))), []⟩]) a29_2
def a29_1 : ACode := a29_1b
def a29_0b : ACode := .seq a29_1 a29_17
def a29_0 : ACode := a29_0b
def a29 : AFunc := { body := a29_0, res := [] }
theorem c29 : a29.body = a29_0 ∧
  a29.res = [] ∧
  Unf a29_0 a29_0b ∧
  Unf a29_1 a29_1b ∧
  Unf a29_2 a29_2b ∧
  Unf a29_3 a29_3b ∧
  Unf a29_4 a29_4b ∧
  Unf a29_5 a29_5b ∧
  Unf a29_6 a29_6b ∧
  Unf a29_7 a29_7b ∧
  Unf a29_8 a29_8b ∧
  Unf a29_9 a29_9b ∧
  Unf a29_10 a29_10b ∧
  Unf a29_11 a29_11b ∧
  Unf a29_12 a29_12b ∧
  Unf a29_13 a29_13b ∧
  Unf a29_14 a29_14b ∧
  Unf a29_15 a29_15b ∧
  Unf a29_16 a29_16b ∧
  Unf a29_17 a29_17b ∧
  Unf a29_18 a29_18b ∧
  Unf a29_19 a29_19b :=
  ⟨rfl, rfl, Unf.of rfl, Unf.of rfl, Unf.of rfl, Unf.of rfl, Unf.of rfl, Unf.of rfl, Unf.of rfl, Unf.of rfl, Unf.of rfl, Unf.of rfl, Unf.of rfl, Unf.of rfl, Unf.of rfl, Unf.of rfl, Unf.of rfl, Unf.of rfl, Unf.of rfl, Unf.of rfl, Unf.of rfl, Unf.of rfl⟩
def a30_19b : ACode := .seq (.ops [
  ⟨some [false, false], none, .mv (.c (.int .i64 (.ofNat 0))), []⟩]) .ret
def a30_19 : ACode := a30_19b
def a30_18b : ACode := .ops [
  ⟨some [false, false, true, true, false], none, .mv (.t [true, true, true]), []⟩,
  ⟨some [true, true, false, true, false], none, .arith .add (.t [false, false, true, true, false]) (.c (.int .i64 (.ofNat 1))), []⟩,
  ⟨some [true, true, true], none, .mv (.t [true, true, false, true, false]), []⟩]
def a30_18 : ACode := a30_18b
def a30_17b : ACode := .ops [
  ⟨some [false, false, false, false, false], none, .mv (.t []), []⟩,
  ⟨some [true, true, true, true, true, true], none, .nilCheck (.t [false, false, false, false, false]), []⟩,
  ⟨some [false, true, true, true, true, true], none, .fieldAddr 1 (.t [true, true, true, true, true, true]), []⟩,
  ⟨some [true, false, true, true, true, true], none, .load false 1 (.t [false, true, true, true, true, true]), []⟩,
  ⟨some [false, false, true, true, true, true], none, .mv (.t [true, true, true]), []⟩,
  ⟨some [true, true, false, true, true, true], none, .mv (.t []), []⟩,
  ⟨some [false, true, false, true, true, true], none, .nilCheck (.t [true, true, false, true, true, true]), []⟩,
  ⟨some [true, false, false, true, true, true], none, .fieldAddr 1 (.t [false, true, false, true, true, true]), []⟩,
  ⟨some [false, false, false, true, true, true], none, .load false 1 (.t [true, false, false, true, true, true]), []⟩,
  ⟨some [true, true, true, false, true, true], none, .mv (.t [true, true, true]), []⟩,
  ⟨some [false, true, true, false, true, true], none, .indexAddrS 2 (.t [false, false, false, true, true, true]) (.t [true, true, true, false, true, true]), []⟩,
  ⟨some [true, false, true, false, true, true], none, .fieldAddr 1 (.t [false, true, true, false, true, true]), []⟩,
  ⟨some [false, false, true, false, true, true], none, .load false 1 (.t [true, false, true, false, true, true]), []⟩,
  ⟨some [true, true, false, false, true, true], none, .mv (.t [false]), []⟩,
  ⟨some [false, true, false, false, true, true], none, .sliceStr (.t [false, false, true, false, true, true]) none (some (.t [true, true, false, false, true, true])), []⟩,
  ⟨some [true, false, false, false, true, true], none, .call 31 [.t [false, true, false, false, true, true]], [(none, [true, false, true, true, true, true], .load false 1 (.t [false, true, true, true, true, true]))]⟩,
  ⟨some [false, false, false, false, true, true], none, .indexAddrS 2 (.t [true, false, true, true, true, true]) (.t [false, false, true, true, true, true]), []⟩,
  ⟨some [true, true, true, true, false, true], none, .fieldAddr 1 (.t [false, false, false, false, true, true]), []⟩,
  ⟨none, none, .store 1 (.t [true, true, true, true, false, true]) (.t [true, false, false, false, true, true]), []⟩]
def a30_17 : ACode := a30_17b
def a30_16b : ACode := .cond (.t [true, false, false, false, false]) a30_17 .skip
def a30_16 : ACode := a30_16b
def a30_15b : ACode := .seq (.ops [
  ⟨some [false, true, false, true, false], none, .mv (.t []), []⟩,
  ⟨some [true, false, false, true, false], none, .nilCheck (.t [false, true, false, true, false]), []⟩,
  ⟨some [false, false, false, true, false], none, .fieldAddr 1 (.t [true, false, false, true, false]), []⟩,
  ⟨some [true, true, true, false, false], none, .load false 1 (.t [false, false, false, true, false]), []⟩,
  ⟨some [false, true, true, false, false], none, .mv (.t [true, true, true]), []⟩,
  ⟨some [true, false, true, false, false], none, .indexAddrS 2 (.t [true, true, true, false, false]) (.t [false, true, true, false, false]), []⟩,
  ⟨some [false, false, true, false, false], none, .fieldAddr 0 (.t [true, false, true, false, false]), []⟩,
  ⟨some [true, true, false, false, false], none, .load false 1 (.t [false, false, true, false, false]), []⟩,
  ⟨some [false, true, false, false, false], none, .mv (.t [true]), []⟩,
  ⟨some [true, false, false, false, false], none, .eqs false .int (.t [true, true, false, false, false]) (.t [false, true, false, false, false]), []⟩]) a30_16
def a30_15 : ACode := a30_15b
def a30_14b : ACode := .block 1 a30_15
def a30_14 : ACode := a30_14b
def a30_13b : ACode := .seq a30_14 a30_18
def a30_13 : ACode := a30_13b
def a30_12b : ACode := .cond (.t [true, false, true, true, false]) .skip (.exit 0)
def a30_12 : ACode := a30_12b
def a30_11b : ACode := .seq (.ops [
  ⟨some [true, true, false, false, true], none, .mv (.t [true, true, true]), []⟩,
  ⟨some [false, true, false, false, true], none, .mv (.t []), []⟩,
  ⟨some [true, false, false, false, true], none, .nilCheck (.t [false, true, false, false, true]), []⟩,
  ⟨some [false, false, false, false, true], none, .fieldAddr 1 (.t [true, false, false, false, true]), []⟩,
  ⟨some [true, true, true, true, false], none, .load false 1 (.t [false, false, false, false, true]), []⟩,
  ⟨some [false, true, true, true, false], none, .len (.t [true, true, true, true, false]), []⟩,
  ⟨some [true, false, true, true, false], none, .arith .lss (.t [true, true, false, false, true]) (.t [false, true, true, true, false]), []⟩]) a30_12
def a30_11 : ACode := a30_11b
def a30_10b : ACode := .seq a30_11 a30_13
def a30_10 : ACode := a30_10b
def a30_9b : ACode := .loop a30_10
def a30_9 : ACode := a30_9b
def a30_8b : ACode := .block 0 a30_9
def a30_8 : ACode := a30_8b
def a30_7b : ACode := .seq (.ops [
  ⟨some [true, true, true], none, .mv (.c (.int .i64 (.ofNat 0))), []⟩]) a30_8
def a30_7 : ACode := a30_7b
def a30_6b : ACode := .seq a30_7 a30_19
def a30_6 : ACode := a30_6b
def a30_5b : ACode := .seq (.ops [
  ⟨some [true, true, false, false], none, .mv (.t []), []⟩,
  ⟨some [false, true, false, false], none, .nilCheck (.t [true, true, false, false]), []⟩,
  ⟨some [true, false, false, false], none, .fieldAddr 0 (.t [false, true, false, false]), []⟩,
  ⟨some [false, false, false, false], none, .load false 1 (.t [true, false, false, false]), []⟩,
  ⟨some [true, true, true, true, true], none, .mv (.t [true]), []⟩,
  ⟨some [false, true, true, true, true], none, .mv (.t []), []⟩,
  ⟨some [true, false, true, true, true], none, .nilCheck (.t [false, true, true, true, true]), []⟩,
  ⟨some [false, false, true, true, true], none, .fieldAddr 0 (.t [true, false, true, true, true]), []⟩,
  ⟨some [true, true, false, true, true], none, .load false 1 (.t [false, false, true, true, true]), []⟩,
  ⟨some [false, true, false, true, true], none, .mv (.t [true]), []⟩,
  ⟨some [true, false, false, true, true], none, .indexAddrS 1 (.t [true, true, false, true, true]) (.t [false, true, false, true, true]), []⟩,
  ⟨some [false, false, false, true, true], none, .load false 1 (.t [true, false, false, true, true]), []⟩,
  ⟨some [true, true, true, false, true], none, .mv (.t [false]), []⟩,
  ⟨some [false, true, true, false, true], none, .sliceStr (.t [false, false, false, true, true]) none (some (.t [true, true, true, false, true])), []⟩,
  ⟨some [true, false, true, false, true], none, .call 31 [.t [false, true, true, false, true]], [(none, [false, false, false, false], .load false 1 (.t [true, false, false, false]))]⟩,
  ⟨some [false, false, true, false, true], none, .indexAddrS 1 (.t [false, false, false, false]) (.t [true, true, true, true, true]), []⟩,
  ⟨none, none, .store 1 (.t [false, false, true, false, true]) (.t [true, false, true, false, true]), []⟩]) a30_6
def a30_5 : ACode := a30_5b
def a30_4b : ACode := .seq (.ops [
  ⟨some [false, false], none, .mv (.c (.int .i64 (.ofNat 1))), []⟩]) .ret
def a30_4 : ACode := a30_4b
def a30_3b : ACode := .cond (.t [false, false, true, false]) a30_4 .skip
def a30_3 : ACode := a30_3b
def a30_2b : ACode := .seq (.ops [
  ⟨some [false, true, true], none, .mv (.t [true]), []⟩,
  ⟨some [true, false, true], none, .arith .lss (.t [false, true, true]) (.c (.int .i64 (.ofNat 0))), []⟩,
  ⟨some [false, false, true], none, .mv (.t [true, false, true]), []⟩,
  ⟨some [true, true, false], some ([false, false, true], false), .mv (.t [true]), []⟩,
  ⟨some [false, true, false], some ([false, false, true], false), .mv (.t []), []⟩,
  ⟨some [true, false, false], some ([false, false, true], false), .nilCheck (.t [false, true, false]), []⟩,
  ⟨some [false, false, false], some ([false, false, true], false), .fieldAddr 0 (.t [true, false, false]), []⟩,
  ⟨some [true, true, true, true], some ([false, false, true], false), .load false 1 (.t [false, false, false]), []⟩,
  ⟨some [false, true, true, true], some ([false, false, true], false), .len (.t [true, true, true, true]), []⟩,
  ⟨some [true, false, true, true], some ([false, false, true], false), .arith .geq (.t [true, true, false]) (.t [false, true, true, true]), []⟩,
  ⟨some [false, false, true, true], none, .pick (.t [false, false, true]) (.c (.bool true)) (.t [true, false, true, true]), []⟩,
  ⟨some [true, true, false, true], none, .mv (.t [false, false, true, true]), []⟩,
  ⟨some [false, true, false, true], some ([true, true, false, true], false), .mv (.t [false]), []⟩,
  ⟨some [true, false, false, true], some ([true, true, false, true], false), .arith .lss (.t [false, true, false, true]) (.c (.int .i64 (.ofNat 0))), []⟩,
  ⟨some [false, false, false, true], none, .pick (.t [true, true, false, true]) (.c (.bool true)) (.t [true, false, false, true]), []⟩,
  ⟨some [true, true, true, false], none, .mv (.t [false, false, false, true]), []⟩,
  ⟨some [false, true, true, false], some ([true, true, true, false], false), .mv (.t [false]), []⟩,
  ⟨some [true, false, true, false], some ([true, true, true, false], false), .arith .gtr (.t [false, true, true, false]) (.c (.int .i64 (.ofNat 64))), []⟩,
  ⟨some [false, false, true, false], none, .pick (.t [true, true, true, false]) (.c (.bool true)) (.t [true, false, true, false]), []⟩]) a30_3
def a30_2 : ACode := a30_2b
def a30_1b : ACode := .seq a30_2 a30_5
def a30_1 : ACode := a30_1b
def a30_0b : ACode := .seq (.ops [
  ⟨some [false, false], none, .mv (.c (.int .i64 (.ofNat 0))), []⟩]) a30_1
def a30_0 : ACode := a30_0b
def a30 : AFunc := { body := a30_0, res := [([false, false], none)] }
theorem c30 : a30.body = a30_0 ∧
  a30.res = [([false, false], none)] ∧
  Unf a30_0 a30_0b ∧
  Unf a30_1 a30_1b ∧
  Unf a30_2 a30_2b ∧
  Unf a30_3 a30_3b ∧
  Unf a30_4 a30_4b ∧
  Unf a30_5 a30_5b ∧
  Unf a30_6 a30_6b ∧
  Unf a30_7 a30_7b ∧
  Unf a30_8 a30_8b ∧
  Unf a30_9 a30_9b ∧
  Unf a30_10 a30_10b ∧
  Unf a30_11 a30_11b ∧
  Unf a30_12 a30_12b ∧
  Unf a30_13 a30_13b ∧
  Unf a30_14 a30_14b ∧
  Unf a30_15 a30_15b ∧
  Unf a30_16 a30_16b ∧
  Unf a30_17 a30_17b ∧
  Unf a30_18 a30_18b ∧
  Unf a30_19 a30_19b :=
  ⟨rfl, rfl, Unf.of rfl, Unf.of rfl, Unf.of rfl, Unf.of rfl, Unf.of rfl, Unf.of rfl, Unf.of rfl, Unf.of rfl, Unf.of rfl, Unf.of rfl, Unf.of rfl, Unf.of rfl, Unf.of rfl, Unf.of rfl, Unf.of rfl, Unf.of rfl, Unf.of rfl, Unf.of rfl, Unf.of rfl, Unf.of rfl⟩
def a31_9b : ACode := .seq (.ops [
  ⟨some [false, true, true], none, .mv (.t []), []⟩,
  ⟨some [false], none, .mv (.t [false, true, true]), []⟩]) .ret
def a31_9 : ACode := a31_9b
def a31_8b : ACode := .ops [
  ⟨some [false, false], none, .mv (.t []), []⟩,
  ⟨some [true, true, true], none, .arith .add (.t [false, false]) (.c (.str [0])), []⟩,
  ⟨some [], none, .mv (.t [true, true, true]), []⟩]
def a31_8 : ACode := a31_8b
def a31_7b : ACode := .block 1 a31_8
def a31_7 : ACode := a31_7b
def a31_6b : ACode := .cond (.t [true, false]) .skip (.exit 0)
def a31_6 : ACode := a31_6b
def a31_5b : ACode := .seq (.ops [
  ⟨some [true, true], none, .mv (.t []), []⟩,
  ⟨some [false, true], none, .lenStr (.t [true, true]), []⟩,
  ⟨some [true, false], none, .arith .lss (.t [false, true]) (.c (.int .i64 (.ofNat 64))), []⟩]) a31_6
def a31_5 : ACode := a31_5b
def a31_4b : ACode := .seq a31_5 a31_7
def a31_4 : ACode := a31_4b
def a31_3b : ACode := .loop a31_4
def a31_3 : ACode := a31_3b
def a31_2b : ACode := .block 0 a31_3
def a31_2 : ACode := a31_2b
def a31_1b : ACode := .seq a31_2 a31_9
def a31_1 : ACode := a31_1b
def a31_0b : ACode := .seq (.ops [
  ⟨some [false], none, .mv (.c (.str [])), []⟩]) a31_1
def a31_0 : ACode := a31_0b
def a31 : AFunc := { body := a31_0, res := [([false], none)] }
theorem c31 : a31.body = a31_0 ∧
  a31.res = [([false], none)] ∧
  Unf a31_0 a31_0b ∧
  Unf a31_1 a31_1b ∧
  Unf a31_2 a31_2b ∧
  Unf a31_3 a31_3b ∧
  Unf a31_4 a31_4b ∧
  Unf a31_5 a31_5b ∧
  Unf a31_6 a31_6b ∧
  Unf a31_7 a31_7b ∧
  Unf a31_8 a31_8b ∧
  Unf a31_9 a31_9b :=
  ⟨rfl, rfl, Unf.of rfl, Unf.of rfl, Unf.of rfl, Unf.of rfl, Unf.of rfl, Unf.of rfl, Unf.of rfl, Unf.of rfl, Unf.of rfl, Unf.of rfl⟩
def a32_10b : ACode := .seq (.ops [
  ⟨some [false], none, .mv (.c (.bool true)), []⟩]) .ret
def a32_10 : ACode := a32_10b
def a32_9b : ACode := .ops [
  ⟨some [false, true, true, true], none, .mv (.t []), []⟩,
  ⟨some [true, false, true, true], none, .mv (.t []), []⟩,
  ⟨some [false, false, true, true], none, .nilCheck (.t [true, false, true, true]), []⟩,
  ⟨some [true, true, false, true], none, .fieldAddr 2 (.t [false, false, true, true]), []⟩,
  ⟨some [false, true, false, true], none, .load false 1 (.t [true, true, false, true]), []⟩,
  ⟨some [true, false, false, true], none, .arith .sub (.t [false, true, false, true]) (.c (.int .i64 (.ofNat 1))), []⟩,
  ⟨some [false, false, false, true], none, .nilCheck (.t [false, true, true, true]), []⟩,
  ⟨some [true, true, true, false], none, .fieldAddr 2 (.t [false, false, false, true]), []⟩,
  ⟨none, none, .store 1 (.t [true, true, true, false]) (.t [true, false, false, true]), []⟩]
def a32_9 : ACode := a32_9b
def a32_8b : ACode := .cond (.t [true, true, true, true]) a32_9 .skip
def a32_8 : ACode := a32_8b
def a32_7b : ACode := .seq (.ops [
  ⟨some [true, true, false], none, .mv (.t []), []⟩,
  ⟨some [false, true, false], none, .nilCheck (.t [true, true, false]), []⟩,
  ⟨some [true, false, false], none, .fieldAddr 2 (.t [false, true, false]), []⟩,
  ⟨some [false, false, false], none, .load false 1 (.t [true, false, false]), []⟩,
  ⟨some [true, true, true, true], none, .arith .gtr (.t [false, false, false]) (.c (.int .i64 (.ofNat 0))), []⟩]) a32_8
def a32_7 : ACode := a32_7b
def a32_6b : ACode := .seq a32_7 a32_10
def a32_6 : ACode := a32_6b
def a32_5b : ACode := .seq (.ops [
  ⟨some [false], none, .mv (.c (.bool false)), []⟩]) .ret
def a32_5 : ACode := a32_5b
def a32_4b : ACode := .seq (.ops [
  ⟨some [false, true, true], none, .mv (.t []), []⟩,
  ⟨some [true, false, true], none, .nilCheck (.t [false, true, true]), []⟩,
  ⟨some [false, false, true], none, .fieldAddr 3 (.t [true, false, true]), []⟩,
  ⟨none, none, .store 1 (.t [false, false, true]) (.c (.bool true)), []⟩]) a32_5
def a32_4 : ACode := a32_4b
def a32_3b : ACode := .cond (.t [true, true, true]) a32_4 .skip
def a32_3 : ACode := a32_3b
def a32_2b : ACode := .seq (.ops [
  ⟨some [true, true], none, .mv (.t []), []⟩,
  ⟨some [false, true], none, .nilCheck (.t [true, true]), []⟩,
  ⟨some [true, false], none, .fieldAddr 2 (.t [false, true]), []⟩,
  ⟨some [false, false], none, .load false 1 (.t [true, false]), []⟩,
  ⟨some [true, true, true], none, .eqs false .int (.t [false, false]) (.c (.int .i64 (.ofNat 0))), []⟩]) a32_3
def a32_2 : ACode := a32_2b
def a32_1b : ACode := .seq a32_2 a32_6
def a32_1 : ACode := a32_1b
def a32_0b : ACode := .seq (.ops [
  ⟨some [false], none, .mv (.c (.bool false)), []⟩]) a32_1
def a32_0 : ACode := a32_0b
def a32 : AFunc := { body := a32_0, res := [([false], none)] }
theorem c32 : a32.body = a32_0 ∧
  a32.res = [([false], none)] ∧
  Unf a32_0 a32_0b ∧
  Unf a32_1 a32_1b ∧
  Unf a32_2 a32_2b ∧
  Unf a32_3 a32_3b ∧
  Unf a32_4 a32_4b ∧
  Unf a32_5 a32_5b ∧
  Unf a32_6 a32_6b ∧
  Unf a32_7 a32_7b ∧
  Unf a32_8 a32_8b ∧
  Unf a32_9 a32_9b ∧
  Unf a32_10 a32_10b :=
  ⟨rfl, rfl, Unf.of rfl, Unf.of rfl, Unf.of rfl, Unf.of rfl, Unf.of rfl, Unf.of rfl, Unf.of rfl, Unf.of rfl, Unf.of rfl, Unf.of rfl, Unf.of rfl⟩
def x5 : AFunc := { body := .skip, res := [], ext := some (constF (.bool true)) }
def G0 (f : Nat) : Option AFunc := cond (Nat.blt f 18) (cond (Nat.blt f 10) (cond (Nat.blt f 6) (cond (Nat.blt f 4) (cond (Nat.beq f 3) (some a3) none) (cond (Nat.blt f 5) (cond (Nat.beq f 4) (some a4) none) (cond (Nat.beq f 5) (some a5) none))) (cond (Nat.blt f 8) (cond (Nat.blt f 7) (cond (Nat.beq f 6) (some a6) none) (cond (Nat.beq f 7) (some a7) none)) (cond (Nat.blt f 9) (cond (Nat.beq f 8) (some a8) none) (cond (Nat.beq f 9) (some a9) none)))) (cond (Nat.blt f 14) (cond (Nat.blt f 12) (cond (Nat.blt f 11) (cond (Nat.beq f 10) (some a10) none) (cond (Nat.beq f 11) (some a11) none)) (cond (Nat.blt f 13) (cond (Nat.beq f 12) (some a12) none) (cond (Nat.beq f 13) (some a13) none))) (cond (Nat.blt f 16) (cond (Nat.blt f 15) (cond (Nat.beq f 14) (some a14) none) (cond (Nat.beq f 15) (some a15) none)) (cond (Nat.blt f 17) (cond (Nat.beq f 16) (some a16) none) (cond (Nat.beq f 17) (some a17) none))))) (cond (Nat.blt f 25) (cond (Nat.blt f 21) (cond (Nat.blt f 19) (cond (Nat.beq f 18) (some a18) none) (cond (Nat.blt f 20) (cond (Nat.beq f 19) (some a19) none) (cond (Nat.beq f 20) (some a20) none))) (cond (Nat.blt f 23) (cond (Nat.blt f 22) (cond (Nat.beq f 21) (some a21) none) (cond (Nat.beq f 22) (some a22) none)) (cond (Nat.blt f 24) (cond (Nat.beq f 23) (some a23) none) (cond (Nat.beq f 24) (some a24) none)))) (cond (Nat.blt f 29) (cond (Nat.blt f 27) (cond (Nat.blt f 26) (cond (Nat.beq f 25) (some a25) none) (cond (Nat.beq f 26) (some a26) none)) (cond (Nat.blt f 28) (cond (Nat.beq f 27) (some a27) none) (cond (Nat.beq f 28) (some a28) none))) (cond (Nat.blt f 31) (cond (Nat.blt f 30) (cond (Nat.beq f 29) (some a29) none) (cond (Nat.beq f 30) (some a30) none)) (cond (Nat.blt f 32) (cond (Nat.beq f 31) (some a31) none) (cond (Nat.beq f 32) (some a32) none)))))
def G (f : Nat) : Option AFunc := cond (Nat.blt f 18) (cond (Nat.blt f 10) (cond (Nat.blt f 6) (cond (Nat.blt f 4) (cond (Nat.beq f 3) (some a3) none) (cond (Nat.blt f 5) (cond (Nat.beq f 4) (some a4) none) (cond (Nat.beq f 5) (some x5) none))) (cond (Nat.blt f 8) (cond (Nat.blt f 7) (cond (Nat.beq f 6) (some a6) none) (cond (Nat.beq f 7) (some a7) none)) (cond (Nat.blt f 9) (cond (Nat.beq f 8) (some a8) none) (cond (Nat.beq f 9) (some a9) none)))) (cond (Nat.blt f 14) (cond (Nat.blt f 12) (cond (Nat.blt f 11) (cond (Nat.beq f 10) (some a10) none) (cond (Nat.beq f 11) (some a11) none)) (cond (Nat.blt f 13) (cond (Nat.beq f 12) (some a12) none) (cond (Nat.beq f 13) (some a13) none))) (cond (Nat.blt f 16) (cond (Nat.blt f 15) (cond (Nat.beq f 14) (some a14) none) (cond (Nat.beq f 15) (some a15) none)) (cond (Nat.blt f 17) (cond (Nat.beq f 16) (some a16) none) (cond (Nat.beq f 17) (some a17) none))))) (cond (Nat.blt f 25) (cond (Nat.blt f 21) (cond (Nat.blt f 19) (cond (Nat.beq f 18) (some a18) none) (cond (Nat.blt f 20) (cond (Nat.beq f 19) (some a19) none) (cond (Nat.beq f 20) (some a20) none))) (cond (Nat.blt f 23) (cond (Nat.blt f 22) (cond (Nat.beq f 21) (some a21) none) (cond (Nat.beq f 22) (some a22) none)) (cond (Nat.blt f 24) (cond (Nat.beq f 23) (some a23) none) (cond (Nat.beq f 24) (some a24) none)))) (cond (Nat.blt f 29) (cond (Nat.blt f 27) (cond (Nat.blt f 26) (cond (Nat.beq f 25) (some a25) none) (cond (Nat.beq f 26) (some a26) none)) (cond (Nat.blt f 28) (cond (Nat.beq f 27) (some a27) none) (cond (Nat.beq f 28) (some a28) none))) (cond (Nat.blt f 31) (cond (Nat.blt f 30) (cond (Nat.beq f 29) (some a29) none) (cond (Nat.beq f 30) (some a30) none)) (cond (Nat.blt f 32) (cond (Nat.beq f 31) (some a31) none) (cond (Nat.beq f 32) (some a32) none)))))
end Go.Proofs.Ytohjmflbgohkhaa.E
