/-
  The abstract code of the program's functions: written by a program, and compared by the kernel with what the model's code comes to.
-/
import Derived.Test.YtpiafiapjmldgaaCode
import Derived.Test.YtpiafiapjmldgaaProg
import Derived.KernelRfl
namespace Go.Proofs.Ytpiafiapjmldgaa
set_option maxRecDepth 100000
set_option linter.all false
def fn_main_main : Nat := 0
def fn_gosem_cut : Nat := 1
def fn_gosem_cut_init : Nat := 2
def fn_laws_FnExactFindingsParse : Nat := 3
def fn_laws_FnFindingsTwice : Nat := 4
def fn_laws_FnFindingsCut : Nat := 5
def fn_spec_FindingsParse : Nat := 6
def fn_impl_FindingsParse : Nat := 7
def fn_laws_eqFindingS : Nat := 8
def fn_laws_markFindingS : Nat := 9
def fn_laws_heldFindingS : Nat := 10
def fn_spec_DrawFindingsParse : Nat := 11
def fn_laws_sameFound : Nat := 12
def fn_laws_lines : Nat := 13
def fn_spec_l42Cut : Nat := 14
def fn_spec_l42Number : Nat := 15
def fn_spec_l42Valid : Nat := 16
def fn_strings_Cut : Nat := 17
def fn_impl_smallNumber : Nat := 18
def fn_impl_foundOk : Nat := 19
def fn_laws_eqFinding : Nat := 20
def fn_spec_l6Open : Nat := 21
def fn_spec_FindingsText : Nat := 22
def fn_spec_l92Found : Nat := 23
def fn_spec_l6Rd_pick : Nat := 24
def fn_spec_l6Rd_of : Nat := 25
def fn_spec_l91Spoil : Nat := 26
def fn_spec_l6In : Nat := 27
def fn_spec_l32Finding : Nat := 28
def fn_spec_l32Less : Nat := 29
def fn_internal_stringslite_Cut : Nat := 30
def fn_spec_l42Text : Nat := 31
def fn_internal_stringslite_Index : Nat := 32
def fn_spec_l6Dec : Nat := 33
def fn_internal_stringslite_IndexByte : Nat := 34
def fn_internal_bytealg_IndexString : Nat := 35
def fn_internal_bytealg_Cutover : Nat := 36
def fn_internal_bytealg_IndexRabinKarp_string_ : Nat := 37
def fn_internal_bytealg_IndexByteString : Nat := 38
def fn_internal_bytealg_hashStr_string_ : Nat := 39
def ac_laws_FnExactFindingsParse : AF := ⟨[0, 2, 3, 4, 5, 6, 7, 8, 9, 10, 13, 32, 40, 43, 57, 62, 65], [.t 2],
  .seq (.region [⟨(.g 2), .mv (.c (.bool false)), none⟩])
  (.seq (.seq (.region [⟨(.l 11), .mv (.g 0), none⟩, ⟨(.l 12), .lenStr (.l 11), none⟩, ⟨(.g 13), .bin .gtr (.l 12) (.c (.int .i64 1048576)), none⟩])
  (.cond (.g 13) (.seq (.region [⟨(.g 2), .mv (.c (.bool true)), none⟩])
   (.ret))
  (.skip)))
  (.seq (.region [⟨(.l 15), .mv (.g 0), none⟩, ⟨(.l 16), .call fn_spec_FindingsParse [(.l 15)], none⟩, ⟨(.l 14), .mv (.l 16), none⟩, ⟨(.l 17), .extract (.l 14) 0, none⟩, ⟨(.l 18), .extract (.l 14) 1, none⟩, ⟨(.g 3), .mv (.l 17), none⟩, ⟨(.g 4), .mv (.l 18), none⟩])
  (.seq (.region [⟨(.l 20), .mv (.g 0), none⟩, ⟨(.l 21), .call fn_impl_FindingsParse [(.l 20)], none⟩, ⟨(.l 19), .mv (.l 21), none⟩, ⟨(.l 22), .extract (.l 19) 0, none⟩, ⟨(.l 23), .extract (.l 19) 1, none⟩, ⟨(.g 5), .mv (.l 22), none⟩, ⟨(.g 6), .mv (.l 23), none⟩])
  (.seq (.seq (.region [⟨(.l 24), .mv (.g 5), none⟩, ⟨(.l 25), .mv (.g 3), none⟩, ⟨(.l 26), .call fn_laws_eqFindingS [(.l 24), (.l 25)], none⟩, ⟨(.l 27), .un .not (.l 26), none⟩, ⟨(.l 28), .mv (.l 27), none⟩, ⟨(.l 29), .mv (.g 6), (some ((.l 28), false))⟩, ⟨(.l 30), .mv (.g 4), (some ((.l 28), false))⟩, ⟨(.l 31), .beq true (.l 29) (.l 30), (some ((.l 28), false))⟩, ⟨(.g 32), .pick (.l 28) (.c (.bool true)) (.l 31), none⟩])
  (.cond (.g 32) (.seq (.region [⟨(.g 2), .mv (.c (.bool false)), none⟩])
   (.ret))
  (.skip)))
  (.seq (.region [⟨(.g 7), .mv (.c (.int .i64 1)), none⟩])
  (.seq (.region [⟨(.l 33), .mv (.g 5), none⟩, ⟨(.l 34), .mv (.g 7), none⟩, ⟨(.l 35), .call fn_laws_markFindingS [(.l 33), (.l 34)], none⟩, ⟨(.g 7), .mv (.l 35), none⟩])
  (.seq (.region [⟨(.g 8), .mv (.c (.int .i64 1)), none⟩])
  (.seq (.region [⟨(.l 36), .mv (.g 5), none⟩, ⟨(.l 37), .mv (.g 8), none⟩, ⟨(.l 38), .call fn_laws_heldFindingS [(.l 36), (.l 37)], none⟩, ⟨(.g 8), .mv (.l 38), none⟩])
  (.seq (.seq (.region [⟨(.l 39), .mv (.g 8), none⟩, ⟨(.g 40), .bin .lss (.l 39) (.c (.int .i64 0)), none⟩])
  (.cond (.g 40) (.seq (.region [⟨(.g 2), .mv (.c (.bool false)), none⟩])
   (.ret))
  (.skip)))
  (.seq (.seq (.region [⟨(.l 41), .mv (.g 8), none⟩, ⟨(.l 42), .mv (.g 7), none⟩, ⟨(.g 43), .bin .neq (.l 41) (.l 42), none⟩])
  (.cond (.g 43) (.seq (.region [⟨(.g 2), .mv (.c (.bool false)), none⟩])
   (.ret))
  (.skip)))
  (.seq (.region [⟨(.l 45), .mv (.g 0), none⟩, ⟨(.l 46), .call fn_impl_FindingsParse [(.l 45)], none⟩, ⟨(.l 44), .mv (.l 46), none⟩, ⟨(.l 47), .extract (.l 44) 0, none⟩, ⟨(.l 48), .extract (.l 44) 1, none⟩, ⟨(.g 9), .mv (.l 47), none⟩, ⟨(.g 10), .mv (.l 48), none⟩])
  (.seq (.seq (.region [⟨(.l 49), .mv (.g 9), none⟩, ⟨(.l 50), .mv (.g 3), none⟩, ⟨(.l 51), .call fn_laws_eqFindingS [(.l 49), (.l 50)], none⟩, ⟨(.l 52), .un .not (.l 51), none⟩, ⟨(.l 53), .mv (.l 52), none⟩, ⟨(.l 54), .mv (.g 10), (some ((.l 53), false))⟩, ⟨(.l 55), .mv (.g 4), (some ((.l 53), false))⟩, ⟨(.l 56), .beq true (.l 54) (.l 55), (some ((.l 53), false))⟩, ⟨(.g 57), .pick (.l 53) (.c (.bool true)) (.l 56), none⟩])
  (.cond (.g 57) (.seq (.region [⟨(.g 2), .mv (.c (.bool false)), none⟩])
   (.ret))
  (.skip)))
  (.seq (.region [⟨(.g 8), .mv (.c (.int .i64 1)), none⟩])
  (.seq (.region [⟨(.l 58), .mv (.g 5), none⟩, ⟨(.l 59), .mv (.g 8), none⟩, ⟨(.l 60), .call fn_laws_heldFindingS [(.l 58), (.l 59)], none⟩, ⟨(.g 8), .mv (.l 60), none⟩])
  (.seq (.seq (.region [⟨(.l 61), .mv (.g 8), none⟩, ⟨(.g 62), .bin .lss (.l 61) (.c (.int .i64 0)), none⟩])
  (.cond (.g 62) (.seq (.region [⟨(.g 2), .mv (.c (.bool false)), none⟩])
   (.ret))
  (.skip)))
  (.seq (.seq (.region [⟨(.l 63), .mv (.g 8), none⟩, ⟨(.l 64), .mv (.g 7), none⟩, ⟨(.g 65), .bin .neq (.l 63) (.l 64), none⟩])
  (.cond (.g 65) (.seq (.region [⟨(.g 2), .mv (.c (.bool false)), none⟩])
   (.ret))
  (.skip)))
  (.seq (.region [⟨(.g 2), .mv (.c (.bool true)), none⟩])
  (.ret))))))))))))))))))⟩
theorem ln_laws_FnExactFindingsParse : Linked Try.prog fn_laws_FnExactFindingsParse ac_laws_FnExactFindingsParse := ⟨Try.f3, _, Try.func3, rfl, by kernel_rfl, by kernel_rfl, by kernel_rfl, by kernel_rfl⟩
def ac_laws_FnFindingsTwice : AF := ⟨[0, 2, 3, 4, 5, 6, 7, 9, 12, 41], [.t 2],
  .seq (.region [⟨(.g 2), .mv (.c (.bool false)), none⟩])
  (.seq (.seq (.region [⟨(.l 10), .mv (.g 0), none⟩, ⟨(.l 11), .len (.l 10), none⟩, ⟨(.g 12), .bin .gtr (.l 11) (.c (.int .i64 1048576)), none⟩])
  (.cond (.g 12) (.seq (.region [⟨(.g 2), .mv (.c (.bool true)), none⟩])
   (.ret))
  (.skip)))
  (.seq (.region [⟨(.l 13), .mv (.g 0), none⟩, ⟨(.l 14), .call fn_spec_DrawFindingsParse [(.l 13)], none⟩, ⟨(.g 3), .mv (.l 14), none⟩])
  (.seq (.region [⟨(.l 16), .mv (.g 3), none⟩, ⟨(.l 17), .call fn_impl_FindingsParse [(.l 16)], none⟩, ⟨(.l 15), .mv (.l 17), none⟩, ⟨(.l 18), .extract (.l 15) 0, none⟩, ⟨(.l 19), .extract (.l 15) 1, none⟩, ⟨(.g 4), .mv (.l 18), none⟩, ⟨(.g 5), .mv (.l 19), none⟩])
  (.seq (.region [⟨(.l 21), .mv (.g 3), none⟩, ⟨(.l 22), .call fn_spec_FindingsParse [(.l 21)], none⟩, ⟨(.l 20), .mv (.l 22), none⟩, ⟨(.l 23), .extract (.l 20) 0, none⟩, ⟨(.l 24), .extract (.l 20) 1, none⟩, ⟨(.g 6), .mv (.l 23), none⟩, ⟨(.g 7), .mv (.l 24), none⟩])
  (.seq (.seq (.region [⟨(.l 25), .mv (.g 5), none⟩, ⟨(.l 26), .mv (.g 7), none⟩, ⟨(.l 27), .beq true (.l 25) (.l 26), none⟩, ⟨(.l 28), .mv (.l 27), none⟩, ⟨(.l 29), .mv (.g 4), (some ((.l 28), false))⟩, ⟨(.l 30), .mv (.g 6), (some ((.l 28), false))⟩, ⟨(.l 31), .call fn_laws_sameFound [(.l 29), (.l 30)], (some ((.l 28), false))⟩, ⟨(.l 32), .un .not (.l 31), (some ((.l 28), false))⟩, ⟨(.l 33), .pick (.l 28) (.c (.bool true)) (.l 32), none⟩, ⟨(.l 34), .mv (.l 33), none⟩, ⟨(.l 35), .mv (.g 5), (some ((.l 34), false))⟩, ⟨(.l 36), .un .not (.l 35), (some ((.l 34), false))⟩, ⟨(.l 37), .pick (.l 34) (.c (.bool true)) (.l 36), none⟩, ⟨(.l 38), .mv (.l 37), none⟩, ⟨(.l 39), .mv (.g 3), (some ((.l 38), false))⟩, ⟨(.l 40), .bin .eql (.l 39) (.c (.str [])), (some ((.l 38), false))⟩, ⟨(.g 41), .pick (.l 38) (.c (.bool true)) (.l 40), none⟩])
  (.cond (.g 41) (.seq (.region [⟨(.l 42), .mv (.g 5), none⟩, ⟨(.l 43), .mv (.g 7), none⟩, ⟨(.l 44), .beq false (.l 42) (.l 43), none⟩, ⟨(.l 45), .mv (.l 44), none⟩, ⟨(.l 46), .mv (.g 4), (some ((.l 45), true))⟩, ⟨(.l 47), .mv (.g 6), (some ((.l 45), true))⟩, ⟨(.l 48), .call fn_laws_sameFound [(.l 46), (.l 47)], (some ((.l 45), true))⟩, ⟨(.l 49), .pick (.l 45) (.l 48) (.c (.bool false)), none⟩, ⟨(.g 2), .mv (.l 49), none⟩])
   (.ret))
  (.skip)))
  (.seq (.region [⟨(.l 51), .mv (.g 3), none⟩, ⟨(.l 52), .mv (.g 3), none⟩, ⟨(.l 53), .bin .add (.l 51) (.l 52), none⟩, ⟨(.l 54), .call fn_impl_FindingsParse [(.l 53)], none⟩, ⟨(.l 50), .mv (.l 54), none⟩, ⟨(.l 55), .extract (.l 50) 0, none⟩, ⟨(.l 56), .extract (.l 50) 1, none⟩, ⟨(.l 8), .mv (.l 55), none⟩, ⟨(.g 9), .mv (.l 56), none⟩])
  (.seq (.region [⟨(.l 57), .mv (.g 9), none⟩, ⟨(.l 58), .un .not (.l 57), none⟩, ⟨(.g 2), .mv (.l 58), none⟩])
  (.ret))))))))⟩
theorem ln_laws_FnFindingsTwice : Linked Try.prog fn_laws_FnFindingsTwice ac_laws_FnFindingsTwice := ⟨Try.f4, _, Try.func4, rfl, by kernel_rfl, by kernel_rfl, by kernel_rfl, by kernel_rfl⟩
def ac_laws_FnFindingsCut : AF := ⟨[0, 2, 3, 4, 5, 6, 7, 9, 11, 14, 43], [.t 2],
  .seq (.region [⟨(.g 2), .mv (.c (.bool false)), none⟩])
  (.seq (.seq (.region [⟨(.l 12), .mv (.g 0), none⟩, ⟨(.l 13), .len (.l 12), none⟩, ⟨(.g 14), .bin .gtr (.l 13) (.c (.int .i64 1048576)), none⟩])
  (.cond (.g 14) (.seq (.region [⟨(.g 2), .mv (.c (.bool true)), none⟩])
   (.ret))
  (.skip)))
  (.seq (.region [⟨(.l 15), .mv (.g 0), none⟩, ⟨(.l 16), .call fn_spec_DrawFindingsParse [(.l 15)], none⟩, ⟨(.g 3), .mv (.l 16), none⟩])
  (.seq (.region [⟨(.l 18), .mv (.g 3), none⟩, ⟨(.l 19), .call fn_impl_FindingsParse [(.l 18)], none⟩, ⟨(.l 17), .mv (.l 19), none⟩, ⟨(.l 20), .extract (.l 17) 0, none⟩, ⟨(.l 21), .extract (.l 17) 1, none⟩, ⟨(.g 4), .mv (.l 20), none⟩, ⟨(.g 5), .mv (.l 21), none⟩])
  (.seq (.region [⟨(.l 23), .mv (.g 3), none⟩, ⟨(.l 24), .call fn_spec_FindingsParse [(.l 23)], none⟩, ⟨(.l 22), .mv (.l 24), none⟩, ⟨(.l 25), .extract (.l 22) 0, none⟩, ⟨(.l 26), .extract (.l 22) 1, none⟩, ⟨(.g 6), .mv (.l 25), none⟩, ⟨(.g 7), .mv (.l 26), none⟩])
  (.seq (.seq (.region [⟨(.l 27), .mv (.g 5), none⟩, ⟨(.l 28), .mv (.g 7), none⟩, ⟨(.l 29), .beq true (.l 27) (.l 28), none⟩, ⟨(.l 30), .mv (.l 29), none⟩, ⟨(.l 31), .mv (.g 4), (some ((.l 30), false))⟩, ⟨(.l 32), .mv (.g 6), (some ((.l 30), false))⟩, ⟨(.l 33), .call fn_laws_sameFound [(.l 31), (.l 32)], (some ((.l 30), false))⟩, ⟨(.l 34), .un .not (.l 33), (some ((.l 30), false))⟩, ⟨(.l 35), .pick (.l 30) (.c (.bool true)) (.l 34), none⟩, ⟨(.l 36), .mv (.l 35), none⟩, ⟨(.l 37), .mv (.g 5), (some ((.l 36), false))⟩, ⟨(.l 38), .un .not (.l 37), (some ((.l 36), false))⟩, ⟨(.l 39), .pick (.l 36) (.c (.bool true)) (.l 38), none⟩, ⟨(.l 40), .mv (.l 39), none⟩, ⟨(.l 41), .mv (.g 3), (some ((.l 40), false))⟩, ⟨(.l 42), .bin .eql (.l 41) (.c (.str [])), (some ((.l 40), false))⟩, ⟨(.g 43), .pick (.l 40) (.c (.bool true)) (.l 42), none⟩])
  (.cond (.g 43) (.seq (.region [⟨(.l 44), .mv (.g 5), none⟩, ⟨(.l 45), .mv (.g 7), none⟩, ⟨(.l 46), .beq false (.l 44) (.l 45), none⟩, ⟨(.l 47), .mv (.l 46), none⟩, ⟨(.l 48), .mv (.g 4), (some ((.l 47), true))⟩, ⟨(.l 49), .mv (.g 6), (some ((.l 47), true))⟩, ⟨(.l 50), .call fn_laws_sameFound [(.l 48), (.l 49)], (some ((.l 47), true))⟩, ⟨(.l 51), .pick (.l 47) (.l 50) (.c (.bool false)), none⟩, ⟨(.g 2), .mv (.l 51), none⟩])
   (.ret))
  (.skip)))
  (.seq (.region [⟨(.l 53), .mv (.g 3), none⟩, ⟨(.l 54), .mv (.g 3), none⟩, ⟨(.l 55), .lenStr (.l 54), none⟩, ⟨(.l 56), .bin .sub (.l 55) (.c (.int .i64 1)), none⟩, ⟨(.l 57), .cutStr (.l 53) none (some (.l 56)), none⟩, ⟨(.l 58), .call fn_impl_FindingsParse [(.l 57)], none⟩, ⟨(.l 52), .mv (.l 58), none⟩, ⟨(.l 59), .extract (.l 52) 0, none⟩, ⟨(.l 60), .extract (.l 52) 1, none⟩, ⟨(.l 8), .mv (.l 59), none⟩, ⟨(.g 9), .mv (.l 60), none⟩])
  (.seq (.region [⟨(.l 62), .mv (.g 3), none⟩, ⟨(.l 63), .bin .add (.c (.str [32])) (.l 62), none⟩, ⟨(.l 64), .call fn_impl_FindingsParse [(.l 63)], none⟩, ⟨(.l 61), .mv (.l 64), none⟩, ⟨(.l 65), .extract (.l 61) 0, none⟩, ⟨(.l 66), .extract (.l 61) 1, none⟩, ⟨(.l 10), .mv (.l 65), none⟩, ⟨(.g 11), .mv (.l 66), none⟩])
  (.seq (.region [⟨(.l 67), .mv (.g 9), none⟩, ⟨(.l 68), .un .not (.l 67), none⟩, ⟨(.l 69), .mv (.l 68), none⟩, ⟨(.l 70), .mv (.g 11), (some ((.l 69), true))⟩, ⟨(.l 71), .un .not (.l 70), (some ((.l 69), true))⟩, ⟨(.l 72), .pick (.l 69) (.l 71) (.c (.bool false)), none⟩, ⟨(.l 73), .mv (.l 72), none⟩, ⟨(.l 74), .mv (.g 3), (some ((.l 73), true))⟩, ⟨(.l 75), .call fn_laws_lines [(.l 74)], (some ((.l 73), true))⟩, ⟨(.l 76), .mv (.g 4), (some ((.l 73), true))⟩, ⟨(.l 77), .len (.l 76), (some ((.l 73), true))⟩, ⟨(.l 78), .bin .eql (.l 75) (.l 77), (some ((.l 73), true))⟩, ⟨(.l 79), .pick (.l 73) (.l 78) (.c (.bool false)), none⟩, ⟨(.g 2), .mv (.l 79), none⟩])
  (.ret)))))))))⟩
theorem ln_laws_FnFindingsCut : Linked Try.prog fn_laws_FnFindingsCut ac_laws_FnFindingsCut := ⟨Try.f5, _, Try.func5, rfl, by kernel_rfl, by kernel_rfl, by kernel_rfl, by kernel_rfl⟩
def ac_spec_FindingsParse : AF := ⟨[0, 2, 3, 4, 5, 6, 7, 15, 25, 50], [.t 2, .t 3],
  .seq (.region [⟨(.g 2), .mv (.c .nils), none⟩, ⟨(.g 3), .mv (.c (.bool false)), none⟩])
  (.seq (.region [⟨(.l 8), .lits 2 [], none⟩, ⟨(.g 4), .mv (.l 8), none⟩])
  (.seq (.region [⟨(.l 9), .mv (.g 0), none⟩, ⟨(.l 10), .call fn_spec_l42Cut [(.l 9), (.c (.int .u8 10))], none⟩, ⟨(.g 5), .mv (.l 10), none⟩])
  (.seq (.seq (.region [⟨(.g 6), .mv (.c (.int .i64 0)), none⟩])
  (.block 0 (.loop (.seq (.seq (.region [⟨(.l 11), .mv (.g 6), none⟩, ⟨(.l 12), .bin .add (.l 11) (.c (.int .i64 1)), none⟩, ⟨(.l 13), .mv (.g 5), none⟩, ⟨(.l 14), .len (.l 13), none⟩, ⟨(.g 15), .bin .lss (.l 12) (.l 14), none⟩])
    (.cond (.g 15) (.skip)
    (.exit 0)))
    (.seq (.block 1 (.seq (.region [⟨(.l 18), .mv (.g 5), none⟩, ⟨(.l 19), .mv (.g 6), none⟩, ⟨(.l 20), .elS 1 (.l 18) (.l 19), none⟩, ⟨(.l 21), .load false 1 (.l 20), none⟩, ⟨(.l 22), .call fn_spec_l42Cut [(.l 21), (.c (.int .u8 32))], none⟩, ⟨(.g 7), .mv (.l 22), none⟩])
     (.seq (.seq (.region [⟨(.l 23), .mv (.g 7), none⟩, ⟨(.l 24), .len (.l 23), none⟩, ⟨(.g 25), .bin .neq (.l 24) (.c (.int .i64 2)), none⟩])
     (.cond (.g 25) (.seq (.region [⟨(.l 26), .lits 2 [], none⟩, ⟨(.g 2), .mv (.l 26), none⟩, ⟨(.g 3), .mv (.c (.bool false)), none⟩])
      (.ret))
     (.skip)))
     (.drawn [⟨(.l 27), .mv (.g 4), none⟩, ⟨(.l 28), .mv (.g 7), none⟩, ⟨(.l 29), .elS 1 (.l 28) (.c (.int .i64 0)), none⟩, ⟨(.l 30), .load false 1 (.l 29), none⟩, ⟨(.l 31), .call fn_spec_l42Number [(.l 30)], none⟩, ⟨(.l 32), .mv (.g 7), none⟩, ⟨(.l 33), .elS 1 (.l 32) (.c (.int .i64 1)), none⟩, ⟨(.l 34), .load false 1 (.l 33), none⟩, ⟨(.l 35), .call fn_spec_l42Number [(.l 34)], none⟩, ⟨(.l 36), .build [(.int .i64 0), (.int .i64 0)] [(0, 1, (.l 31)), (1, 1, (.l 35))], none⟩, ⟨(.l 37), .lits 2 [(.l 36)], none⟩] [[], [], [], [], [], [], [4, 3, 2], [4, 3, 2], [], [], []] [⟨(.l 38), .append 2 16 (.l 27) (.l 37), none⟩, ⟨(.g 4), .mv (.l 38), none⟩]))))
    (.region [⟨(.l 16), .mv (.g 6), none⟩, ⟨(.l 17), .bin .add (.l 16) (.c (.int .i64 1)), none⟩, ⟨(.g 6), .mv (.l 17), none⟩]))))))
  (.seq (.seq (.region [⟨(.l 39), .mv (.g 5), none⟩, ⟨(.l 40), .mv (.g 5), none⟩, ⟨(.l 41), .len (.l 40), none⟩, ⟨(.l 42), .bin .sub (.l 41) (.c (.int .i64 1)), none⟩, ⟨(.l 43), .elS 1 (.l 39) (.l 42), none⟩, ⟨(.l 44), .load false 1 (.l 43), none⟩, ⟨(.l 45), .bin .neq (.l 44) (.c (.str [])), none⟩, ⟨(.l 46), .mv (.l 45), none⟩, ⟨(.l 47), .mv (.g 4), (some ((.l 46), false))⟩, ⟨(.l 48), .call fn_spec_l42Valid [(.l 47)], (some ((.l 46), false))⟩, ⟨(.l 49), .un .not (.l 48), (some ((.l 46), false))⟩, ⟨(.g 50), .pick (.l 46) (.c (.bool true)) (.l 49), none⟩])
  (.cond (.g 50) (.seq (.region [⟨(.l 51), .lits 2 [], none⟩, ⟨(.g 2), .mv (.l 51), none⟩, ⟨(.g 3), .mv (.c (.bool false)), none⟩])
   (.ret))
  (.skip)))
  (.seq (.region [⟨(.l 52), .mv (.g 4), none⟩, ⟨(.g 2), .mv (.l 52), none⟩, ⟨(.g 3), .mv (.c (.bool true)), none⟩])
  (.ret))))))⟩
theorem ln_spec_FindingsParse : Linked Try.prog fn_spec_FindingsParse ac_spec_FindingsParse := ⟨Try.f6, _, Try.func6, rfl, by kernel_rfl, by kernel_rfl, by kernel_rfl, by kernel_rfl⟩
def ac_impl_FindingsParse : AF := ⟨[0, 2, 3, 4, 5, 6, 7, 8, 9, 10, 11, 12, 13, 14, 15, 19, 55, 65], [.t 2, .t 3],
  .seq (.region [⟨(.g 2), .mv (.c .nils), none⟩, ⟨(.g 3), .mv (.c (.bool false)), none⟩])
  (.seq (.region [⟨(.l 16), .lits 2 [], none⟩, ⟨(.g 4), .mv (.l 16), none⟩])
  (.seq (.region [⟨(.l 17), .mv (.g 0), none⟩, ⟨(.g 5), .mv (.l 17), none⟩])
  (.seq (.block 0 (.loop (.seq (.seq (.region [⟨(.l 18), .mv (.g 5), none⟩, ⟨(.g 19), .bin .neq (.l 18) (.c (.str [])), none⟩])
    (.cond (.g 19) (.skip)
    (.exit 0)))
    (.block 1 (.seq (.region [⟨(.l 21), .mv (.g 5), none⟩, ⟨(.l 22), .call fn_strings_Cut [(.l 21), (.c (.str [10]))], none⟩, ⟨(.l 20), .mv (.l 22), none⟩, ⟨(.l 23), .extract (.l 20) 0, none⟩, ⟨(.l 24), .extract (.l 20) 1, none⟩, ⟨(.l 25), .extract (.l 20) 2, none⟩, ⟨(.g 6), .mv (.l 23), none⟩, ⟨(.g 7), .mv (.l 24), none⟩, ⟨(.g 8), .mv (.l 25), none⟩])
     (.seq (.region [⟨(.l 27), .mv (.g 6), none⟩, ⟨(.l 28), .call fn_strings_Cut [(.l 27), (.c (.str [32]))], none⟩, ⟨(.l 26), .mv (.l 28), none⟩, ⟨(.l 29), .extract (.l 26) 0, none⟩, ⟨(.l 30), .extract (.l 26) 1, none⟩, ⟨(.l 31), .extract (.l 26) 2, none⟩, ⟨(.g 9), .mv (.l 29), none⟩, ⟨(.g 10), .mv (.l 30), none⟩, ⟨(.g 11), .mv (.l 31), none⟩])
     (.seq (.region [⟨(.l 33), .mv (.g 9), none⟩, ⟨(.l 34), .call fn_impl_smallNumber [(.l 33)], none⟩, ⟨(.l 32), .mv (.l 34), none⟩, ⟨(.l 35), .extract (.l 32) 0, none⟩, ⟨(.l 36), .extract (.l 32) 1, none⟩, ⟨(.g 12), .mv (.l 35), none⟩, ⟨(.g 13), .mv (.l 36), none⟩])
     (.seq (.region [⟨(.l 38), .mv (.g 10), none⟩, ⟨(.l 39), .call fn_impl_smallNumber [(.l 38)], none⟩, ⟨(.l 37), .mv (.l 39), none⟩, ⟨(.l 40), .extract (.l 37) 0, none⟩, ⟨(.l 41), .extract (.l 37) 1, none⟩, ⟨(.g 14), .mv (.l 40), none⟩, ⟨(.g 15), .mv (.l 41), none⟩])
     (.seq (.seq (.region [⟨(.l 42), .mv (.g 8), none⟩, ⟨(.l 43), .un .not (.l 42), none⟩, ⟨(.l 44), .mv (.l 43), none⟩, ⟨(.l 45), .mv (.g 11), (some ((.l 44), false))⟩, ⟨(.l 46), .un .not (.l 45), (some ((.l 44), false))⟩, ⟨(.l 47), .pick (.l 44) (.c (.bool true)) (.l 46), none⟩, ⟨(.l 48), .mv (.l 47), none⟩, ⟨(.l 49), .mv (.g 13), (some ((.l 48), false))⟩, ⟨(.l 50), .un .not (.l 49), (some ((.l 48), false))⟩, ⟨(.l 51), .pick (.l 48) (.c (.bool true)) (.l 50), none⟩, ⟨(.l 52), .mv (.l 51), none⟩, ⟨(.l 53), .mv (.g 15), (some ((.l 52), false))⟩, ⟨(.l 54), .un .not (.l 53), (some ((.l 52), false))⟩, ⟨(.g 55), .pick (.l 52) (.c (.bool true)) (.l 54), none⟩])
     (.cond (.g 55) (.seq (.region [⟨(.g 2), .mv (.c .nils), none⟩, ⟨(.g 3), .mv (.c (.bool false)), none⟩])
      (.ret))
     (.skip)))
     (.seq (.region [⟨(.l 56), .mv (.g 4), none⟩, ⟨(.l 57), .mv (.g 12), none⟩, ⟨(.l 58), .mv (.g 14), none⟩, ⟨(.l 59), .build [(.int .i64 0), (.int .i64 0)] [(0, 1, (.l 57)), (1, 1, (.l 58))], none⟩, ⟨(.l 60), .lits 2 [(.l 59)], none⟩, ⟨(.l 61), .append 2 16 (.l 56) (.l 60), none⟩, ⟨(.g 4), .mv (.l 61), none⟩])
     (.region [⟨(.l 62), .mv (.g 7), none⟩, ⟨(.g 5), .mv (.l 62), none⟩])))))))))))
  (.seq (.seq (.region [⟨(.l 63), .mv (.g 4), none⟩, ⟨(.l 64), .call fn_impl_foundOk [(.l 63), (.c (.int .i64 60))], none⟩, ⟨(.g 65), .un .not (.l 64), none⟩])
  (.cond (.g 65) (.seq (.region [⟨(.g 2), .mv (.c .nils), none⟩, ⟨(.g 3), .mv (.c (.bool false)), none⟩])
   (.ret))
  (.skip)))
  (.seq (.region [⟨(.l 66), .mv (.g 4), none⟩, ⟨(.g 2), .mv (.l 66), none⟩, ⟨(.g 3), .mv (.c (.bool true)), none⟩])
  (.ret))))))⟩
theorem ln_impl_FindingsParse : Linked Try.prog fn_impl_FindingsParse ac_impl_FindingsParse := ⟨Try.f7, _, Try.func7, rfl, by kernel_rfl, by kernel_rfl, by kernel_rfl, by kernel_rfl⟩
def ac_laws_eqFindingS : AF := ⟨[0, 1, 4, 5, 10, 14, 26], [.t 4],
  .seq (.region [⟨(.g 4), .mv (.c (.bool false)), none⟩])
  (.seq (.seq (.region [⟨(.l 6), .mv (.g 0), none⟩, ⟨(.l 7), .len (.l 6), none⟩, ⟨(.l 8), .mv (.g 1), none⟩, ⟨(.l 9), .len (.l 8), none⟩, ⟨(.g 10), .bin .neq (.l 7) (.l 9), none⟩])
  (.cond (.g 10) (.seq (.region [⟨(.g 4), .mv (.c (.bool false)), none⟩])
   (.ret))
  (.skip)))
  (.seq (.seq (.region [⟨(.g 5), .mv (.c (.int .i64 0)), none⟩])
  (.block 0 (.loop (.seq (.seq (.region [⟨(.l 11), .mv (.g 5), none⟩, ⟨(.l 12), .mv (.g 0), none⟩, ⟨(.l 13), .len (.l 12), none⟩, ⟨(.g 14), .bin .lss (.l 11) (.l 13), none⟩])
    (.cond (.g 14) (.skip)
    (.exit 0)))
    (.seq (.block 1 (.seq (.drawn [⟨(.l 17), .mv (.g 0), none⟩, ⟨(.l 18), .mv (.g 5), none⟩, ⟨(.l 19), .elS 2 (.l 17) (.l 18), none⟩, ⟨(.l 20), .load true 2 (.l 19), none⟩, ⟨(.l 21), .mv (.g 1), none⟩, ⟨(.l 22), .mv (.g 5), none⟩, ⟨(.l 23), .elS 2 (.l 21) (.l 22), none⟩, ⟨(.l 24), .load true 2 (.l 23), none⟩] [[], [], [], [], [], [], [3, 2], [3, 2]] [⟨(.l 25), .call fn_laws_eqFinding [(.l 20), (.l 24)], none⟩, ⟨(.g 26), .un .not (.l 25), none⟩])
     (.cond (.g 26) (.seq (.region [⟨(.g 4), .mv (.c (.bool false)), none⟩])
      (.ret))
     (.skip))))
    (.region [⟨(.l 15), .mv (.g 5), none⟩, ⟨(.l 16), .bin .add (.l 15) (.c (.int .i64 1)), none⟩, ⟨(.g 5), .mv (.l 16), none⟩]))))))
  (.seq (.region [⟨(.g 4), .mv (.c (.bool true)), none⟩])
  (.ret))))⟩
theorem ln_laws_eqFindingS : Linked Try.prog fn_laws_eqFindingS ac_laws_eqFindingS := ⟨Try.f8, _, Try.func8, rfl, by kernel_rfl, by kernel_rfl, by kernel_rfl, by kernel_rfl⟩
def ac_laws_markFindingS : AF := ⟨[0, 1, 4, 5, 9], [.t 4],
  .seq (.region [⟨(.g 4), .mv (.c (.int .i64 0)), none⟩])
  (.seq (.seq (.region [⟨(.g 5), .mv (.c (.int .i64 0)), none⟩])
  (.block 0 (.loop (.seq (.seq (.region [⟨(.l 6), .mv (.g 5), none⟩, ⟨(.l 7), .mv (.g 0), none⟩, ⟨(.l 8), .len (.l 7), none⟩, ⟨(.g 9), .bin .lss (.l 6) (.l 8), none⟩])
    (.cond (.g 9) (.skip)
    (.exit 0)))
    (.seq (.block 1 (.seq (.region [⟨(.l 12), .mv (.g 0), none⟩, ⟨(.l 13), .mv (.g 5), none⟩, ⟨(.l 14), .mv (.g 1), none⟩, ⟨(.l 15), .elS 2 (.l 12) (.l 13), none⟩, ⟨(.l 16), .faddr 0 (.l 15), none⟩, ⟨.no, .store 1 (.l 16) (.l 14), none⟩])
     (.seq (.region [⟨(.l 17), .mv (.g 1), none⟩, ⟨(.l 18), .bin .add (.l 17) (.c (.int .i64 1)), none⟩, ⟨(.g 1), .mv (.l 18), none⟩])
     (.seq (.region [⟨(.l 19), .mv (.g 0), none⟩, ⟨(.l 20), .mv (.g 5), none⟩, ⟨(.l 21), .mv (.g 1), none⟩, ⟨(.l 22), .elS 2 (.l 19) (.l 20), none⟩, ⟨(.l 23), .faddr 1 (.l 22), none⟩, ⟨.no, .store 1 (.l 23) (.l 21), none⟩])
     (.region [⟨(.l 24), .mv (.g 1), none⟩, ⟨(.l 25), .bin .add (.l 24) (.c (.int .i64 1)), none⟩, ⟨(.g 1), .mv (.l 25), none⟩])))))
    (.region [⟨(.l 10), .mv (.g 5), none⟩, ⟨(.l 11), .bin .add (.l 10) (.c (.int .i64 1)), none⟩, ⟨(.g 5), .mv (.l 11), none⟩]))))))
  (.seq (.region [⟨(.l 26), .mv (.g 1), none⟩, ⟨(.g 4), .mv (.l 26), none⟩])
  (.ret)))⟩
theorem ln_laws_markFindingS : Linked Try.prog fn_laws_markFindingS ac_laws_markFindingS := ⟨Try.f9, _, Try.func9, rfl, by kernel_rfl, by kernel_rfl, by kernel_rfl, by kernel_rfl⟩
def ac_laws_heldFindingS : AF := ⟨[0, 1, 4, 5, 9, 18, 27], [.t 4],
  .seq (.region [⟨(.g 4), .mv (.c (.int .i64 0)), none⟩])
  (.seq (.seq (.region [⟨(.g 5), .mv (.c (.int .i64 0)), none⟩])
  (.block 0 (.loop (.seq (.seq (.region [⟨(.l 6), .mv (.g 5), none⟩, ⟨(.l 7), .mv (.g 0), none⟩, ⟨(.l 8), .len (.l 7), none⟩, ⟨(.g 9), .bin .lss (.l 6) (.l 8), none⟩])
    (.cond (.g 9) (.skip)
    (.exit 0)))
    (.seq (.block 1 (.seq (.seq (.region [⟨(.l 12), .mv (.g 0), none⟩, ⟨(.l 13), .mv (.g 5), none⟩, ⟨(.l 14), .elS 2 (.l 12) (.l 13), none⟩, ⟨(.l 15), .faddr 0 (.l 14), none⟩, ⟨(.l 16), .load false 1 (.l 15), none⟩, ⟨(.l 17), .mv (.g 1), none⟩, ⟨(.g 18), .bin .neq (.l 16) (.l 17), none⟩])
     (.cond (.g 18) (.seq (.region [⟨(.g 4), .mv (.c (.int .i64 (-1))), none⟩])
      (.ret))
     (.skip)))
     (.seq (.region [⟨(.l 19), .mv (.g 1), none⟩, ⟨(.l 20), .bin .add (.l 19) (.c (.int .i64 1)), none⟩, ⟨(.g 1), .mv (.l 20), none⟩])
     (.seq (.seq (.region [⟨(.l 21), .mv (.g 0), none⟩, ⟨(.l 22), .mv (.g 5), none⟩, ⟨(.l 23), .elS 2 (.l 21) (.l 22), none⟩, ⟨(.l 24), .faddr 1 (.l 23), none⟩, ⟨(.l 25), .load false 1 (.l 24), none⟩, ⟨(.l 26), .mv (.g 1), none⟩, ⟨(.g 27), .bin .neq (.l 25) (.l 26), none⟩])
     (.cond (.g 27) (.seq (.region [⟨(.g 4), .mv (.c (.int .i64 (-1))), none⟩])
      (.ret))
     (.skip)))
     (.region [⟨(.l 28), .mv (.g 1), none⟩, ⟨(.l 29), .bin .add (.l 28) (.c (.int .i64 1)), none⟩, ⟨(.g 1), .mv (.l 29), none⟩])))))
    (.region [⟨(.l 10), .mv (.g 5), none⟩, ⟨(.l 11), .bin .add (.l 10) (.c (.int .i64 1)), none⟩, ⟨(.g 5), .mv (.l 11), none⟩]))))))
  (.seq (.region [⟨(.l 30), .mv (.g 1), none⟩, ⟨(.g 4), .mv (.l 30), none⟩])
  (.ret)))⟩
theorem ln_laws_heldFindingS : Linked Try.prog fn_laws_heldFindingS ac_laws_heldFindingS := ⟨Try.f10, _, Try.func10, rfl, by kernel_rfl, by kernel_rfl, by kernel_rfl, by kernel_rfl⟩
def ac_spec_DrawFindingsParse : AF := ⟨[0, 2, 3, 4, 11, 12, 19], [.t 2],
  .seq (.region [⟨(.g 2), .mv (.c (.str [])), none⟩])
  (.seq (.region [⟨(.l 5), .mv (.g 0), none⟩, ⟨(.l 6), .call fn_spec_l6Open [(.l 5)], none⟩, ⟨(.g 3), .mv (.l 6), none⟩])
  (.seq (.region [⟨(.l 7), .mv (.g 3), none⟩, ⟨(.l 8), .call fn_spec_l92Found [(.l 7)], none⟩, ⟨(.l 9), .call fn_spec_FindingsText [(.l 8)], none⟩, ⟨(.g 4), .mv (.l 9), none⟩])
  (.seq (.seq (.region [⟨(.l 10), .mv (.g 3), none⟩, ⟨(.g 11), .call fn_spec_l6Rd_pick [(.l 10), (.c (.int .i64 6))], none⟩])
  (.block 0 (.seq (.region [⟨(.l 13), .bin .eql (.g 11) (.c (.int .i64 0)), none⟩, ⟨(.g 12), .mv (.l 13), none⟩])
   (.cond (.g 12) (.seq (.region [⟨(.l 14), .mv (.g 4), none⟩, ⟨(.l 15), .mv (.g 3), none⟩, ⟨(.l 16), .lits 1 [(.c (.str [49, 32, 50])), (.c (.str [48, 49, 32, 50, 10])), (.c (.str [53, 57, 32, 49, 48, 53, 10])), (.c (.str [54, 48, 32, 49, 10])), (.c (.str [53, 10])), (.c (.str [10])), (.c (.str [49, 32, 32, 50, 10])), (.c (.str [57, 32, 49, 32, 49, 10]))], none⟩, ⟨(.l 17), .call fn_spec_l6Rd_of [(.l 15), (.l 16)], none⟩, ⟨(.l 18), .bin .add (.l 14) (.l 17), none⟩, ⟨(.g 2), .mv (.l 18), none⟩])
    (.ret))
   (.seq (.region [⟨(.l 20), .bin .eql (.g 11) (.c (.int .i64 1)), none⟩, ⟨(.g 19), .mv (.l 20), none⟩])
    (.cond (.g 19) (.seq (.region [⟨(.l 21), .mv (.g 3), none⟩, ⟨(.l 22), .mv (.g 4), none⟩, ⟨(.l 23), .call fn_spec_l91Spoil [(.l 21), (.l 22)], none⟩, ⟨(.g 2), .mv (.l 23), none⟩])
     (.ret))
    (.skip)))))))
  (.seq (.region [⟨(.l 24), .mv (.g 4), none⟩, ⟨(.g 2), .mv (.l 24), none⟩])
  (.ret)))))⟩
theorem ln_spec_DrawFindingsParse : Linked Try.prog fn_spec_DrawFindingsParse ac_spec_DrawFindingsParse := ⟨Try.f11, _, Try.func11, rfl, by kernel_rfl, by kernel_rfl, by kernel_rfl, by kernel_rfl⟩
def ac_laws_sameFound : AF := ⟨[0, 1, 4, 5, 10, 14, 25], [.t 4],
  .seq (.region [⟨(.g 4), .mv (.c (.bool false)), none⟩])
  (.seq (.seq (.region [⟨(.l 6), .mv (.g 0), none⟩, ⟨(.l 7), .len (.l 6), none⟩, ⟨(.l 8), .mv (.g 1), none⟩, ⟨(.l 9), .len (.l 8), none⟩, ⟨(.g 10), .bin .neq (.l 7) (.l 9), none⟩])
  (.cond (.g 10) (.seq (.region [⟨(.g 4), .mv (.c (.bool false)), none⟩])
   (.ret))
  (.skip)))
  (.seq (.seq (.region [⟨(.g 5), .mv (.c (.int .i64 0)), none⟩])
  (.block 0 (.loop (.seq (.seq (.region [⟨(.l 11), .mv (.g 5), none⟩, ⟨(.l 12), .mv (.g 0), none⟩, ⟨(.l 13), .len (.l 12), none⟩, ⟨(.g 14), .bin .lss (.l 11) (.l 13), none⟩])
    (.cond (.g 14) (.skip)
    (.exit 0)))
    (.seq (.block 1 (.seq (.drawn [⟨(.l 17), .mv (.g 0), none⟩, ⟨(.l 18), .mv (.g 5), none⟩, ⟨(.l 19), .elS 2 (.l 17) (.l 18), none⟩, ⟨(.l 20), .load true 2 (.l 19), none⟩, ⟨(.l 21), .mv (.g 1), none⟩, ⟨(.l 22), .mv (.g 5), none⟩, ⟨(.l 23), .elS 2 (.l 21) (.l 22), none⟩, ⟨(.l 24), .load true 2 (.l 23), none⟩] [[], [], [], [], [], [], [3, 2], [3, 2]] [⟨(.g 25), .eqs true [0, 0] (.l 20) (.l 24), none⟩])
     (.cond (.g 25) (.seq (.region [⟨(.g 4), .mv (.c (.bool false)), none⟩])
      (.ret))
     (.skip))))
    (.region [⟨(.l 15), .mv (.g 5), none⟩, ⟨(.l 16), .bin .add (.l 15) (.c (.int .i64 1)), none⟩, ⟨(.g 5), .mv (.l 16), none⟩]))))))
  (.seq (.region [⟨(.g 4), .mv (.c (.bool true)), none⟩])
  (.ret))))⟩
theorem ln_laws_sameFound : Linked Try.prog fn_laws_sameFound ac_laws_sameFound := ⟨Try.f12, _, Try.func12, rfl, by kernel_rfl, by kernel_rfl, by kernel_rfl, by kernel_rfl⟩
def ac_laws_lines : AF := ⟨[0, 2, 3, 4, 8, 14], [.t 2],
  .seq (.region [⟨(.g 2), .mv (.c (.int .i64 0)), none⟩])
  (.seq (.region [⟨(.g 3), .mv (.c (.int .i64 0)), none⟩])
  (.seq (.seq (.region [⟨(.g 4), .mv (.c (.int .i64 0)), none⟩])
  (.block 0 (.loop (.seq (.seq (.region [⟨(.l 5), .mv (.g 4), none⟩, ⟨(.l 6), .mv (.g 0), none⟩, ⟨(.l 7), .lenStr (.l 6), none⟩, ⟨(.g 8), .bin .lss (.l 5) (.l 7), none⟩])
    (.cond (.g 8) (.skip)
    (.exit 0)))
    (.seq (.block 1 (.seq (.region [⟨(.l 11), .mv (.g 0), none⟩, ⟨(.l 12), .mv (.g 4), none⟩, ⟨(.l 13), .idxStr (.l 11) (.l 12), none⟩, ⟨(.g 14), .bin .eql (.l 13) (.c (.int .u8 10)), none⟩])
     (.cond (.g 14) (.region [⟨(.l 15), .mv (.g 3), none⟩, ⟨(.l 16), .bin .add (.l 15) (.c (.int .i64 1)), none⟩, ⟨(.g 3), .mv (.l 16), none⟩])
     (.skip))))
    (.region [⟨(.l 9), .mv (.g 4), none⟩, ⟨(.l 10), .bin .add (.l 9) (.c (.int .i64 1)), none⟩, ⟨(.g 4), .mv (.l 10), none⟩]))))))
  (.seq (.region [⟨(.l 17), .mv (.g 3), none⟩, ⟨(.g 2), .mv (.l 17), none⟩])
  (.ret))))⟩
theorem ln_laws_lines : Linked Try.prog fn_laws_lines ac_laws_lines := ⟨Try.f13, _, Try.func13, rfl, by kernel_rfl, by kernel_rfl, by kernel_rfl, by kernel_rfl⟩
def ac_spec_l42Cut : AF := ⟨[0, 1, 4, 5, 6, 7, 12, 19], [.t 4],
  .seq (.region [⟨(.g 4), .mv (.c .nils), none⟩])
  (.seq (.region [⟨(.l 8), .lits 1 [], none⟩, ⟨(.g 5), .mv (.l 8), none⟩])
  (.seq (.region [⟨(.g 6), .mv (.c (.int .i64 0)), none⟩])
  (.seq (.seq (.region [⟨(.g 7), .mv (.c (.int .i64 0)), none⟩])
  (.block 0 (.loop (.seq (.seq (.region [⟨(.l 9), .mv (.g 7), none⟩, ⟨(.l 10), .mv (.g 0), none⟩, ⟨(.l 11), .lenStr (.l 10), none⟩, ⟨(.g 12), .bin .lss (.l 9) (.l 11), none⟩])
    (.cond (.g 12) (.skip)
    (.exit 0)))
    (.seq (.block 1 (.seq (.region [⟨(.l 15), .mv (.g 0), none⟩, ⟨(.l 16), .mv (.g 7), none⟩, ⟨(.l 17), .idxStr (.l 15) (.l 16), none⟩, ⟨(.l 18), .mv (.g 1), none⟩, ⟨(.g 19), .bin .eql (.l 17) (.l 18), none⟩])
     (.cond (.g 19) (.seq (.region [⟨(.l 20), .mv (.g 5), none⟩, ⟨(.l 21), .mv (.g 0), none⟩, ⟨(.l 22), .mv (.g 6), none⟩, ⟨(.l 23), .mv (.g 7), none⟩, ⟨(.l 24), .cutStr (.l 21) (some (.l 22)) (some (.l 23)), none⟩, ⟨(.l 25), .lits 1 [(.l 24)], none⟩, ⟨(.l 26), .append 1 16 (.l 20) (.l 25), none⟩, ⟨(.g 5), .mv (.l 26), none⟩])
      (.region [⟨(.l 27), .mv (.g 7), none⟩, ⟨(.l 28), .bin .add (.l 27) (.c (.int .i64 1)), none⟩, ⟨(.g 6), .mv (.l 28), none⟩]))
     (.skip))))
    (.region [⟨(.l 13), .mv (.g 7), none⟩, ⟨(.l 14), .bin .add (.l 13) (.c (.int .i64 1)), none⟩, ⟨(.g 7), .mv (.l 14), none⟩]))))))
  (.seq (.region [⟨(.l 29), .mv (.g 5), none⟩, ⟨(.l 30), .mv (.g 0), none⟩, ⟨(.l 31), .mv (.g 6), none⟩, ⟨(.l 32), .cutStr (.l 30) (some (.l 31)) none, none⟩, ⟨(.l 33), .lits 1 [(.l 32)], none⟩, ⟨(.l 34), .append 1 16 (.l 29) (.l 33), none⟩, ⟨(.g 4), .mv (.l 34), none⟩])
  (.ret)))))⟩
theorem ln_spec_l42Cut : Linked Try.prog fn_spec_l42Cut ac_spec_l42Cut := ⟨Try.f14, _, Try.func14, rfl, by kernel_rfl, by kernel_rfl, by kernel_rfl, by kernel_rfl⟩
def ac_spec_l42Number : AF := ⟨[0, 2, 3, 4, 18, 22, 34], [.t 2],
  .seq (.region [⟨(.g 2), .mv (.c (.int .i64 0)), none⟩])
  (.seq (.seq (.region [⟨(.l 5), .mv (.g 0), none⟩, ⟨(.l 6), .lenStr (.l 5), none⟩, ⟨(.l 7), .call fn_spec_l6In [(.l 6), (.c (.int .i64 1)), (.c (.int .i64 3))], none⟩, ⟨(.l 8), .un .not (.l 7), none⟩, ⟨(.l 9), .mv (.l 8), none⟩, ⟨(.l 10), .mv (.g 0), (some ((.l 9), false))⟩, ⟨(.l 11), .lenStr (.l 10), (some ((.l 9), false))⟩, ⟨(.l 12), .bin .gtr (.l 11) (.c (.int .i64 1)), (some ((.l 9), false))⟩, ⟨(.l 13), .mv (.l 12), (some ((.l 9), false))⟩, ⟨(.l 14), .mv (.g 0), (some ((.l 13), true))⟩, ⟨(.l 15), .idxStr (.l 14) (.c (.int .i64 0)), (some ((.l 13), true))⟩, ⟨(.l 16), .bin .eql (.l 15) (.c (.int .u8 48)), (some ((.l 13), true))⟩, ⟨(.l 17), .pick (.l 13) (.l 16) (.c (.bool false)), (some ((.l 9), false))⟩, ⟨(.g 18), .pick (.l 9) (.c (.bool true)) (.l 17), none⟩])
  (.cond (.g 18) (.seq (.region [⟨(.g 2), .mv (.c (.int .i64 (-1))), none⟩])
   (.ret))
  (.skip)))
  (.seq (.region [⟨(.g 3), .mv (.c (.int .i64 0)), none⟩])
  (.seq (.seq (.region [⟨(.g 4), .mv (.c (.int .i64 0)), none⟩])
  (.block 0 (.loop (.seq (.seq (.region [⟨(.l 19), .mv (.g 4), none⟩, ⟨(.l 20), .mv (.g 0), none⟩, ⟨(.l 21), .lenStr (.l 20), none⟩, ⟨(.g 22), .bin .lss (.l 19) (.l 21), none⟩])
    (.cond (.g 22) (.skip)
    (.exit 0)))
    (.seq (.block 1 (.seq (.seq (.region [⟨(.l 25), .mv (.g 0), none⟩, ⟨(.l 26), .mv (.g 4), none⟩, ⟨(.l 27), .idxStr (.l 25) (.l 26), none⟩, ⟨(.l 28), .bin .lss (.l 27) (.c (.int .u8 48)), none⟩, ⟨(.l 29), .mv (.l 28), none⟩, ⟨(.l 30), .mv (.g 0), (some ((.l 29), false))⟩, ⟨(.l 31), .mv (.g 4), (some ((.l 29), false))⟩, ⟨(.l 32), .idxStr (.l 30) (.l 31), (some ((.l 29), false))⟩, ⟨(.l 33), .bin .gtr (.l 32) (.c (.int .u8 57)), (some ((.l 29), false))⟩, ⟨(.g 34), .pick (.l 29) (.c (.bool true)) (.l 33), none⟩])
     (.cond (.g 34) (.seq (.region [⟨(.g 2), .mv (.c (.int .i64 (-1))), none⟩])
      (.ret))
     (.skip)))
     (.region [⟨(.l 35), .mv (.g 3), none⟩, ⟨(.l 36), .bin .mul (.c (.int .i64 10)) (.l 35), none⟩, ⟨(.l 37), .mv (.g 0), none⟩, ⟨(.l 38), .mv (.g 4), none⟩, ⟨(.l 39), .idxStr (.l 37) (.l 38), none⟩, ⟨(.l 40), .bin .sub (.l 39) (.c (.int .u8 48)), none⟩, ⟨(.l 41), .conv .i64 (.l 40), none⟩, ⟨(.l 42), .bin .add (.l 36) (.l 41), none⟩, ⟨(.g 3), .mv (.l 42), none⟩])))
    (.region [⟨(.l 23), .mv (.g 4), none⟩, ⟨(.l 24), .bin .add (.l 23) (.c (.int .i64 1)), none⟩, ⟨(.g 4), .mv (.l 24), none⟩]))))))
  (.seq (.region [⟨(.l 43), .mv (.g 3), none⟩, ⟨(.g 2), .mv (.l 43), none⟩])
  (.ret)))))⟩
theorem ln_spec_l42Number : Linked Try.prog fn_spec_l42Number ac_spec_l42Number := ⟨Try.f15, _, Try.func15, rfl, by kernel_rfl, by kernel_rfl, by kernel_rfl, by kernel_rfl⟩
def ac_spec_l42Valid : AF := ⟨[0, 2, 3, 7, 32], [.t 2],
  .seq (.region [⟨(.g 2), .mv (.c (.bool false)), none⟩])
  (.seq (.seq (.region [⟨(.g 3), .mv (.c (.int .i64 0)), none⟩])
  (.block 0 (.loop (.seq (.seq (.region [⟨(.l 4), .mv (.g 3), none⟩, ⟨(.l 5), .mv (.g 0), none⟩, ⟨(.l 6), .len (.l 5), none⟩, ⟨(.g 7), .bin .lss (.l 4) (.l 6), none⟩])
    (.cond (.g 7) (.skip)
    (.exit 0)))
    (.seq (.block 1 (.seq (.drawn [⟨(.l 10), .mv (.g 0), none⟩, ⟨(.l 11), .mv (.g 3), none⟩, ⟨(.l 12), .elS 2 (.l 10) (.l 11), none⟩, ⟨(.l 13), .load true 2 (.l 12), none⟩, ⟨(.l 14), .call fn_spec_l32Finding [(.l 13), (.c (.int .i64 60))], none⟩, ⟨(.l 15), .un .not (.l 14), none⟩, ⟨(.l 16), .mv (.l 15), none⟩, ⟨(.l 17), .mv (.g 3), (some ((.l 16), false))⟩, ⟨(.l 18), .bin .gtr (.l 17) (.c (.int .i64 0)), (some ((.l 16), false))⟩, ⟨(.l 19), .mv (.l 18), (some ((.l 16), false))⟩, ⟨(.l 20), .mv (.g 0), (some ((.l 19), true))⟩, ⟨(.l 21), .mv (.g 3), (some ((.l 19), true))⟩, ⟨(.l 22), .bin .sub (.l 21) (.c (.int .i64 1)), (some ((.l 19), true))⟩, ⟨(.l 23), .elS 2 (.l 20) (.l 22), (some ((.l 19), true))⟩, ⟨(.l 24), .load true 2 (.l 23), (some ((.l 19), true))⟩, ⟨(.l 25), .mv (.g 0), (some ((.l 19), true))⟩, ⟨(.l 26), .mv (.g 3), (some ((.l 19), true))⟩, ⟨(.l 27), .elS 2 (.l 25) (.l 26), (some ((.l 19), true))⟩, ⟨(.l 28), .load true 2 (.l 27), (some ((.l 19), true))⟩] [[], [], [], [], [], [], [], [], [], [], [], [], [], [], [], [], [], [14, 13], [14, 13]] [⟨(.l 29), .call fn_spec_l32Less [(.l 24), (.l 28)], (some ((.l 19), true))⟩, ⟨(.l 30), .un .not (.l 29), (some ((.l 19), true))⟩, ⟨(.l 31), .pick (.l 19) (.l 30) (.c (.bool false)), (some ((.l 16), false))⟩, ⟨(.g 32), .pick (.l 16) (.c (.bool true)) (.l 31), none⟩])
     (.cond (.g 32) (.seq (.region [⟨(.g 2), .mv (.c (.bool false)), none⟩])
      (.ret))
     (.skip))))
    (.region [⟨(.l 8), .mv (.g 3), none⟩, ⟨(.l 9), .bin .add (.l 8) (.c (.int .i64 1)), none⟩, ⟨(.g 3), .mv (.l 9), none⟩]))))))
  (.seq (.region [⟨(.g 2), .mv (.c (.bool true)), none⟩])
  (.ret)))⟩
theorem ln_spec_l42Valid : Linked Try.prog fn_spec_l42Valid ac_spec_l42Valid := ⟨Try.f16, _, Try.func16, rfl, by kernel_rfl, by kernel_rfl, by kernel_rfl, by kernel_rfl⟩
def ac_strings_Cut : AF := ⟨[0, 1, 4, 5, 6], [.t 4, .t 5, .t 6],
  .seq (.region [⟨(.g 4), .mv (.c (.str [])), none⟩, ⟨(.g 5), .mv (.c (.str [])), none⟩, ⟨(.g 6), .mv (.c (.bool false)), none⟩])
  (.seq (.region [⟨(.l 7), .mv (.g 0), none⟩, ⟨(.l 8), .mv (.g 1), none⟩, ⟨(.l 9), .call fn_internal_stringslite_Cut [(.l 7), (.l 8)], none⟩, ⟨(.l 10), .extract (.l 9) 0, none⟩, ⟨(.l 11), .extract (.l 9) 1, none⟩, ⟨(.l 12), .extract (.l 9) 2, none⟩, ⟨(.g 4), .mv (.l 10), none⟩, ⟨(.g 5), .mv (.l 11), none⟩, ⟨(.g 6), .mv (.l 12), none⟩])
  (.ret))⟩
theorem ln_strings_Cut : Linked Try.prog fn_strings_Cut ac_strings_Cut := ⟨Try.f17, _, Try.func17, rfl, by kernel_rfl, by kernel_rfl, by kernel_rfl, by kernel_rfl⟩
def ac_impl_smallNumber : AF := ⟨[0, 2, 3, 4, 5, 23, 27, 39], [.t 2, .t 3],
  .seq (.region [⟨(.g 2), .mv (.c (.int .i64 0)), none⟩, ⟨(.g 3), .mv (.c (.bool false)), none⟩])
  (.seq (.seq (.region [⟨(.l 6), .mv (.g 0), none⟩, ⟨(.l 7), .lenStr (.l 6), none⟩, ⟨(.l 8), .bin .lss (.l 7) (.c (.int .i64 1)), none⟩, ⟨(.l 9), .mv (.l 8), none⟩, ⟨(.l 10), .mv (.g 0), (some ((.l 9), false))⟩, ⟨(.l 11), .lenStr (.l 10), (some ((.l 9), false))⟩, ⟨(.l 12), .bin .gtr (.l 11) (.c (.int .i64 3)), (some ((.l 9), false))⟩, ⟨(.l 13), .pick (.l 9) (.c (.bool true)) (.l 12), none⟩, ⟨(.l 14), .mv (.l 13), none⟩, ⟨(.l 15), .mv (.g 0), (some ((.l 14), false))⟩, ⟨(.l 16), .lenStr (.l 15), (some ((.l 14), false))⟩, ⟨(.l 17), .bin .gtr (.l 16) (.c (.int .i64 1)), (some ((.l 14), false))⟩, ⟨(.l 18), .mv (.l 17), (some ((.l 14), false))⟩, ⟨(.l 19), .mv (.g 0), (some ((.l 18), true))⟩, ⟨(.l 20), .idxStr (.l 19) (.c (.int .i64 0)), (some ((.l 18), true))⟩, ⟨(.l 21), .bin .eql (.l 20) (.c (.int .u8 48)), (some ((.l 18), true))⟩, ⟨(.l 22), .pick (.l 18) (.l 21) (.c (.bool false)), (some ((.l 14), false))⟩, ⟨(.g 23), .pick (.l 14) (.c (.bool true)) (.l 22), none⟩])
  (.cond (.g 23) (.seq (.region [⟨(.g 2), .mv (.c (.int .i64 0)), none⟩, ⟨(.g 3), .mv (.c (.bool false)), none⟩])
   (.ret))
  (.skip)))
  (.seq (.region [⟨(.g 4), .mv (.c (.int .i64 0)), none⟩])
  (.seq (.seq (.region [⟨(.g 5), .mv (.c (.int .i64 0)), none⟩])
  (.block 0 (.loop (.seq (.seq (.region [⟨(.l 24), .mv (.g 5), none⟩, ⟨(.l 25), .mv (.g 0), none⟩, ⟨(.l 26), .lenStr (.l 25), none⟩, ⟨(.g 27), .bin .lss (.l 24) (.l 26), none⟩])
    (.cond (.g 27) (.skip)
    (.exit 0)))
    (.seq (.block 1 (.seq (.seq (.region [⟨(.l 30), .mv (.g 0), none⟩, ⟨(.l 31), .mv (.g 5), none⟩, ⟨(.l 32), .idxStr (.l 30) (.l 31), none⟩, ⟨(.l 33), .bin .lss (.l 32) (.c (.int .u8 48)), none⟩, ⟨(.l 34), .mv (.l 33), none⟩, ⟨(.l 35), .mv (.g 0), (some ((.l 34), false))⟩, ⟨(.l 36), .mv (.g 5), (some ((.l 34), false))⟩, ⟨(.l 37), .idxStr (.l 35) (.l 36), (some ((.l 34), false))⟩, ⟨(.l 38), .bin .gtr (.l 37) (.c (.int .u8 57)), (some ((.l 34), false))⟩, ⟨(.g 39), .pick (.l 34) (.c (.bool true)) (.l 38), none⟩])
     (.cond (.g 39) (.seq (.region [⟨(.g 2), .mv (.c (.int .i64 0)), none⟩, ⟨(.g 3), .mv (.c (.bool false)), none⟩])
      (.ret))
     (.skip)))
     (.region [⟨(.l 40), .mv (.g 4), none⟩, ⟨(.l 41), .bin .mul (.l 40) (.c (.int .i64 10)), none⟩, ⟨(.l 42), .mv (.g 0), none⟩, ⟨(.l 43), .mv (.g 5), none⟩, ⟨(.l 44), .idxStr (.l 42) (.l 43), none⟩, ⟨(.l 45), .bin .sub (.l 44) (.c (.int .u8 48)), none⟩, ⟨(.l 46), .conv .i64 (.l 45), none⟩, ⟨(.l 47), .bin .add (.l 41) (.l 46), none⟩, ⟨(.g 4), .mv (.l 47), none⟩])))
    (.region [⟨(.l 28), .mv (.g 5), none⟩, ⟨(.l 29), .bin .add (.l 28) (.c (.int .i64 1)), none⟩, ⟨(.g 5), .mv (.l 29), none⟩]))))))
  (.seq (.region [⟨(.l 48), .mv (.g 4), none⟩, ⟨(.g 2), .mv (.l 48), none⟩, ⟨(.g 3), .mv (.c (.bool true)), none⟩])
  (.ret)))))⟩
theorem ln_impl_smallNumber : Linked Try.prog fn_impl_smallNumber ac_impl_smallNumber := ⟨Try.f18, _, Try.func18, rfl, by kernel_rfl, by kernel_rfl, by kernel_rfl, by kernel_rfl⟩
def ac_impl_foundOk : AF := ⟨[0, 1, 4, 5, 6, 7, 8, 9, 10, 42, 77], [.t 4],
  .seq (.region [⟨(.g 4), .mv (.c (.bool false)), none⟩])
  (.seq (.seq (.region [⟨(.g 7), .mv (.g 0), none⟩, ⟨(.g 8), .len (.g 7), none⟩, ⟨(.g 9), .mv (.c (.int .i64 0)), none⟩])
  (.block 0 (.loop (.seq (.region [⟨(.g 10), .bin .lss (.g 9) (.g 8), none⟩])
    (.seq (.cond (.g 10) (.skip)
    (.exit 0))
    (.seq (.block 1 (.seq (.region [⟨(.l 11), .mv (.g 9), none⟩, ⟨(.l 12), .elS 2 (.g 7) (.g 9), none⟩, ⟨(.l 13), .load true 2 (.l 12), none⟩, ⟨(.g 6), .alloc [(.int .i64 0), (.int .i64 0)], none⟩, ⟨(.g 5), .mv (.l 11), none⟩, ⟨.no, .store 2 (.g 6) (.l 13), none⟩])
     (.seq (.seq (.region [⟨(.l 14), .faddr 0 (.g 6), none⟩, ⟨(.l 15), .load false 1 (.l 14), none⟩, ⟨(.l 16), .bin .lss (.l 15) (.c (.int .i64 0)), none⟩, ⟨(.l 17), .mv (.l 16), none⟩, ⟨(.l 18), .faddr 0 (.g 6), (some ((.l 17), false))⟩, ⟨(.l 19), .load false 1 (.l 18), (some ((.l 17), false))⟩, ⟨(.l 20), .mv (.g 1), (some ((.l 17), false))⟩, ⟨(.l 21), .bin .geq (.l 19) (.l 20), (some ((.l 17), false))⟩, ⟨(.l 22), .pick (.l 17) (.c (.bool true)) (.l 21), none⟩, ⟨(.l 23), .mv (.l 22), none⟩, ⟨(.l 24), .faddr 1 (.g 6), (some ((.l 23), false))⟩, ⟨(.l 25), .load false 1 (.l 24), (some ((.l 23), false))⟩, ⟨(.l 26), .bin .lss (.l 25) (.c (.int .i64 1)), (some ((.l 23), false))⟩, ⟨(.l 27), .mv (.l 26), (some ((.l 23), false))⟩, ⟨(.l 28), .faddr 1 (.g 6), (some ((.l 27), false))⟩, ⟨(.l 29), .load false 1 (.l 28), (some ((.l 27), false))⟩, ⟨(.l 30), .bin .gtr (.l 29) (.c (.int .i64 11)), (some ((.l 27), false))⟩, ⟨(.l 31), .pick (.l 27) (.c (.bool true)) (.l 30), (some ((.l 23), false))⟩, ⟨(.l 32), .mv (.l 31), (some ((.l 23), false))⟩, ⟨(.l 33), .faddr 1 (.g 6), (some ((.l 32), true))⟩, ⟨(.l 34), .load false 1 (.l 33), (some ((.l 32), true))⟩, ⟨(.l 35), .bin .lss (.l 34) (.c (.int .i64 101)), (some ((.l 32), true))⟩, ⟨(.l 36), .mv (.l 35), (some ((.l 32), true))⟩, ⟨(.l 37), .faddr 1 (.g 6), (some ((.l 36), false))⟩, ⟨(.l 38), .load false 1 (.l 37), (some ((.l 36), false))⟩, ⟨(.l 39), .bin .gtr (.l 38) (.c (.int .i64 105)), (some ((.l 36), false))⟩, ⟨(.l 40), .pick (.l 36) (.c (.bool true)) (.l 39), (some ((.l 32), true))⟩, ⟨(.l 41), .pick (.l 32) (.l 40) (.c (.bool false)), (some ((.l 23), false))⟩, ⟨(.g 42), .pick (.l 23) (.c (.bool true)) (.l 41), none⟩])
     (.cond (.g 42) (.seq (.region [⟨(.g 4), .mv (.c (.bool false)), none⟩])
      (.ret))
     (.skip)))
     (.seq (.drawn [⟨(.l 43), .mv (.g 5), none⟩, ⟨(.l 44), .bin .gtr (.l 43) (.c (.int .i64 0)), none⟩, ⟨(.l 45), .mv (.l 44), none⟩, ⟨(.l 46), .faddr 0 (.g 6), (some ((.l 45), true))⟩, ⟨(.l 47), .load false 1 (.l 46), (some ((.l 45), true))⟩, ⟨(.l 48), .mv (.g 0), (some ((.l 45), true))⟩, ⟨(.l 49), .mv (.g 5), (some ((.l 45), true))⟩, ⟨(.l 50), .bin .sub (.l 49) (.c (.int .i64 1)), (some ((.l 45), true))⟩, ⟨(.l 51), .elS 2 (.l 48) (.l 50), (some ((.l 45), true))⟩, ⟨(.l 52), .faddr 0 (.l 51), (some ((.l 45), true))⟩, ⟨(.l 53), .load false 1 (.l 52), (some ((.l 45), true))⟩, ⟨(.l 54), .bin .lss (.l 47) (.l 53), (some ((.l 45), true))⟩, ⟨(.l 55), .mv (.l 54), (some ((.l 45), true))⟩, ⟨(.l 56), .faddr 0 (.g 6), (some ((.l 55), false))⟩, ⟨(.l 57), .load false 1 (.l 56), (some ((.l 55), false))⟩, ⟨(.l 58), .mv (.g 0), (some ((.l 55), false))⟩, ⟨(.l 59), .mv (.g 5), (some ((.l 55), false))⟩, ⟨(.l 60), .bin .sub (.l 59) (.c (.int .i64 1)), (some ((.l 55), false))⟩, ⟨(.l 61), .elS 2 (.l 58) (.l 60), (some ((.l 55), false))⟩, ⟨(.l 62), .faddr 0 (.l 61), (some ((.l 55), false))⟩, ⟨(.l 63), .load false 1 (.l 62), (some ((.l 55), false))⟩, ⟨(.l 64), .bin .eql (.l 57) (.l 63), (some ((.l 55), false))⟩, ⟨(.l 65), .mv (.l 64), (some ((.l 55), false))⟩, ⟨(.l 66), .faddr 1 (.g 6), (some ((.l 65), true))⟩, ⟨(.l 67), .load false 1 (.l 66), (some ((.l 65), true))⟩, ⟨(.l 68), .mv (.g 0), (some ((.l 65), true))⟩, ⟨(.l 69), .mv (.g 5), (some ((.l 65), true))⟩, ⟨(.l 70), .bin .sub (.l 69) (.c (.int .i64 1)), (some ((.l 65), true))⟩, ⟨(.l 71), .elS 2 (.l 68) (.l 70), (some ((.l 65), true))⟩, ⟨(.l 72), .faddr 1 (.l 71), (some ((.l 65), true))⟩, ⟨(.l 73), .load false 1 (.l 72), (some ((.l 65), true))⟩] [[], [], [], [], [], [], [], [], [4], [], [4], [], [], [], [], [], [], [], [14], [], [14], [], [], [], [], [], [], [], [24], [], [24]] [⟨(.l 74), .bin .leq (.l 67) (.l 73), (some ((.l 65), true))⟩, ⟨(.l 75), .pick (.l 65) (.l 74) (.c (.bool false)), (some ((.l 55), false))⟩, ⟨(.l 76), .pick (.l 55) (.c (.bool true)) (.l 75), (some ((.l 45), true))⟩, ⟨(.g 77), .pick (.l 45) (.l 76) (.c (.bool false)), none⟩])
     (.cond (.g 77) (.seq (.region [⟨(.g 4), .mv (.c (.bool false)), none⟩])
      (.ret))
     (.skip))))))
    (.region [⟨(.l 78), .bin .add (.g 9) (.c (.int .i64 1)), none⟩, ⟨(.g 9), .mv (.l 78), none⟩])))))))
  (.seq (.region [⟨(.g 4), .mv (.c (.bool true)), none⟩])
  (.ret)))⟩
theorem ln_impl_foundOk : Linked Try.prog fn_impl_foundOk ac_impl_foundOk := ⟨Try.f19, _, Try.func19, rfl, by kernel_rfl, by kernel_rfl, by kernel_rfl, by kernel_rfl⟩
def ac_laws_eqFinding : AF := ⟨[0, 1, 2, 3, 4, 9, 14], [.t 4],
  .seq (.region [⟨(.g 2), .box (.g 0), none⟩, ⟨(.g 3), .box (.g 1), none⟩, ⟨(.g 4), .mv (.c (.bool false)), none⟩])
  (.seq (.seq (.region [⟨(.l 5), .faddr 0 (.g 2), none⟩, ⟨(.l 6), .load false 1 (.l 5), none⟩, ⟨(.l 7), .faddr 0 (.g 3), none⟩, ⟨(.l 8), .load false 1 (.l 7), none⟩, ⟨(.g 9), .bin .neq (.l 6) (.l 8), none⟩])
  (.cond (.g 9) (.seq (.region [⟨(.g 4), .mv (.c (.bool false)), none⟩])
   (.ret))
  (.skip)))
  (.seq (.seq (.region [⟨(.l 10), .faddr 1 (.g 2), none⟩, ⟨(.l 11), .load false 1 (.l 10), none⟩, ⟨(.l 12), .faddr 1 (.g 3), none⟩, ⟨(.l 13), .load false 1 (.l 12), none⟩, ⟨(.g 14), .bin .neq (.l 11) (.l 13), none⟩])
  (.cond (.g 14) (.seq (.region [⟨(.g 4), .mv (.c (.bool false)), none⟩])
   (.ret))
  (.skip)))
  (.seq (.region [⟨(.g 4), .mv (.c (.bool true)), none⟩])
  (.ret))))⟩
theorem ln_laws_eqFinding : Linked Try.prog fn_laws_eqFinding ac_laws_eqFinding := ⟨Try.f20, _, Try.func20, rfl, by kernel_rfl, by kernel_rfl, by kernel_rfl, by kernel_rfl⟩
def ac_spec_l6Open : AF := ⟨[0, 2, 5], [.t 2],
  .seq (.region [⟨(.g 2), .mv (.c .nilp), none⟩])
  (.seq (.seq (.region [⟨(.l 3), .mv (.g 0), none⟩, ⟨(.l 4), .len (.l 3), none⟩, ⟨(.g 5), .bin .gtr (.l 4) (.c (.int .i64 2000)), none⟩])
  (.cond (.g 5) (.region [⟨(.l 6), .mv (.g 0), none⟩, ⟨(.l 7), .cutSl 1 (.l 6) none (some (.c (.int .i64 2000))), none⟩, ⟨(.g 0), .mv (.l 7), none⟩])
  (.skip)))
  (.seq (.region [⟨(.l 8), .mv (.g 0), none⟩, ⟨(.l 9), .build [.nils, (.int .i64 0)] [(0, 1, (.l 8))], none⟩, ⟨(.l 10), .box (.l 9), none⟩, ⟨(.g 2), .mv (.l 10), none⟩])
  (.ret)))⟩
theorem ln_spec_l6Open : Linked Try.prog fn_spec_l6Open ac_spec_l6Open := ⟨Try.f21, _, Try.func21, rfl, by kernel_rfl, by kernel_rfl, by kernel_rfl, by kernel_rfl⟩
def ac_spec_FindingsText : AF := ⟨[0, 2, 5], [.t 2],
  .seq (.region [⟨(.g 2), .mv (.c (.str [])), none⟩])
  (.seq (.seq (.region [⟨(.l 3), .mv (.g 0), none⟩, ⟨(.l 4), .call fn_spec_l42Valid [(.l 3)], none⟩, ⟨(.g 5), .un .not (.l 4), none⟩])
  (.cond (.g 5) (.seq (.region [⟨(.g 2), .mv (.c (.str [])), none⟩])
   (.ret))
  (.skip)))
  (.seq (.region [⟨(.l 6), .mv (.g 0), none⟩, ⟨(.l 7), .call fn_spec_l42Text [(.l 6)], none⟩, ⟨(.g 2), .mv (.l 7), none⟩])
  (.ret)))⟩
theorem ln_spec_FindingsText : Linked Try.prog fn_spec_FindingsText ac_spec_FindingsText := ⟨Try.f22, _, Try.func22, rfl, by kernel_rfl, by kernel_rfl, by kernel_rfl, by kernel_rfl⟩
def ac_spec_l92Found : AF := ⟨[0, 2, 3, 4, 5, 6, 12, 23, 45, 57], [.t 2],
  .seq (.region [⟨(.g 2), .mv (.c .nils), none⟩])
  (.seq (.region [⟨(.l 7), .lits 2 [], none⟩, ⟨(.g 3), .mv (.l 7), none⟩])
  (.seq (.region [⟨(.l 8), .mv (.g 0), none⟩, ⟨(.l 9), .call fn_spec_l6Rd_pick [(.l 8), (.c (.int .i64 5))], none⟩, ⟨(.g 4), .mv (.l 9), none⟩])
  (.seq (.seq (.region [⟨(.g 5), .mv (.c (.int .i64 0)), none⟩])
  (.block 0 (.loop (.seq (.seq (.region [⟨(.l 10), .mv (.g 5), none⟩, ⟨(.l 11), .mv (.g 4), none⟩, ⟨(.g 12), .bin .lss (.l 10) (.l 11), none⟩])
    (.cond (.g 12) (.skip)
    (.exit 0)))
    (.seq (.block 1 (.seq (.region [⟨(.l 15), .mv (.g 0), none⟩, ⟨(.l 16), .call fn_spec_l6Rd_pick [(.l 15), (.c (.int .i64 60))], none⟩, ⟨(.l 17), .mv (.g 0), none⟩, ⟨(.l 18), .call fn_spec_l6Rd_pick [(.l 17), (.c (.int .i64 11))], none⟩, ⟨(.l 19), .bin .add (.c (.int .i64 1)) (.l 18), none⟩, ⟨(.l 20), .build [(.int .i64 0), (.int .i64 0)] [(0, 1, (.l 16)), (1, 1, (.l 19))], none⟩, ⟨(.g 6), .alloc [(.int .i64 0), (.int .i64 0)], none⟩, ⟨.no, .store 2 (.g 6) (.l 20), none⟩])
     (.seq (.seq (.region [⟨(.l 21), .mv (.g 0), none⟩, ⟨(.l 22), .call fn_spec_l6Rd_pick [(.l 21), (.c (.int .i64 3))], none⟩, ⟨(.g 23), .bin .eql (.l 22) (.c (.int .i64 0)), none⟩])
     (.cond (.g 23) (.region [⟨(.l 24), .mv (.g 0), none⟩, ⟨(.l 25), .call fn_spec_l6Rd_pick [(.l 24), (.c (.int .i64 5))], none⟩, ⟨(.l 26), .bin .add (.c (.int .i64 101)) (.l 25), none⟩, ⟨(.l 27), .faddr 1 (.g 6), none⟩, ⟨.no, .store 1 (.l 27) (.l 26), none⟩])
     (.skip)))
     (.seq (.drawn [⟨(.l 28), .mv (.g 3), none⟩, ⟨(.l 29), .len (.l 28), none⟩, ⟨(.l 30), .bin .eql (.l 29) (.c (.int .i64 0)), none⟩, ⟨(.l 31), .mv (.l 30), none⟩, ⟨(.l 32), .mv (.g 3), (some ((.l 31), false))⟩, ⟨(.l 33), .mv (.g 3), (some ((.l 31), false))⟩, ⟨(.l 34), .len (.l 33), (some ((.l 31), false))⟩, ⟨(.l 35), .bin .sub (.l 34) (.c (.int .i64 1)), (some ((.l 31), false))⟩, ⟨(.l 36), .elS 2 (.l 32) (.l 35), (some ((.l 31), false))⟩, ⟨(.l 37), .load true 2 (.l 36), (some ((.l 31), false))⟩, ⟨(.l 38), .load true 2 (.g 6), (some ((.l 31), false))⟩] [[], [], [], [], [], [], [], [], [], [], [9, 8, 6]] [⟨(.l 39), .call fn_spec_l32Less [(.l 37), (.l 38)], (some ((.l 31), false))⟩, ⟨(.l 40), .pick (.l 31) (.c (.bool true)) (.l 39), none⟩, ⟨(.l 41), .mv (.l 40), none⟩, ⟨(.l 42), .mv (.g 0), (some ((.l 41), false))⟩, ⟨(.l 43), .call fn_spec_l6Rd_pick [(.l 42), (.c (.int .i64 16))], (some ((.l 41), false))⟩, ⟨(.l 44), .bin .eql (.l 43) (.c (.int .i64 0)), (some ((.l 41), false))⟩, ⟨(.g 45), .pick (.l 41) (.c (.bool true)) (.l 44), none⟩])
     (.cond (.g 45) (.region [⟨(.l 46), .mv (.g 3), none⟩, ⟨(.l 47), .load true 2 (.g 6), none⟩, ⟨(.l 48), .lits 2 [(.l 47)], none⟩, ⟨(.l 49), .append 2 16 (.l 46) (.l 48), none⟩, ⟨(.g 3), .mv (.l 49), none⟩])
     (.skip))))))
    (.region [⟨(.l 13), .mv (.g 5), none⟩, ⟨(.l 14), .bin .add (.l 13) (.c (.int .i64 1)), none⟩, ⟨(.g 5), .mv (.l 14), none⟩]))))))
  (.seq (.seq (.region [⟨(.l 50), .mv (.g 3), none⟩, ⟨(.l 51), .len (.l 50), none⟩, ⟨(.l 52), .bin .gtr (.l 51) (.c (.int .i64 0)), none⟩, ⟨(.l 53), .mv (.l 52), none⟩, ⟨(.l 54), .mv (.g 0), (some ((.l 53), true))⟩, ⟨(.l 55), .call fn_spec_l6Rd_pick [(.l 54), (.c (.int .i64 16))], (some ((.l 53), true))⟩, ⟨(.l 56), .bin .eql (.l 55) (.c (.int .i64 0)), (some ((.l 53), true))⟩, ⟨(.g 57), .pick (.l 53) (.l 56) (.c (.bool false)), none⟩])
  (.cond (.g 57) (.region [⟨(.l 58), .mv (.g 3), none⟩, ⟨(.l 59), .mv (.g 0), none⟩, ⟨(.l 60), .mv (.g 3), none⟩, ⟨(.l 61), .len (.l 60), none⟩, ⟨(.l 62), .call fn_spec_l6Rd_pick [(.l 59), (.l 61)], none⟩, ⟨(.l 63), .lits 1 [(.c (.int .i64 0)), (.c (.int .i64 12)), (.c (.int .i64 100)), (.c (.int .i64 106))], none⟩, ⟨(.l 64), .mv (.g 0), none⟩, ⟨(.l 65), .call fn_spec_l6Rd_pick [(.l 64), (.c (.int .i64 4))], none⟩, ⟨(.l 66), .elS 1 (.l 63) (.l 65), none⟩, ⟨(.l 67), .load false 1 (.l 66), none⟩, ⟨(.l 68), .elS 2 (.l 58) (.l 62), none⟩, ⟨(.l 69), .faddr 1 (.l 68), none⟩, ⟨.no, .store 1 (.l 69) (.l 67), none⟩])
  (.skip)))
  (.seq (.region [⟨(.l 70), .mv (.g 3), none⟩, ⟨(.g 2), .mv (.l 70), none⟩])
  (.ret))))))⟩
theorem ln_spec_l92Found : Linked Try.prog fn_spec_l92Found ac_spec_l92Found := ⟨Try.f23, _, Try.func23, rfl, by kernel_rfl, by kernel_rfl, by kernel_rfl, by kernel_rfl⟩
def ac_spec_l6Rd_pick : AF := ⟨[0, 1, 4, 5, 6, 24, 36], [.t 4],
  .seq (.region [⟨(.g 4), .mv (.c (.int .i64 0)), none⟩])
  (.seq (.region [⟨(.l 7), .mv (.g 0), none⟩, ⟨(.l 8), .mv (.g 0), none⟩, ⟨(.l 9), .nilc (.l 8), none⟩, ⟨(.l 10), .faddr 1 (.l 9), none⟩, ⟨(.l 11), .load false 1 (.l 10), none⟩, ⟨(.l 12), .bin .add (.l 11) (.c (.int .i64 1)), none⟩, ⟨(.l 13), .nilc (.l 7), none⟩, ⟨(.l 14), .faddr 1 (.l 13), none⟩, ⟨.no, .store 1 (.l 14) (.l 12), none⟩])
  (.seq (.seq (.region [⟨(.l 15), .mv (.g 1), none⟩, ⟨(.l 16), .bin .lss (.l 15) (.c (.int .i64 1)), none⟩, ⟨(.l 17), .mv (.l 16), none⟩, ⟨(.l 18), .mv (.g 0), (some ((.l 17), false))⟩, ⟨(.l 19), .nilc (.l 18), (some ((.l 17), false))⟩, ⟨(.l 20), .faddr 0 (.l 19), (some ((.l 17), false))⟩, ⟨(.l 21), .load false 1 (.l 20), (some ((.l 17), false))⟩, ⟨(.l 22), .len (.l 21), (some ((.l 17), false))⟩, ⟨(.l 23), .bin .eql (.l 22) (.c (.int .i64 0)), (some ((.l 17), false))⟩, ⟨(.g 24), .pick (.l 17) (.c (.bool true)) (.l 23), none⟩])
  (.cond (.g 24) (.seq (.region [⟨(.g 4), .mv (.c (.int .i64 0)), none⟩])
   (.ret))
  (.skip)))
  (.seq (.region [⟨(.l 25), .mv (.g 0), none⟩, ⟨(.l 26), .nilc (.l 25), none⟩, ⟨(.l 27), .faddr 1 (.l 26), none⟩, ⟨(.l 28), .load false 1 (.l 27), none⟩, ⟨(.l 29), .bin .sub (.l 28) (.c (.int .i64 1)), none⟩, ⟨(.g 5), .mv (.l 29), none⟩])
  (.seq (.seq (.region [⟨(.l 30), .mv (.g 5), none⟩, ⟨(.l 31), .mv (.g 0), none⟩, ⟨(.l 32), .nilc (.l 31), none⟩, ⟨(.l 33), .faddr 0 (.l 32), none⟩, ⟨(.l 34), .load false 1 (.l 33), none⟩, ⟨(.l 35), .len (.l 34), none⟩, ⟨(.g 36), .bin .lss (.l 30) (.l 35), none⟩])
  (.cond (.g 36) (.seq (.region [⟨(.l 37), .mv (.g 0), none⟩, ⟨(.l 38), .nilc (.l 37), none⟩, ⟨(.l 39), .faddr 0 (.l 38), none⟩, ⟨(.l 40), .load false 1 (.l 39), none⟩, ⟨(.l 41), .mv (.g 5), none⟩, ⟨(.l 42), .elS 1 (.l 40) (.l 41), none⟩, ⟨(.l 43), .load false 1 (.l 42), none⟩, ⟨(.l 44), .conv .i64 (.l 43), none⟩, ⟨(.l 45), .mv (.g 1), none⟩, ⟨(.l 46), .bin .rem (.l 44) (.l 45), none⟩, ⟨(.g 4), .mv (.l 46), none⟩])
   (.ret))
  (.skip)))
  (.seq (.drawn [⟨(.l 47), .mv (.g 0), none⟩, ⟨(.l 48), .nilc (.l 47), none⟩, ⟨(.l 49), .faddr 0 (.l 48), none⟩, ⟨(.l 50), .load false 1 (.l 49), none⟩, ⟨(.l 51), .mv (.g 5), none⟩, ⟨(.l 52), .mv (.g 0), none⟩, ⟨(.l 53), .nilc (.l 52), none⟩, ⟨(.l 54), .faddr 0 (.l 53), none⟩, ⟨(.l 55), .load false 1 (.l 54), none⟩, ⟨(.l 56), .len (.l 55), none⟩, ⟨(.l 57), .bin .rem (.l 51) (.l 56), none⟩, ⟨(.l 58), .elS 1 (.l 50) (.l 57), none⟩, ⟨(.l 59), .load false 1 (.l 58), none⟩, ⟨(.l 60), .conv .i64 (.l 59), none⟩, ⟨(.l 61), .bin .mul (.l 60) (.c (.int .i64 131)), none⟩, ⟨(.l 62), .mv (.g 0), none⟩, ⟨(.l 63), .nilc (.l 62), none⟩, ⟨(.l 64), .faddr 0 (.l 63), none⟩, ⟨(.l 65), .load false 1 (.l 64), none⟩, ⟨(.l 66), .mv (.g 5), none⟩, ⟨(.l 67), .bin .mul (.l 66) (.c (.int .i64 7)), none⟩, ⟨(.l 68), .bin .add (.l 67) (.c (.int .i64 3)), none⟩, ⟨(.l 69), .mv (.g 0), none⟩, ⟨(.l 70), .nilc (.l 69), none⟩, ⟨(.l 71), .faddr 0 (.l 70), none⟩, ⟨(.l 72), .load false 1 (.l 71), none⟩, ⟨(.l 73), .len (.l 72), none⟩, ⟨(.l 74), .bin .rem (.l 68) (.l 73), none⟩, ⟨(.l 75), .elS 1 (.l 65) (.l 74), none⟩, ⟨(.l 76), .load false 1 (.l 75), none⟩, ⟨(.l 77), .conv .i64 (.l 76), none⟩, ⟨(.l 78), .bin .mul (.l 77) (.c (.int .i64 1117)), none⟩, ⟨(.l 79), .bin .add (.l 61) (.l 78), none⟩, ⟨(.l 80), .mv (.g 5), none⟩, ⟨(.l 81), .bin .mul (.l 80) (.c (.int .i64 29)), none⟩, ⟨(.l 82), .bin .add (.l 79) (.l 81), none⟩, ⟨(.l 83), .mv (.g 5), none⟩, ⟨(.l 84), .mv (.g 0), none⟩, ⟨(.l 85), .nilc (.l 84), none⟩, ⟨(.l 86), .faddr 0 (.l 85), none⟩, ⟨(.l 87), .load false 1 (.l 86), none⟩, ⟨(.l 88), .len (.l 87), none⟩, ⟨(.l 89), .bin .quo (.l 83) (.l 88), none⟩, ⟨(.l 90), .bin .mul (.l 89) (.c (.int .i64 53)), none⟩] [[], [], [], [], [], [], [], [], [3], [3], [], [], [], [], [], [], [], [], [12, 11, 9, 8, 3], [], [], [], [], [], [], [18, 12, 11, 9, 8, 3], [18, 12, 11, 9, 8, 3], [], [12, 11, 9, 8, 3], [12, 11, 9, 8, 3], [], [], [], [], [], [], [], [], [], [], [29, 28, 26, 25, 18, 12, 11, 9, 8, 3], [29, 28, 26, 25, 18, 12, 11, 9, 8, 3], [], []] [⟨(.l 91), .bin .add (.l 82) (.l 90), none⟩, ⟨(.g 6), .mv (.l 91), none⟩])
  (.seq (.region [⟨(.l 92), .mv (.g 6), none⟩, ⟨(.l 93), .mv (.g 6), none⟩, ⟨(.l 94), .bin .quo (.l 93) (.c (.int .i64 64)), none⟩, ⟨(.l 95), .bin .xor (.l 92) (.l 94), none⟩, ⟨(.g 6), .mv (.l 95), none⟩])
  (.seq (.region [⟨(.l 96), .mv (.g 6), none⟩, ⟨(.l 97), .mv (.g 1), none⟩, ⟨(.l 98), .bin .rem (.l 96) (.l 97), none⟩, ⟨(.g 4), .mv (.l 98), none⟩])
  (.ret))))))))⟩
theorem ln_spec_l6Rd_pick : Linked Try.prog fn_spec_l6Rd_pick ac_spec_l6Rd_pick := ⟨Try.f24, _, Try.func24, rfl, by kernel_rfl, by kernel_rfl, by kernel_rfl, by kernel_rfl⟩
def ac_spec_l6Rd_of : AF := ⟨[0, 1, 4], [.t 4],
  .seq (.region [⟨(.g 4), .mv (.c (.str [])), none⟩])
  (.seq (.region [⟨(.l 5), .mv (.g 1), none⟩, ⟨(.l 6), .mv (.g 0), none⟩, ⟨(.l 7), .mv (.g 1), none⟩, ⟨(.l 8), .len (.l 7), none⟩, ⟨(.l 9), .call fn_spec_l6Rd_pick [(.l 6), (.l 8)], none⟩, ⟨(.l 10), .elS 1 (.l 5) (.l 9), none⟩, ⟨(.l 11), .load false 1 (.l 10), none⟩, ⟨(.g 4), .mv (.l 11), none⟩])
  (.ret))⟩
theorem ln_spec_l6Rd_of : Linked Try.prog fn_spec_l6Rd_of ac_spec_l6Rd_of := ⟨Try.f25, _, Try.func25, rfl, by kernel_rfl, by kernel_rfl, by kernel_rfl, by kernel_rfl⟩
def ac_spec_l91Spoil : AF := ⟨[0, 1, 4, 5, 12, 19, 20, 25, 29], [.t 4],
  .seq (.region [⟨(.g 4), .mv (.c (.str [])), none⟩])
  (.seq (.seq (.region [⟨(.l 6), .mv (.g 1), none⟩, ⟨(.l 7), .bin .eql (.l 6) (.c (.str [])), none⟩, ⟨(.l 8), .mv (.l 7), none⟩, ⟨(.l 9), .mv (.g 0), (some ((.l 8), false))⟩, ⟨(.l 10), .call fn_spec_l6Rd_pick [(.l 9), (.c (.int .i64 3))], (some ((.l 8), false))⟩, ⟨(.l 11), .bin .gtr (.l 10) (.c (.int .i64 0)), (some ((.l 8), false))⟩, ⟨(.g 12), .pick (.l 8) (.c (.bool true)) (.l 11), none⟩])
  (.cond (.g 12) (.seq (.region [⟨(.l 13), .mv (.g 1), none⟩, ⟨(.g 4), .mv (.l 13), none⟩])
   (.ret))
  (.skip)))
  (.seq (.region [⟨(.l 14), .mv (.g 0), none⟩, ⟨(.l 15), .mv (.g 1), none⟩, ⟨(.l 16), .lenStr (.l 15), none⟩, ⟨(.l 17), .call fn_spec_l6Rd_pick [(.l 14), (.l 16)], none⟩, ⟨(.g 5), .mv (.l 17), none⟩])
  (.seq (.seq (.region [⟨(.l 18), .mv (.g 0), none⟩, ⟨(.g 19), .call fn_spec_l6Rd_pick [(.l 18), (.c (.int .i64 4))], none⟩])
  (.block 0 (.seq (.region [⟨(.l 21), .bin .eql (.g 19) (.c (.int .i64 0)), none⟩, ⟨(.g 20), .mv (.l 21), none⟩])
   (.cond (.g 20) (.seq (.region [⟨(.l 22), .mv (.g 1), none⟩, ⟨(.l 23), .mv (.g 5), none⟩, ⟨(.l 24), .cutStr (.l 22) none (some (.l 23)), none⟩, ⟨(.g 4), .mv (.l 24), none⟩])
    (.ret))
   (.seq (.region [⟨(.l 26), .bin .eql (.g 19) (.c (.int .i64 1)), none⟩, ⟨(.g 25), .mv (.l 26), none⟩])
    (.cond (.g 25) (.seq (.region [⟨(.l 27), .mv (.g 1), none⟩, ⟨(.l 28), .bin .add (.l 27) (.c (.str [0])), none⟩, ⟨(.g 4), .mv (.l 28), none⟩])
     (.ret))
    (.seq (.region [⟨(.l 30), .bin .eql (.g 19) (.c (.int .i64 2)), none⟩, ⟨(.g 29), .mv (.l 30), none⟩])
     (.cond (.g 29) (.seq (.drawn [⟨(.l 31), .mv (.g 1), none⟩, ⟨(.l 32), .mv (.g 5), none⟩, ⟨(.l 33), .cutStr (.l 31) none (some (.l 32)), none⟩, ⟨(.l 34), .mv (.g 1), none⟩, ⟨(.l 35), .mv (.g 5), none⟩, ⟨(.l 36), .bin .add (.l 35) (.c (.int .i64 1)), none⟩, ⟨(.l 37), .cutStr (.l 34) (some (.l 36)) none, none⟩] [[], [], [], [], [], [], []] [⟨(.l 38), .bin .add (.l 33) (.l 37), none⟩, ⟨(.g 4), .mv (.l 38), none⟩])
      (.ret))
     (.skip)))))))))
  (.seq (.drawn [⟨(.l 39), .mv (.g 1), none⟩, ⟨(.l 40), .mv (.g 5), none⟩, ⟨(.l 41), .cutStr (.l 39) none (some (.l 40)), none⟩, ⟨(.l 42), .mv (.g 0), none⟩, ⟨(.l 43), .call fn_spec_l6Rd_pick [(.l 42), (.c (.int .i64 256))], none⟩, ⟨(.l 44), .conv .u8 (.l 43), none⟩, ⟨(.l 45), .lits 1 [(.l 44)], none⟩, ⟨(.l 46), .toStr (.l 45), none⟩, ⟨(.l 47), .bin .add (.l 41) (.l 46), none⟩, ⟨(.l 48), .mv (.g 1), none⟩, ⟨(.l 49), .mv (.g 5), none⟩, ⟨(.l 50), .bin .add (.l 49) (.c (.int .i64 1)), none⟩, ⟨(.l 51), .cutStr (.l 48) (some (.l 50)) none, none⟩] [[], [], [], [], [], [], [], [], [], [], [], [], []] [⟨(.l 52), .bin .add (.l 47) (.l 51), none⟩, ⟨(.g 4), .mv (.l 52), none⟩])
  (.ret)))))⟩
theorem ln_spec_l91Spoil : Linked Try.prog fn_spec_l91Spoil ac_spec_l91Spoil := ⟨Try.f26, _, Try.func26, rfl, by kernel_rfl, by kernel_rfl, by kernel_rfl, by kernel_rfl⟩
def ac_spec_l6In : AF := ⟨[0, 1, 2, 6], [.t 6],
  .seq (.region [⟨(.g 6), .mv (.c (.bool false)), none⟩])
  (.seq (.region [⟨(.l 7), .mv (.g 0), none⟩, ⟨(.l 8), .mv (.g 1), none⟩, ⟨(.l 9), .bin .geq (.l 7) (.l 8), none⟩, ⟨(.l 10), .mv (.l 9), none⟩, ⟨(.l 11), .mv (.g 0), (some ((.l 10), true))⟩, ⟨(.l 12), .mv (.g 2), (some ((.l 10), true))⟩, ⟨(.l 13), .bin .leq (.l 11) (.l 12), (some ((.l 10), true))⟩, ⟨(.l 14), .pick (.l 10) (.l 13) (.c (.bool false)), none⟩, ⟨(.g 6), .mv (.l 14), none⟩])
  (.ret))⟩
theorem ln_spec_l6In : Linked Try.prog fn_spec_l6In ac_spec_l6In := ⟨Try.f27, _, Try.func27, rfl, by kernel_rfl, by kernel_rfl, by kernel_rfl, by kernel_rfl⟩
def ac_spec_l32Finding : AF := ⟨[0, 1, 2, 4], [.t 4],
  .seq (.region [⟨(.g 2), .box (.g 0), none⟩, ⟨(.g 4), .mv (.c (.bool false)), none⟩])
  (.seq (.region [⟨(.l 5), .faddr 0 (.g 2), none⟩, ⟨(.l 6), .load false 1 (.l 5), none⟩, ⟨(.l 7), .mv (.g 1), none⟩, ⟨(.l 8), .bin .sub (.l 7) (.c (.int .i64 1)), none⟩, ⟨(.l 9), .call fn_spec_l6In [(.l 6), (.c (.int .i64 0)), (.l 8)], none⟩, ⟨(.l 10), .mv (.l 9), none⟩, ⟨(.l 11), .faddr 1 (.g 2), (some ((.l 10), true))⟩, ⟨(.l 12), .load false 1 (.l 11), (some ((.l 10), true))⟩, ⟨(.l 13), .call fn_spec_l6In [(.l 12), (.c (.int .i64 1)), (.c (.int .i64 11))], (some ((.l 10), true))⟩, ⟨(.l 14), .mv (.l 13), (some ((.l 10), true))⟩, ⟨(.l 15), .faddr 1 (.g 2), (some ((.l 14), false))⟩, ⟨(.l 16), .load false 1 (.l 15), (some ((.l 14), false))⟩, ⟨(.l 17), .call fn_spec_l6In [(.l 16), (.c (.int .i64 101)), (.c (.int .i64 105))], (some ((.l 14), false))⟩, ⟨(.l 18), .pick (.l 14) (.c (.bool true)) (.l 17), (some ((.l 10), true))⟩, ⟨(.l 19), .pick (.l 10) (.l 18) (.c (.bool false)), none⟩, ⟨(.g 4), .mv (.l 19), none⟩])
  (.ret))⟩
theorem ln_spec_l32Finding : Linked Try.prog fn_spec_l32Finding ac_spec_l32Finding := ⟨Try.f28, _, Try.func28, rfl, by kernel_rfl, by kernel_rfl, by kernel_rfl, by kernel_rfl⟩
def ac_spec_l32Less : AF := ⟨[0, 1, 2, 3, 4], [.t 4],
  .seq (.region [⟨(.g 2), .box (.g 0), none⟩, ⟨(.g 3), .box (.g 1), none⟩, ⟨(.g 4), .mv (.c (.bool false)), none⟩])
  (.seq (.region [⟨(.l 5), .faddr 0 (.g 2), none⟩, ⟨(.l 6), .load false 1 (.l 5), none⟩, ⟨(.l 7), .faddr 0 (.g 3), none⟩, ⟨(.l 8), .load false 1 (.l 7), none⟩, ⟨(.l 9), .bin .lss (.l 6) (.l 8), none⟩, ⟨(.l 10), .mv (.l 9), none⟩, ⟨(.l 11), .faddr 0 (.g 2), (some ((.l 10), false))⟩, ⟨(.l 12), .load false 1 (.l 11), (some ((.l 10), false))⟩, ⟨(.l 13), .faddr 0 (.g 3), (some ((.l 10), false))⟩, ⟨(.l 14), .load false 1 (.l 13), (some ((.l 10), false))⟩, ⟨(.l 15), .bin .eql (.l 12) (.l 14), (some ((.l 10), false))⟩, ⟨(.l 16), .mv (.l 15), (some ((.l 10), false))⟩, ⟨(.l 17), .faddr 1 (.g 2), (some ((.l 16), true))⟩, ⟨(.l 18), .load false 1 (.l 17), (some ((.l 16), true))⟩, ⟨(.l 19), .faddr 1 (.g 3), (some ((.l 16), true))⟩, ⟨(.l 20), .load false 1 (.l 19), (some ((.l 16), true))⟩, ⟨(.l 21), .bin .lss (.l 18) (.l 20), (some ((.l 16), true))⟩, ⟨(.l 22), .pick (.l 16) (.l 21) (.c (.bool false)), (some ((.l 10), false))⟩, ⟨(.l 23), .pick (.l 10) (.c (.bool true)) (.l 22), none⟩, ⟨(.g 4), .mv (.l 23), none⟩])
  (.ret))⟩
theorem ln_spec_l32Less : Linked Try.prog fn_spec_l32Less ac_spec_l32Less := ⟨Try.f29, _, Try.func29, rfl, by kernel_rfl, by kernel_rfl, by kernel_rfl, by kernel_rfl⟩
def ac_spec_l42Text : AF := ⟨[0, 2, 3, 4, 8], [.t 2],
  .seq (.region [⟨(.g 2), .mv (.c (.str [])), none⟩])
  (.seq (.region [⟨(.g 3), .mv (.c (.str [])), none⟩])
  (.seq (.seq (.region [⟨(.g 4), .mv (.c (.int .i64 0)), none⟩])
  (.block 0 (.loop (.seq (.seq (.region [⟨(.l 5), .mv (.g 4), none⟩, ⟨(.l 6), .mv (.g 0), none⟩, ⟨(.l 7), .len (.l 6), none⟩, ⟨(.g 8), .bin .lss (.l 5) (.l 7), none⟩])
    (.cond (.g 8) (.skip)
    (.exit 0)))
    (.seq (.block 1 (.drawn [⟨(.l 11), .mv (.g 3), none⟩, ⟨(.l 12), .mv (.g 0), none⟩, ⟨(.l 13), .mv (.g 4), none⟩, ⟨(.l 14), .elS 2 (.l 12) (.l 13), none⟩, ⟨(.l 15), .faddr 0 (.l 14), none⟩, ⟨(.l 16), .load false 1 (.l 15), none⟩, ⟨(.l 17), .call fn_spec_l6Dec [(.l 16)], none⟩, ⟨(.l 18), .bin .add (.l 11) (.l 17), none⟩, ⟨(.l 19), .bin .add (.l 18) (.c (.str [32])), none⟩, ⟨(.l 20), .mv (.g 0), none⟩, ⟨(.l 21), .mv (.g 4), none⟩, ⟨(.l 22), .elS 2 (.l 20) (.l 21), none⟩, ⟨(.l 23), .faddr 1 (.l 22), none⟩, ⟨(.l 24), .load false 1 (.l 23), none⟩, ⟨(.l 25), .call fn_spec_l6Dec [(.l 24)], none⟩] [[], [], [], [], [], [], [], [], [], [], [], [6, 5, 3], [], [6, 5, 3], []] [⟨(.l 26), .bin .add (.l 19) (.l 25), none⟩, ⟨(.l 27), .bin .add (.l 26) (.c (.str [10])), none⟩, ⟨(.g 3), .mv (.l 27), none⟩]))
    (.region [⟨(.l 9), .mv (.g 4), none⟩, ⟨(.l 10), .bin .add (.l 9) (.c (.int .i64 1)), none⟩, ⟨(.g 4), .mv (.l 10), none⟩]))))))
  (.seq (.region [⟨(.l 28), .mv (.g 3), none⟩, ⟨(.g 2), .mv (.l 28), none⟩])
  (.ret))))⟩
theorem ln_spec_l42Text : Linked Try.prog fn_spec_l42Text ac_spec_l42Text := ⟨Try.f31, _, Try.func31, rfl, by kernel_rfl, by kernel_rfl, by kernel_rfl, by kernel_rfl⟩
def ac_spec_l6Dec : AF := ⟨[0, 2, 4, 6, 12], [.t 2],
  .seq (.region [⟨(.g 2), .mv (.c (.str [])), none⟩])
  (.seq (.seq (.region [⟨(.l 3), .mv (.g 0), none⟩, ⟨(.g 4), .bin .lss (.l 3) (.c (.int .i64 (-9223372036854775807))), none⟩])
  (.cond (.g 4) (.seq (.region [⟨(.g 2), .mv (.c (.str [45, 57, 50, 50, 51, 51, 55, 50, 48, 51, 54, 56, 53, 52, 55, 55, 53, 56, 48, 56])), none⟩])
   (.ret))
  (.skip)))
  (.seq (.seq (.region [⟨(.l 5), .mv (.g 0), none⟩, ⟨(.g 6), .bin .lss (.l 5) (.c (.int .i64 0)), none⟩])
  (.cond (.g 6) (.seq (.region [⟨(.l 7), .mv (.g 0), none⟩, ⟨(.l 8), .un .neg (.l 7), none⟩, ⟨(.l 9), .call fn_spec_l6Dec [(.l 8)], none⟩, ⟨(.l 10), .bin .add (.c (.str [45])) (.l 9), none⟩, ⟨(.g 2), .mv (.l 10), none⟩])
   (.ret))
  (.skip)))
  (.seq (.seq (.region [⟨(.l 11), .mv (.g 0), none⟩, ⟨(.g 12), .bin .lss (.l 11) (.c (.int .i64 10)), none⟩])
  (.cond (.g 12) (.seq (.region [⟨(.l 13), .mv (.g 0), none⟩, ⟨(.l 14), .bin .add (.c (.int .i64 48)) (.l 13), none⟩, ⟨(.l 15), .conv .u8 (.l 14), none⟩, ⟨(.l 16), .lits 1 [(.l 15)], none⟩, ⟨(.l 17), .toStr (.l 16), none⟩, ⟨(.g 2), .mv (.l 17), none⟩])
   (.ret))
  (.skip)))
  (.seq (.drawn [⟨(.l 18), .mv (.g 0), none⟩, ⟨(.l 19), .bin .quo (.l 18) (.c (.int .i64 10)), none⟩, ⟨(.l 20), .call fn_spec_l6Dec [(.l 19)], none⟩, ⟨(.l 21), .mv (.g 0), none⟩, ⟨(.l 22), .bin .rem (.l 21) (.c (.int .i64 10)), none⟩, ⟨(.l 23), .bin .add (.c (.int .i64 48)) (.l 22), none⟩, ⟨(.l 24), .conv .u8 (.l 23), none⟩, ⟨(.l 25), .lits 1 [(.l 24)], none⟩, ⟨(.l 26), .toStr (.l 25), none⟩] [[], [], [], [], [], [], [], [2], [2]] [⟨(.l 27), .bin .add (.l 20) (.l 26), none⟩, ⟨(.g 2), .mv (.l 27), none⟩])
  (.ret)))))⟩
theorem ln_spec_l6Dec : Linked Try.prog fn_spec_l6Dec ac_spec_l6Dec := ⟨Try.f33, _, Try.func33, rfl, by kernel_rfl, by kernel_rfl, by kernel_rfl, by kernel_rfl⟩
end Go.Proofs.Ytpiafiapjmldgaa
