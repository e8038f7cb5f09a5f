/-
  The abstract code of the program's functions: written by a program, and compared by the kernel with what the model's code comes to.
-/
import Derived.Test.YtnhhcfbigjpfeaaDoorQ15
import Derived.Test.YtnhhcfbigjpfeaaDoorProg
import Derived.KernelRfl
namespace Go.Proofs.YtnhhcfbigjpfeaaDoor
set_option maxRecDepth 100000
set_option linter.all false
def fn_laws_FnExactReportText : Nat := 3
def fn_laws_szMonitor : Nat := 4
def fn_spec_ReportText : Nat := 5
def fn_laws_toMonitor : Nat := 6
def fn_impl_ReportText : Nat := 7
def fn_laws_eqMonitor : Nat := 8
def fn_laws_szAssocS : Nat := 9
def fn_laws_szFindingS : Nat := 10
def fn_spec_MonitorValid : Nat := 11
def fn_spec_l6Dec : Nat := 12
def fn_spec_l42Side : Nat := 13
def fn_spec_l42Text : Nat := 14
def fn_laws_toAssocS : Nat := 15
def fn_laws_toFindingS : Nat := 16
def fn_impl_MonitorValid : Nat := 17
def fn_strings_Builder_WriteString : Nat := 18
def fn_strconv_Itoa : Nat := 19
def fn_impl_sideLines : Nat := 20
def fn_impl_FindingsText : Nat := 21
def fn_strings_Builder_String : Nat := 22
def fn_laws_eqAssocS : Nat := 23
def fn_laws_eqFindingS : Nat := 24
def fn_laws_szAssoc : Nat := 25
def fn_spec_AssocValid : Nat := 26
def fn_spec_l32Pair : Nat := 27
def fn_spec_l32Finding : Nat := 28
def fn_spec_l32Less : Nat := 29
def fn_spec_l6In : Nat := 30
def fn_spec_l31Said : Nat := 31
def fn_spec_l42Message : Nat := 32
def fn_laws_toAssoc : Nat := 33
def fn_laws_toFinding : Nat := 34
def fn_impl_AssocValid : Nat := 35
def fn_impl_samePorts : Nat := 36
def fn_impl_foundOk : Nat := 37
def fn_strings_Builder_copyCheck : Nat := 38
def fn_impl_SideKnown : Nat := 40
def fn_impl_SideSaid : Nat := 41
def fn_impl_MessageText : Nat := 42
def fn_laws_eqAssoc : Nat := 43
def fn_laws_eqFinding : Nat := 44
def fn_laws_szSide : Nat := 45
def fn_spec_SideValid : Nat := 46
def fn_spec_l31Open : Nat := 47
def fn_spec_l1Hex : Nat := 48
def fn_laws_toSide : Nat := 49
def fn_impl_SideValid : Nat := 50
def fn_impl_saidIn : Nat := 53
def fn_impl_serialOk : Nat := 54
def fn_impl_hexOf : Nat := 55
def fn_laws_eqSide : Nat := 56
def fn_laws_szDataS : Nat := 57
def fn_spec_l12Data : Nat := 58
def fn_spec_l3Add : Nat := 59
def fn_spec_l31Follows : Nat := 60
def fn_spec_l3Ok : Nat := 61
def fn_laws_toDataS : Nat := 62
def fn_impl_dataOk : Nat := 63
def fn_impl_SerialAdd : Nat := 64
def fn_impl_mayFollow : Nat := 65
def fn_laws_eqDataS : Nat := 70
def fn_laws_szData : Nat := 71
def fn_spec_l22Same : Nat := 72
def fn_spec_l31Ssn : Nat := 73
def fn_laws_toData : Nat := 74
def fn_impl_likeParts : Nat := 75
def fn_laws_eqData : Nat := 81
def ac_laws_szMonitor : AF := ⟨[0, 1, 2, 4, 10, 16], [.t 4],
  .seq (.region [⟨(.g 2), .box (.g 0), none⟩, ⟨(.g 4), .mv (.c (.int .i64 0)), none⟩])
  (.seq (.region [⟨(.l 5), .faddr 1 (.g 2), none⟩, ⟨(.l 6), .load false 1 (.l 5), none⟩, ⟨(.l 7), .mv (.g 1), none⟩, ⟨(.l 8), .call fn_laws_szAssocS [(.l 6), (.l 7)], none⟩, ⟨(.g 1), .mv (.l 8), none⟩])
  (.seq (.seq (.region [⟨(.l 9), .mv (.g 1), none⟩, ⟨(.g 10), .bin .lss (.l 9) (.c (.int .i64 0)), none⟩])
  (.cond (.g 10) (.seq (.region [⟨(.g 4), .mv (.c (.int .i64 (-1))), none⟩])
   (.ret))
  (.skip)))
  (.seq (.region [⟨(.l 11), .faddr 2 (.g 2), none⟩, ⟨(.l 12), .load false 1 (.l 11), none⟩, ⟨(.l 13), .mv (.g 1), none⟩, ⟨(.l 14), .call fn_laws_szFindingS [(.l 12), (.l 13)], none⟩, ⟨(.g 1), .mv (.l 14), none⟩])
  (.seq (.seq (.region [⟨(.l 15), .mv (.g 1), none⟩, ⟨(.g 16), .bin .lss (.l 15) (.c (.int .i64 0)), none⟩])
  (.cond (.g 16) (.seq (.region [⟨(.g 4), .mv (.c (.int .i64 (-1))), none⟩])
   (.ret))
  (.skip)))
  (.seq (.region [⟨(.l 17), .mv (.g 1), none⟩, ⟨(.g 4), .mv (.l 17), none⟩])
  (.ret))))))⟩
theorem ln_laws_szMonitor : Linked Tryd.prog fn_laws_szMonitor ac_laws_szMonitor := ⟨Tryd.f4, _, Tryd.func4, rfl, by kernel_rfl, by kernel_rfl, by kernel_rfl, by kernel_rfl⟩
def ac_spec_ReportText : AF := ⟨[0, 1, 2, 3, 4, 5, 6, 9, 19], [.t 2],
  .seq (.region [⟨(.g 1), .box (.g 0), none⟩, ⟨(.g 2), .mv (.c (.str [])), none⟩])
  (.seq (.seq (.region [⟨(.l 7), .load true 3 (.g 1), none⟩, ⟨(.l 8), .call fn_spec_MonitorValid [(.l 7)], none⟩, ⟨(.g 9), .un .not (.l 8), none⟩])
  (.cond (.g 9) (.seq (.region [⟨(.g 2), .mv (.c (.str [])), none⟩])
   (.ret))
  (.skip)))
  (.seq (.region [⟨(.l 10), .faddr 0 (.g 1), none⟩, ⟨(.l 11), .load false 1 (.l 10), none⟩, ⟨(.l 12), .call fn_spec_l6Dec [(.l 11)], none⟩, ⟨(.l 13), .bin .add (.c (.str [114, 101, 99, 111, 114, 100, 115, 32])) (.l 12), none⟩, ⟨(.l 14), .bin .add (.l 13) (.c (.str [10])), none⟩, ⟨(.g 3), .mv (.l 14), none⟩])
  (.seq (.seq (.region [⟨(.g 4), .mv (.c (.int .i64 0)), none⟩])
  (.block 0 (.loop (.seq (.seq (.region [⟨(.l 15), .mv (.g 4), none⟩, ⟨(.l 16), .faddr 1 (.g 1), none⟩, ⟨(.l 17), .load false 1 (.l 16), none⟩, ⟨(.l 18), .len (.l 17), none⟩, ⟨(.g 19), .bin .lss (.l 15) (.l 18), none⟩])
    (.cond (.g 19) (.skip)
    (.exit 0)))
    (.seq (.block 1 (.seq (.region [⟨(.l 22), .faddr 1 (.g 1), none⟩, ⟨(.l 23), .load false 1 (.l 22), none⟩, ⟨(.l 24), .mv (.g 4), none⟩, ⟨(.l 25), .elS 14 (.l 23) (.l 24), none⟩, ⟨(.l 26), .load true 14 (.l 25), none⟩, ⟨(.g 5), .alloc [(.int .i64 0), (.int .i64 0), (.int .i64 0), (.bool false), (.int .i64 0), (.int .i64 0), (.int .i64 0), .nils, (.int .i64 0), (.int .i64 0), (.int .i64 0), (.int .i64 0), .nils, (.int .i64 0)], none⟩, ⟨.no, .store 14 (.g 5) (.l 26), none⟩])
     (.seq (.region [⟨(.l 27), .lits 1 [(.c (.str [110, 101, 119])), (.c (.str [105, 110, 105, 116])), (.c (.str [105, 110, 105, 116, 97, 99, 107])), (.c (.str [99, 111, 111, 107, 105, 101])), (.c (.str [111, 112, 101, 110])), (.c (.str [115, 104, 117, 116])), (.c (.str [115, 104, 117, 116, 97, 99, 107])), (.c (.str [111, 118, 101, 114]))], none⟩, ⟨(.l 28), .faddr 2 (.g 5), none⟩, ⟨(.l 29), .load false 1 (.l 28), none⟩, ⟨(.l 30), .elS 1 (.l 27) (.l 29), none⟩, ⟨(.l 31), .load false 1 (.l 30), none⟩, ⟨(.g 6), .mv (.l 31), none⟩])
     (.drawn [⟨(.l 32), .mv (.g 3), none⟩, ⟨(.l 33), .bin .add (.l 32) (.c (.str [102, 114, 111, 109, 32])), none⟩, ⟨(.l 34), .faddr 0 (.g 5), none⟩, ⟨(.l 35), .load false 1 (.l 34), none⟩, ⟨(.l 36), .call fn_spec_l6Dec [(.l 35)], none⟩, ⟨(.l 37), .bin .add (.l 33) (.l 36), none⟩, ⟨(.l 38), .bin .add (.l 37) (.c (.str [32, 116, 111, 32])), none⟩, ⟨(.l 39), .faddr 1 (.g 5), none⟩, ⟨(.l 40), .load false 1 (.l 39), none⟩, ⟨(.l 41), .call fn_spec_l6Dec [(.l 40)], none⟩, ⟨(.l 42), .bin .add (.l 38) (.l 41), none⟩, ⟨(.l 43), .bin .add (.l 42) (.c (.str [32])), none⟩, ⟨(.l 44), .mv (.g 6), none⟩, ⟨(.l 45), .bin .add (.l 43) (.l 44), none⟩, ⟨(.l 46), .bin .add (.l 45) (.c (.str [10])), none⟩, ⟨(.l 47), .faddr 4 (.g 5), none⟩, ⟨(.l 48), .load true 5 (.l 47), none⟩, ⟨(.l 49), .call fn_spec_l42Side [(.c (.str [97])), (.l 48)], none⟩, ⟨(.l 50), .bin .add (.l 46) (.l 49), none⟩, ⟨(.l 51), .faddr 9 (.g 5), none⟩, ⟨(.l 52), .load true 5 (.l 51), none⟩, ⟨(.l 53), .call fn_spec_l42Side [(.c (.str [98])), (.l 52)], none⟩] [[], [], [], [], [], [], [], [], [4, 3], [], [], [], [], [], [], [], [9, 8, 4, 3], [], [], [], [17, 16, 9, 8, 4, 3], []] [⟨(.l 54), .bin .add (.l 50) (.l 53), none⟩, ⟨(.g 3), .mv (.l 54), none⟩]))))
    (.region [⟨(.l 20), .mv (.g 4), none⟩, ⟨(.l 21), .bin .add (.l 20) (.c (.int .i64 1)), none⟩, ⟨(.g 4), .mv (.l 21), none⟩]))))))
  (.seq (.drawn [⟨(.l 55), .mv (.g 3), none⟩, ⟨(.l 56), .bin .add (.l 55) (.c (.str [102, 111, 117, 110, 100, 32])), none⟩, ⟨(.l 57), .faddr 2 (.g 1), none⟩, ⟨(.l 58), .load false 1 (.l 57), none⟩, ⟨(.l 59), .len (.l 58), none⟩, ⟨(.l 60), .call fn_spec_l6Dec [(.l 59)], none⟩, ⟨(.l 61), .bin .add (.l 56) (.l 60), none⟩, ⟨(.l 62), .bin .add (.l 61) (.c (.str [10])), none⟩, ⟨(.l 63), .faddr 2 (.g 1), none⟩, ⟨(.l 64), .load false 1 (.l 63), none⟩, ⟨(.l 65), .call fn_spec_l42Text [(.l 64)], none⟩] [[], [], [], [], [], [], [], [], [], [5, 4, 3], []] [⟨(.l 66), .bin .add (.l 62) (.l 65), none⟩, ⟨(.g 2), .mv (.l 66), none⟩])
  (.ret)))))⟩
theorem ln_spec_ReportText : Linked Tryd.prog fn_spec_ReportText ac_spec_ReportText := ⟨Tryd.f5, _, Tryd.func5, rfl, by kernel_rfl, by kernel_rfl, by kernel_rfl, by kernel_rfl⟩
def ac_laws_toMonitor : AF := ⟨[0, 1, 2, 3], [.c 2 true 3],
  .seq (.region [⟨(.g 1), .box (.g 0), none⟩, ⟨(.g 2), .alloc [(.int .i64 0), .nils, .nils], none⟩])
  (.seq (.region [⟨(.g 3), .alloc [(.int .i64 0), .nils, .nils], none⟩])
  (.seq (.region [⟨(.l 4), .faddr 0 (.g 1), none⟩, ⟨(.l 5), .load false 1 (.l 4), none⟩, ⟨(.l 6), .faddr 0 (.g 3), none⟩, ⟨.no, .store 1 (.l 6) (.l 5), none⟩])
  (.seq (.region [⟨(.l 7), .faddr 1 (.g 1), none⟩, ⟨(.l 8), .load false 1 (.l 7), none⟩, ⟨(.l 9), .call fn_laws_toAssocS [(.l 8)], none⟩, ⟨(.l 10), .faddr 1 (.g 3), none⟩, ⟨.no, .store 1 (.l 10) (.l 9), none⟩])
  (.seq (.region [⟨(.l 11), .faddr 2 (.g 1), none⟩, ⟨(.l 12), .load false 1 (.l 11), none⟩, ⟨(.l 13), .call fn_laws_toFindingS [(.l 12)], none⟩, ⟨(.l 14), .faddr 2 (.g 3), none⟩, ⟨.no, .store 1 (.l 14) (.l 13), none⟩])
  (.seq (.region [⟨(.l 15), .load true 3 (.g 3), none⟩, ⟨.no, .store 3 (.g 2) (.l 15), none⟩])
  (.ret))))))⟩
theorem ln_laws_toMonitor : Linked Tryd.prog fn_laws_toMonitor ac_laws_toMonitor := ⟨Tryd.f6, _, Tryd.func6, rfl, by kernel_rfl, by kernel_rfl, by kernel_rfl, by kernel_rfl⟩
def ac_impl_ReportText : AF := ⟨[0, 1, 2, 3, 4, 6, 9, 18, 19, 20, 21], [.t 2],
  .seq (.region [⟨(.g 1), .box (.g 0), none⟩, ⟨(.g 2), .mv (.c (.str [])), none⟩])
  (.seq (.seq (.region [⟨(.l 7), .load true 3 (.g 1), none⟩, ⟨(.l 8), .call fn_impl_MonitorValid [(.l 7)], none⟩, ⟨(.g 9), .un .not (.l 8), none⟩])
  (.cond (.g 9) (.seq (.region [⟨(.g 2), .mv (.c (.str [])), none⟩])
   (.ret))
  (.skip)))
  (.seq (.region [⟨(.l 10), .build [(.str []), (.str []), (.str []), (.str []), (.str []), (.str []), (.str []), (.str [])] [(0, 1, (.c (.str [110, 101, 119]))), (1, 1, (.c (.str [105, 110, 105, 116]))), (2, 1, (.c (.str [105, 110, 105, 116, 97, 99, 107]))), (3, 1, (.c (.str [99, 111, 111, 107, 105, 101]))), (4, 1, (.c (.str [111, 112, 101, 110]))), (5, 1, (.c (.str [115, 104, 117, 116]))), (6, 1, (.c (.str [115, 104, 117, 116, 97, 99, 107]))), (7, 1, (.c (.str [111, 118, 101, 114])))], none⟩, ⟨(.g 3), .alloc [(.str []), (.str []), (.str []), (.str []), (.str []), (.str []), (.str []), (.str [])], none⟩, ⟨.no, .store 8 (.g 3) (.l 10), none⟩])
  (.seq (.region [⟨(.g 4), .allocN 53 [.nils], none⟩])
  (.seq (.region [⟨(.l 11), .faddr 0 (.g 1), none⟩, ⟨(.l 12), .load false 1 (.l 11), none⟩, ⟨(.l 13), .call fn_strconv_Itoa [(.l 12)], none⟩, ⟨(.l 14), .bin .add (.c (.str [114, 101, 99, 111, 114, 100, 115, 32])) (.l 13), none⟩, ⟨(.l 15), .bin .add (.l 14) (.c (.str [10])), none⟩, ⟨(.l 16), .call fn_strings_Builder_WriteString [(.g 4), (.l 15)], none⟩])
  (.seq (.seq (.region [⟨(.l 17), .faddr 1 (.g 1), none⟩, ⟨(.g 18), .load false 1 (.l 17), none⟩, ⟨(.g 19), .len (.g 18), none⟩, ⟨(.g 20), .mv (.c (.int .i64 0)), none⟩])
  (.block 0 (.loop (.seq (.region [⟨(.g 21), .bin .lss (.g 20) (.g 19), none⟩])
    (.seq (.cond (.g 21) (.skip)
    (.exit 0))
    (.seq (.block 1 (.seq (.region [⟨(.l 22), .elS 14 (.g 18) (.g 20), none⟩, ⟨(.l 23), .load true 14 (.l 22), none⟩, ⟨(.g 6), .alloc [(.int .i64 0), (.int .i64 0), (.int .i64 0), (.bool false), (.int .i64 0), (.int .i64 0), (.int .i64 0), .nils, (.int .i64 0), (.int .i64 0), (.int .i64 0), (.int .i64 0), .nils, (.int .i64 0)], none⟩, ⟨.no, .store 14 (.g 6) (.l 23), none⟩])
     (.seq (.drawn [⟨(.l 24), .faddr 0 (.g 6), none⟩, ⟨(.l 25), .load false 1 (.l 24), none⟩, ⟨(.l 26), .call fn_strconv_Itoa [(.l 25)], none⟩, ⟨(.l 27), .bin .add (.c (.str [102, 114, 111, 109, 32])) (.l 26), none⟩, ⟨(.l 28), .bin .add (.l 27) (.c (.str [32, 116, 111, 32])), none⟩, ⟨(.l 29), .faddr 1 (.g 6), none⟩, ⟨(.l 30), .load false 1 (.l 29), none⟩, ⟨(.l 31), .call fn_strconv_Itoa [(.l 30)], none⟩, ⟨(.l 32), .bin .add (.l 28) (.l 31), none⟩, ⟨(.l 33), .bin .add (.l 32) (.c (.str [32])), none⟩, ⟨(.l 34), .faddr 2 (.g 6), none⟩, ⟨(.l 35), .load false 1 (.l 34), none⟩, ⟨(.l 36), .elA 8 1 (.g 3) (.l 35), none⟩, ⟨(.l 37), .load false 1 (.l 36), none⟩] [[], [], [], [], [], [], [2, 1], [], [], [], [], [7, 6, 2, 1], [], [7, 6, 2, 1]] [⟨(.l 38), .bin .add (.l 33) (.l 37), none⟩, ⟨(.l 39), .bin .add (.l 38) (.c (.str [10])), none⟩, ⟨(.l 40), .call fn_strings_Builder_WriteString [(.g 4), (.l 39)], none⟩])
     (.seq (.region [⟨(.l 41), .faddr 4 (.g 6), none⟩, ⟨(.l 42), .load true 5 (.l 41), none⟩, ⟨(.l 43), .call fn_impl_sideLines [(.g 4), (.c (.str [97])), (.l 42)], none⟩])
     (.region [⟨(.l 44), .faddr 9 (.g 6), none⟩, ⟨(.l 45), .load true 5 (.l 44), none⟩, ⟨(.l 46), .call fn_impl_sideLines [(.g 4), (.c (.str [98])), (.l 45)], none⟩])))))
    (.region [⟨(.l 47), .bin .add (.g 20) (.c (.int .i64 1)), none⟩, ⟨(.g 20), .mv (.l 47), none⟩])))))))
  (.seq (.drawn [⟨(.l 48), .faddr 2 (.g 1), none⟩, ⟨(.l 49), .load false 1 (.l 48), none⟩, ⟨(.l 50), .len (.l 49), none⟩, ⟨(.l 51), .call fn_strconv_Itoa [(.l 50)], none⟩, ⟨(.l 52), .bin .add (.c (.str [102, 111, 117, 110, 100, 32])) (.l 51), none⟩, ⟨(.l 53), .bin .add (.l 52) (.c (.str [10])), none⟩, ⟨(.l 54), .faddr 2 (.g 1), none⟩, ⟨(.l 55), .load false 1 (.l 54), none⟩, ⟨(.l 56), .call fn_impl_FindingsText [(.l 55)], none⟩] [[], [], [], [], [], [], [], [3, 2, 1], []] [⟨(.l 57), .bin .add (.l 53) (.l 56), none⟩, ⟨(.l 58), .call fn_strings_Builder_WriteString [(.g 4), (.l 57)], none⟩])
  (.seq (.region [⟨(.l 59), .call fn_strings_Builder_String [(.g 4)], none⟩, ⟨(.g 2), .mv (.l 59), none⟩])
  (.ret))))))))⟩
theorem ln_impl_ReportText : Linked Tryd.prog fn_impl_ReportText ac_impl_ReportText := ⟨Tryd.f7, _, Tryd.func7, rfl, by kernel_rfl, by kernel_rfl, by kernel_rfl, by kernel_rfl⟩
def ac_laws_eqMonitor : AF := ⟨[0, 1, 2, 3, 4, 9, 15, 21], [.t 4],
  .seq (.region [⟨(.g 2), .box (.g 0), none⟩, ⟨(.g 3), .box (.g 1), none⟩, ⟨(.g 4), .mv (.c (.bool false)), none⟩])
  (.seq (.seq (.region [⟨(.l 5), .faddr 0 (.g 2), none⟩, ⟨(.l 6), .load false 1 (.l 5), none⟩, ⟨(.l 7), .faddr 0 (.g 3), none⟩, ⟨(.l 8), .load false 1 (.l 7), none⟩, ⟨(.g 9), .bin .neq (.l 6) (.l 8), none⟩])
  (.cond (.g 9) (.seq (.region [⟨(.g 4), .mv (.c (.bool false)), none⟩])
   (.ret))
  (.skip)))
  (.seq (.seq (.region [⟨(.l 10), .faddr 1 (.g 2), none⟩, ⟨(.l 11), .load false 1 (.l 10), none⟩, ⟨(.l 12), .faddr 1 (.g 3), none⟩, ⟨(.l 13), .load false 1 (.l 12), none⟩, ⟨(.l 14), .call fn_laws_eqAssocS [(.l 11), (.l 13)], none⟩, ⟨(.g 15), .un .not (.l 14), none⟩])
  (.cond (.g 15) (.seq (.region [⟨(.g 4), .mv (.c (.bool false)), none⟩])
   (.ret))
  (.skip)))
  (.seq (.seq (.region [⟨(.l 16), .faddr 2 (.g 2), none⟩, ⟨(.l 17), .load false 1 (.l 16), none⟩, ⟨(.l 18), .faddr 2 (.g 3), none⟩, ⟨(.l 19), .load false 1 (.l 18), none⟩, ⟨(.l 20), .call fn_laws_eqFindingS [(.l 17), (.l 19)], none⟩, ⟨(.g 21), .un .not (.l 20), none⟩])
  (.cond (.g 21) (.seq (.region [⟨(.g 4), .mv (.c (.bool false)), none⟩])
   (.ret))
  (.skip)))
  (.seq (.region [⟨(.g 4), .mv (.c (.bool true)), none⟩])
  (.ret)))))⟩
theorem ln_laws_eqMonitor : Linked Tryd.prog fn_laws_eqMonitor ac_laws_eqMonitor := ⟨Tryd.f8, _, Tryd.func8, rfl, by kernel_rfl, by kernel_rfl, by kernel_rfl, by kernel_rfl⟩
def ac_laws_szAssocS : AF := ⟨[0, 1, 4, 5, 11, 15, 25], [.t 4],
  .seq (.region [⟨(.g 4), .mv (.c (.int .i64 0)), none⟩])
  (.seq (.region [⟨(.l 6), .mv (.g 1), none⟩, ⟨(.l 7), .mv (.g 0), none⟩, ⟨(.l 8), .len (.l 7), none⟩, ⟨(.l 9), .bin .sub (.l 6) (.l 8), none⟩, ⟨(.g 1), .mv (.l 9), none⟩])
  (.seq (.seq (.region [⟨(.l 10), .mv (.g 1), none⟩, ⟨(.g 11), .bin .lss (.l 10) (.c (.int .i64 0)), none⟩])
  (.cond (.g 11) (.seq (.region [⟨(.g 4), .mv (.c (.int .i64 (-1))), none⟩])
   (.ret))
  (.skip)))
  (.seq (.seq (.region [⟨(.g 5), .mv (.c (.int .i64 0)), none⟩])
  (.block 0 (.loop (.seq (.seq (.region [⟨(.l 12), .mv (.g 5), none⟩, ⟨(.l 13), .mv (.g 0), none⟩, ⟨(.l 14), .len (.l 13), none⟩, ⟨(.g 15), .bin .lss (.l 12) (.l 14), none⟩])
    (.cond (.g 15) (.skip)
    (.exit 0)))
    (.seq (.block 1 (.seq (.region [⟨(.l 18), .mv (.g 0), none⟩, ⟨(.l 19), .mv (.g 5), none⟩, ⟨(.l 20), .elS 14 (.l 18) (.l 19), none⟩, ⟨(.l 21), .load true 14 (.l 20), none⟩, ⟨(.l 22), .mv (.g 1), none⟩, ⟨(.l 23), .call fn_laws_szAssoc [(.l 21), (.l 22)], none⟩, ⟨(.g 1), .mv (.l 23), none⟩])
     (.seq (.region [⟨(.l 24), .mv (.g 1), none⟩, ⟨(.g 25), .bin .lss (.l 24) (.c (.int .i64 0)), none⟩])
     (.cond (.g 25) (.seq (.region [⟨(.g 4), .mv (.c (.int .i64 (-1))), none⟩])
      (.ret))
     (.skip)))))
    (.region [⟨(.l 16), .mv (.g 5), none⟩, ⟨(.l 17), .bin .add (.l 16) (.c (.int .i64 1)), none⟩, ⟨(.g 5), .mv (.l 17), none⟩]))))))
  (.seq (.region [⟨(.l 26), .mv (.g 1), none⟩, ⟨(.g 4), .mv (.l 26), none⟩])
  (.ret)))))⟩
theorem ln_laws_szAssocS : Linked Tryd.prog fn_laws_szAssocS ac_laws_szAssocS := ⟨Tryd.f9, _, Tryd.func9, rfl, by kernel_rfl, by kernel_rfl, by kernel_rfl, by kernel_rfl⟩
def ac_laws_szFindingS : AF := ⟨[0, 1, 4, 10], [.t 4],
  .seq (.region [⟨(.g 4), .mv (.c (.int .i64 0)), none⟩])
  (.seq (.region [⟨(.l 5), .mv (.g 1), none⟩, ⟨(.l 6), .mv (.g 0), none⟩, ⟨(.l 7), .len (.l 6), none⟩, ⟨(.l 8), .bin .sub (.l 5) (.l 7), none⟩, ⟨(.g 1), .mv (.l 8), none⟩])
  (.seq (.seq (.region [⟨(.l 9), .mv (.g 1), none⟩, ⟨(.g 10), .bin .lss (.l 9) (.c (.int .i64 0)), none⟩])
  (.cond (.g 10) (.seq (.region [⟨(.g 4), .mv (.c (.int .i64 (-1))), none⟩])
   (.ret))
  (.skip)))
  (.seq (.region [⟨(.l 11), .mv (.g 1), none⟩, ⟨(.g 4), .mv (.l 11), none⟩])
  (.ret))))⟩
theorem ln_laws_szFindingS : Linked Tryd.prog fn_laws_szFindingS ac_laws_szFindingS := ⟨Tryd.f10, _, Tryd.func10, rfl, by kernel_rfl, by kernel_rfl, by kernel_rfl, by kernel_rfl⟩
def ac_spec_MonitorValid : AF := ⟨[0, 1, 2, 3, 4, 5, 10, 28, 31, 44, 49, 79], [.t 2],
  .seq (.region [⟨(.g 1), .box (.g 0), none⟩, ⟨(.g 2), .mv (.c (.bool false)), none⟩])
  (.seq (.seq (.region [⟨(.g 3), .mv (.c (.int .i64 0)), none⟩])
  (.block 0 (.loop (.seq (.seq (.region [⟨(.l 6), .mv (.g 3), none⟩, ⟨(.l 7), .faddr 1 (.g 1), none⟩, ⟨(.l 8), .load false 1 (.l 7), none⟩, ⟨(.l 9), .len (.l 8), none⟩, ⟨(.g 10), .bin .lss (.l 6) (.l 9), none⟩])
    (.cond (.g 10) (.skip)
    (.exit 0)))
    (.seq (.block 1 (.seq (.seq (.region [⟨(.l 13), .faddr 1 (.g 1), none⟩, ⟨(.l 14), .load false 1 (.l 13), none⟩, ⟨(.l 15), .mv (.g 3), none⟩, ⟨(.l 16), .elS 14 (.l 14) (.l 15), none⟩, ⟨(.l 17), .load true 14 (.l 16), none⟩, ⟨(.l 18), .call fn_spec_AssocValid [(.l 17)], none⟩, ⟨(.l 19), .un .not (.l 18), none⟩, ⟨(.l 20), .mv (.l 19), none⟩, ⟨(.l 21), .faddr 1 (.g 1), (some ((.l 20), false))⟩, ⟨(.l 22), .load false 1 (.l 21), (some ((.l 20), false))⟩, ⟨(.l 23), .mv (.g 3), (some ((.l 20), false))⟩, ⟨(.l 24), .elS 14 (.l 22) (.l 23), (some ((.l 20), false))⟩, ⟨(.l 25), .faddr 2 (.l 24), (some ((.l 20), false))⟩, ⟨(.l 26), .load false 1 (.l 25), (some ((.l 20), false))⟩, ⟨(.l 27), .bin .eql (.l 26) (.c (.int .i64 0)), (some ((.l 20), false))⟩, ⟨(.g 28), .pick (.l 20) (.c (.bool true)) (.l 27), none⟩])
     (.cond (.g 28) (.seq (.region [⟨(.g 2), .mv (.c (.bool false)), none⟩])
      (.ret))
     (.skip)))
     (.seq (.region [⟨(.g 4), .mv (.c (.int .i64 0)), none⟩])
     (.block 2 (.loop (.seq (.seq (.region [⟨(.l 29), .mv (.g 4), none⟩, ⟨(.l 30), .mv (.g 3), none⟩, ⟨(.g 31), .bin .lss (.l 29) (.l 30), none⟩])
       (.cond (.g 31) (.skip)
       (.exit 2)))
       (.seq (.block 3 (.seq (.drawn [⟨(.l 34), .faddr 1 (.g 1), none⟩, ⟨(.l 35), .load false 1 (.l 34), none⟩, ⟨(.l 36), .mv (.g 4), none⟩, ⟨(.l 37), .elS 14 (.l 35) (.l 36), none⟩, ⟨(.l 38), .load true 14 (.l 37), none⟩, ⟨(.l 39), .faddr 1 (.g 1), none⟩, ⟨(.l 40), .load false 1 (.l 39), none⟩, ⟨(.l 41), .mv (.g 3), none⟩, ⟨(.l 42), .elS 14 (.l 40) (.l 41), none⟩, ⟨(.l 43), .load true 14 (.l 42), none⟩] [[], [], [], [], [], [], [4, 3, 1], [], [4, 3, 1], [4, 3, 1]] [⟨(.g 44), .call fn_spec_l32Pair [(.l 38), (.l 43)], none⟩])
        (.cond (.g 44) (.seq (.region [⟨(.g 2), .mv (.c (.bool false)), none⟩])
         (.ret))
        (.skip))))
       (.region [⟨(.l 32), .mv (.g 4), none⟩, ⟨(.l 33), .bin .add (.l 32) (.c (.int .i64 1)), none⟩, ⟨(.g 4), .mv (.l 33), none⟩]))))))))
    (.region [⟨(.l 11), .mv (.g 3), none⟩, ⟨(.l 12), .bin .add (.l 11) (.c (.int .i64 1)), none⟩, ⟨(.g 3), .mv (.l 12), none⟩]))))))
  (.seq (.seq (.region [⟨(.g 5), .mv (.c (.int .i64 0)), none⟩])
  (.block 4 (.loop (.seq (.seq (.region [⟨(.l 45), .mv (.g 5), none⟩, ⟨(.l 46), .faddr 2 (.g 1), none⟩, ⟨(.l 47), .load false 1 (.l 46), none⟩, ⟨(.l 48), .len (.l 47), none⟩, ⟨(.g 49), .bin .lss (.l 45) (.l 48), none⟩])
    (.cond (.g 49) (.skip)
    (.exit 4)))
    (.seq (.block 5 (.seq (.drawn [⟨(.l 52), .faddr 2 (.g 1), none⟩, ⟨(.l 53), .load false 1 (.l 52), none⟩, ⟨(.l 54), .mv (.g 5), none⟩, ⟨(.l 55), .elS 2 (.l 53) (.l 54), none⟩, ⟨(.l 56), .load true 2 (.l 55), none⟩, ⟨(.l 57), .faddr 0 (.g 1), none⟩, ⟨(.l 58), .load false 1 (.l 57), none⟩, ⟨(.l 59), .call fn_spec_l32Finding [(.l 56), (.l 58)], none⟩, ⟨(.l 60), .un .not (.l 59), none⟩, ⟨(.l 61), .mv (.l 60), none⟩, ⟨(.l 62), .mv (.g 5), (some ((.l 61), false))⟩, ⟨(.l 63), .bin .gtr (.l 62) (.c (.int .i64 0)), (some ((.l 61), false))⟩, ⟨(.l 64), .mv (.l 63), (some ((.l 61), false))⟩, ⟨(.l 65), .faddr 2 (.g 1), (some ((.l 64), true))⟩, ⟨(.l 66), .load false 1 (.l 65), (some ((.l 64), true))⟩, ⟨(.l 67), .mv (.g 5), (some ((.l 64), true))⟩, ⟨(.l 68), .bin .sub (.l 67) (.c (.int .i64 1)), (some ((.l 64), true))⟩, ⟨(.l 69), .elS 2 (.l 66) (.l 68), (some ((.l 64), true))⟩, ⟨(.l 70), .load true 2 (.l 69), (some ((.l 64), true))⟩, ⟨(.l 71), .faddr 2 (.g 1), (some ((.l 64), true))⟩, ⟨(.l 72), .load false 1 (.l 71), (some ((.l 64), true))⟩, ⟨(.l 73), .mv (.g 5), (some ((.l 64), true))⟩, ⟨(.l 74), .elS 2 (.l 72) (.l 73), (some ((.l 64), true))⟩, ⟨(.l 75), .load true 2 (.l 74), (some ((.l 64), true))⟩] [[], [], [], [], [], [], [4, 3, 1], [], [], [], [], [], [], [], [], [], [], [], [], [], [18, 17, 14], [], [18, 17, 14], [18, 17, 14]] [⟨(.l 76), .call fn_spec_l32Less [(.l 70), (.l 75)], (some ((.l 64), true))⟩, ⟨(.l 77), .un .not (.l 76), (some ((.l 64), true))⟩, ⟨(.l 78), .pick (.l 64) (.l 77) (.c (.bool false)), (some ((.l 61), false))⟩, ⟨(.g 79), .pick (.l 61) (.c (.bool true)) (.l 78), none⟩])
     (.cond (.g 79) (.seq (.region [⟨(.g 2), .mv (.c (.bool false)), none⟩])
      (.ret))
     (.skip))))
    (.region [⟨(.l 50), .mv (.g 5), none⟩, ⟨(.l 51), .bin .add (.l 50) (.c (.int .i64 1)), none⟩, ⟨(.g 5), .mv (.l 51), none⟩]))))))
  (.seq (.region [⟨(.l 80), .faddr 0 (.g 1), none⟩, ⟨(.l 81), .load false 1 (.l 80), none⟩, ⟨(.l 82), .call fn_spec_l6In [(.l 81), (.c (.int .i64 0)), (.c (.int .i64 60))], none⟩, ⟨(.l 83), .mv (.l 82), none⟩, ⟨(.l 84), .faddr 1 (.g 1), (some ((.l 83), true))⟩, ⟨(.l 85), .load false 1 (.l 84), (some ((.l 83), true))⟩, ⟨(.l 86), .len (.l 85), (some ((.l 83), true))⟩, ⟨(.l 87), .bin .leq (.l 86) (.c (.int .i64 3)), (some ((.l 83), true))⟩, ⟨(.l 88), .pick (.l 83) (.l 87) (.c (.bool false)), none⟩, ⟨(.g 2), .mv (.l 88), none⟩])
  (.ret))))⟩
theorem ln_spec_MonitorValid : Linked Tryd.prog fn_spec_MonitorValid ac_spec_MonitorValid := ⟨Tryd.f11, _, Tryd.func11, rfl, by kernel_rfl, by kernel_rfl, by kernel_rfl, by kernel_rfl⟩
def ac_spec_l6Dec : AF := ⟨[0, 2, 4, 6, 12], [.t 2],
  .seq (.region [⟨(.g 2), .mv (.c (.str [])), none⟩])
  (.seq (.seq (.region [⟨(.l 3), .mv (.g 0), none⟩, ⟨(.g 4), .bin .lss (.l 3) (.c (.int .i64 (-9223372036854775807))), none⟩])
  (.cond (.g 4) (.seq (.region [⟨(.g 2), .mv (.c (.str [45, 57, 50, 50, 51, 51, 55, 50, 48, 51, 54, 56, 53, 52, 55, 55, 53, 56, 48, 56])), none⟩])
   (.ret))
  (.skip)))
  (.seq (.seq (.region [⟨(.l 5), .mv (.g 0), none⟩, ⟨(.g 6), .bin .lss (.l 5) (.c (.int .i64 0)), none⟩])
  (.cond (.g 6) (.seq (.region [⟨(.l 7), .mv (.g 0), none⟩, ⟨(.l 8), .un .neg (.l 7), none⟩, ⟨(.l 9), .call fn_spec_l6Dec [(.l 8)], none⟩, ⟨(.l 10), .bin .add (.c (.str [45])) (.l 9), none⟩, ⟨(.g 2), .mv (.l 10), none⟩])
   (.ret))
  (.skip)))
  (.seq (.seq (.region [⟨(.l 11), .mv (.g 0), none⟩, ⟨(.g 12), .bin .lss (.l 11) (.c (.int .i64 10)), none⟩])
  (.cond (.g 12) (.seq (.region [⟨(.l 13), .mv (.g 0), none⟩, ⟨(.l 14), .bin .add (.c (.int .i64 48)) (.l 13), none⟩, ⟨(.l 15), .conv .u8 (.l 14), none⟩, ⟨(.l 16), .lits 1 [(.l 15)], none⟩, ⟨(.l 17), .toStr (.l 16), none⟩, ⟨(.g 2), .mv (.l 17), none⟩])
   (.ret))
  (.skip)))
  (.seq (.drawn [⟨(.l 18), .mv (.g 0), none⟩, ⟨(.l 19), .bin .quo (.l 18) (.c (.int .i64 10)), none⟩, ⟨(.l 20), .call fn_spec_l6Dec [(.l 19)], none⟩, ⟨(.l 21), .mv (.g 0), none⟩, ⟨(.l 22), .bin .rem (.l 21) (.c (.int .i64 10)), none⟩, ⟨(.l 23), .bin .add (.c (.int .i64 48)) (.l 22), none⟩, ⟨(.l 24), .conv .u8 (.l 23), none⟩, ⟨(.l 25), .lits 1 [(.l 24)], none⟩, ⟨(.l 26), .toStr (.l 25), none⟩] [[], [], [], [], [], [], [], [2], [2]] [⟨(.l 27), .bin .add (.l 20) (.l 26), none⟩, ⟨(.g 2), .mv (.l 27), none⟩])
  (.ret)))))⟩
theorem ln_spec_l6Dec : Linked Tryd.prog fn_spec_l6Dec ac_spec_l6Dec := ⟨Tryd.f12, _, Tryd.func12, rfl, by kernel_rfl, by kernel_rfl, by kernel_rfl, by kernel_rfl⟩
def ac_spec_l42Side : AF := ⟨[0, 1, 3, 4, 5, 6, 7, 8, 22, 37], [.t 4],
  .seq (.region [⟨(.g 3), .box (.g 1), none⟩, ⟨(.g 4), .mv (.c (.str [])), none⟩])
  (.seq (.region [⟨(.g 5), .mv (.c (.str [])), none⟩])
  (.seq (.region [⟨(.l 9), .faddr 3 (.g 3), none⟩, ⟨(.l 10), .load false 1 (.l 9), none⟩, ⟨(.l 11), .call fn_spec_l31Said [(.l 10)], none⟩, ⟨(.g 6), .mv (.l 11), none⟩])
  (.seq (.region [⟨(.l 12), .faddr 3 (.g 3), none⟩, ⟨(.l 13), .load false 1 (.l 12), none⟩, ⟨(.l 14), .faddr 4 (.g 3), none⟩, ⟨(.l 15), .load false 1 (.l 14), none⟩, ⟨(.l 16), .cutSl 7 (.l 13) none (some (.l 15)), none⟩, ⟨(.l 17), .call fn_spec_l31Said [(.l 16)], none⟩, ⟨(.l 18), .len (.l 17), none⟩, ⟨(.g 7), .mv (.l 18), none⟩])
  (.seq (.seq (.region [⟨(.g 8), .mv (.c (.int .i64 0)), none⟩])
  (.block 0 (.loop (.seq (.seq (.region [⟨(.l 19), .mv (.g 8), none⟩, ⟨(.l 20), .mv (.g 6), none⟩, ⟨(.l 21), .len (.l 20), none⟩, ⟨(.g 22), .bin .lss (.l 19) (.l 21), none⟩])
    (.cond (.g 22) (.skip)
    (.exit 0)))
    (.seq (.block 1 (.seq (.region [⟨(.l 25), .mv (.g 5), none⟩, ⟨(.l 26), .mv (.g 0), none⟩, ⟨(.l 27), .bin .add (.l 25) (.l 26), none⟩, ⟨(.l 28), .bin .add (.l 27) (.c (.str [32])), none⟩, ⟨(.l 29), .mv (.g 6), none⟩, ⟨(.l 30), .mv (.g 8), none⟩, ⟨(.l 31), .elS 4 (.l 29) (.l 30), none⟩, ⟨(.l 32), .load true 4 (.l 31), none⟩, ⟨(.l 33), .call fn_spec_l42Message [(.l 32)], none⟩, ⟨(.l 34), .bin .add (.l 28) (.l 33), none⟩, ⟨(.g 5), .mv (.l 34), none⟩])
     (.seq (.seq (.region [⟨(.l 35), .mv (.g 8), none⟩, ⟨(.l 36), .mv (.g 7), none⟩, ⟨(.g 37), .bin .lss (.l 35) (.l 36), none⟩])
     (.cond (.g 37) (.region [⟨(.l 38), .mv (.g 5), none⟩, ⟨(.l 39), .bin .add (.l 38) (.c (.str [32, 111, 107])), none⟩, ⟨(.g 5), .mv (.l 39), none⟩])
     (.skip)))
     (.region [⟨(.l 40), .mv (.g 5), none⟩, ⟨(.l 41), .bin .add (.l 40) (.c (.str [10])), none⟩, ⟨(.g 5), .mv (.l 41), none⟩]))))
    (.region [⟨(.l 23), .mv (.g 8), none⟩, ⟨(.l 24), .bin .add (.l 23) (.c (.int .i64 1)), none⟩, ⟨(.g 8), .mv (.l 24), none⟩]))))))
  (.seq (.region [⟨(.l 42), .mv (.g 5), none⟩, ⟨(.g 4), .mv (.l 42), none⟩])
  (.ret))))))⟩
theorem ln_spec_l42Side : Linked Tryd.prog fn_spec_l42Side ac_spec_l42Side := ⟨Tryd.f13, _, Tryd.func13, rfl, by kernel_rfl, by kernel_rfl, by kernel_rfl, by kernel_rfl⟩
def ac_spec_l42Text : AF := ⟨[0, 2, 3, 4, 8], [.t 2],
  .seq (.region [⟨(.g 2), .mv (.c (.str [])), none⟩])
  (.seq (.region [⟨(.g 3), .mv (.c (.str [])), none⟩])
  (.seq (.seq (.region [⟨(.g 4), .mv (.c (.int .i64 0)), none⟩])
  (.block 0 (.loop (.seq (.seq (.region [⟨(.l 5), .mv (.g 4), none⟩, ⟨(.l 6), .mv (.g 0), none⟩, ⟨(.l 7), .len (.l 6), none⟩, ⟨(.g 8), .bin .lss (.l 5) (.l 7), none⟩])
    (.cond (.g 8) (.skip)
    (.exit 0)))
    (.seq (.block 1 (.drawn [⟨(.l 11), .mv (.g 3), none⟩, ⟨(.l 12), .mv (.g 0), none⟩, ⟨(.l 13), .mv (.g 4), none⟩, ⟨(.l 14), .elS 2 (.l 12) (.l 13), none⟩, ⟨(.l 15), .faddr 0 (.l 14), none⟩, ⟨(.l 16), .load false 1 (.l 15), none⟩, ⟨(.l 17), .call fn_spec_l6Dec [(.l 16)], none⟩, ⟨(.l 18), .bin .add (.l 11) (.l 17), none⟩, ⟨(.l 19), .bin .add (.l 18) (.c (.str [32])), none⟩, ⟨(.l 20), .mv (.g 0), none⟩, ⟨(.l 21), .mv (.g 4), none⟩, ⟨(.l 22), .elS 2 (.l 20) (.l 21), none⟩, ⟨(.l 23), .faddr 1 (.l 22), none⟩, ⟨(.l 24), .load false 1 (.l 23), none⟩, ⟨(.l 25), .call fn_spec_l6Dec [(.l 24)], none⟩] [[], [], [], [], [], [], [], [], [], [], [], [6, 5, 3], [], [6, 5, 3], []] [⟨(.l 26), .bin .add (.l 19) (.l 25), none⟩, ⟨(.l 27), .bin .add (.l 26) (.c (.str [10])), none⟩, ⟨(.g 3), .mv (.l 27), none⟩]))
    (.region [⟨(.l 9), .mv (.g 4), none⟩, ⟨(.l 10), .bin .add (.l 9) (.c (.int .i64 1)), none⟩, ⟨(.g 4), .mv (.l 10), none⟩]))))))
  (.seq (.region [⟨(.l 28), .mv (.g 3), none⟩, ⟨(.g 2), .mv (.l 28), none⟩])
  (.ret))))⟩
theorem ln_spec_l42Text : Linked Tryd.prog fn_spec_l42Text ac_spec_l42Text := ⟨Tryd.f14, _, Tryd.func14, rfl, by kernel_rfl, by kernel_rfl, by kernel_rfl, by kernel_rfl⟩
def ac_laws_toAssocS : AF := ⟨[0, 2, 3, 4, 11], [.t 2],
  .seq (.region [⟨(.g 2), .mv (.c .nils), none⟩])
  (.seq (.region [⟨(.l 5), .mv (.g 0), none⟩, ⟨(.l 6), .len (.l 5), none⟩, ⟨(.l 7), .make 14 144 (.agg [(.int .i64 0), (.int .i64 0), (.int .i64 0), (.bool false), (.int .i64 0), (.int .i64 0), (.int .i64 0), .nils, (.int .i64 0), (.int .i64 0), (.int .i64 0), (.int .i64 0), .nils, (.int .i64 0)]) (.l 6) (.l 6), none⟩, ⟨(.g 3), .mv (.l 7), none⟩])
  (.seq (.seq (.region [⟨(.g 4), .mv (.c (.int .i64 0)), none⟩])
  (.block 0 (.loop (.seq (.seq (.region [⟨(.l 8), .mv (.g 4), none⟩, ⟨(.l 9), .mv (.g 0), none⟩, ⟨(.l 10), .len (.l 9), none⟩, ⟨(.g 11), .bin .lss (.l 8) (.l 10), none⟩])
    (.cond (.g 11) (.skip)
    (.exit 0)))
    (.seq (.block 1 (.region [⟨(.l 14), .mv (.g 3), none⟩, ⟨(.l 15), .mv (.g 4), none⟩, ⟨(.l 16), .mv (.g 0), none⟩, ⟨(.l 17), .mv (.g 4), none⟩, ⟨(.l 18), .elS 14 (.l 16) (.l 17), none⟩, ⟨(.l 19), .load true 14 (.l 18), none⟩, ⟨(.l 20), .call fn_laws_toAssoc [(.l 19)], none⟩, ⟨(.l 21), .elS 14 (.l 14) (.l 15), none⟩, ⟨.no, .store 14 (.l 21) (.l 20), none⟩]))
    (.region [⟨(.l 12), .mv (.g 4), none⟩, ⟨(.l 13), .bin .add (.l 12) (.c (.int .i64 1)), none⟩, ⟨(.g 4), .mv (.l 13), none⟩]))))))
  (.seq (.region [⟨(.l 22), .mv (.g 3), none⟩, ⟨(.g 2), .mv (.l 22), none⟩])
  (.ret))))⟩
theorem ln_laws_toAssocS : Linked Tryd.prog fn_laws_toAssocS ac_laws_toAssocS := ⟨Tryd.f15, _, Tryd.func15, rfl, by kernel_rfl, by kernel_rfl, by kernel_rfl, by kernel_rfl⟩
def ac_laws_toFindingS : AF := ⟨[0, 2, 3, 4, 11], [.t 2],
  .seq (.region [⟨(.g 2), .mv (.c .nils), none⟩])
  (.seq (.region [⟨(.l 5), .mv (.g 0), none⟩, ⟨(.l 6), .len (.l 5), none⟩, ⟨(.l 7), .make 2 16 (.agg [(.int .i64 0), (.int .i64 0)]) (.l 6) (.l 6), none⟩, ⟨(.g 3), .mv (.l 7), none⟩])
  (.seq (.seq (.region [⟨(.g 4), .mv (.c (.int .i64 0)), none⟩])
  (.block 0 (.loop (.seq (.seq (.region [⟨(.l 8), .mv (.g 4), none⟩, ⟨(.l 9), .mv (.g 0), none⟩, ⟨(.l 10), .len (.l 9), none⟩, ⟨(.g 11), .bin .lss (.l 8) (.l 10), none⟩])
    (.cond (.g 11) (.skip)
    (.exit 0)))
    (.seq (.block 1 (.region [⟨(.l 14), .mv (.g 3), none⟩, ⟨(.l 15), .mv (.g 4), none⟩, ⟨(.l 16), .mv (.g 0), none⟩, ⟨(.l 17), .mv (.g 4), none⟩, ⟨(.l 18), .elS 2 (.l 16) (.l 17), none⟩, ⟨(.l 19), .load true 2 (.l 18), none⟩, ⟨(.l 20), .call fn_laws_toFinding [(.l 19)], none⟩, ⟨(.l 21), .elS 2 (.l 14) (.l 15), none⟩, ⟨.no, .store 2 (.l 21) (.l 20), none⟩]))
    (.region [⟨(.l 12), .mv (.g 4), none⟩, ⟨(.l 13), .bin .add (.l 12) (.c (.int .i64 1)), none⟩, ⟨(.g 4), .mv (.l 13), none⟩]))))))
  (.seq (.region [⟨(.l 22), .mv (.g 3), none⟩, ⟨(.g 2), .mv (.l 22), none⟩])
  (.ret))))⟩
theorem ln_laws_toFindingS : Linked Tryd.prog fn_laws_toFindingS ac_laws_toFindingS := ⟨Tryd.f16, _, Tryd.func16, rfl, by kernel_rfl, by kernel_rfl, by kernel_rfl, by kernel_rfl⟩
def ac_impl_MonitorValid : AF := ⟨[0, 1, 2, 3, 4, 6, 20, 22, 23, 24, 25, 36, 40, 41, 42, 43, 51], [.t 2],
  .seq (.region [⟨(.g 1), .box (.g 0), none⟩, ⟨(.g 2), .mv (.c (.bool false)), none⟩])
  (.seq (.seq (.region [⟨(.l 7), .faddr 0 (.g 1), none⟩, ⟨(.l 8), .load false 1 (.l 7), none⟩, ⟨(.l 9), .bin .lss (.l 8) (.c (.int .i64 0)), none⟩, ⟨(.l 10), .mv (.l 9), none⟩, ⟨(.l 11), .faddr 0 (.g 1), (some ((.l 10), false))⟩, ⟨(.l 12), .load false 1 (.l 11), (some ((.l 10), false))⟩, ⟨(.l 13), .bin .gtr (.l 12) (.c (.int .i64 60)), (some ((.l 10), false))⟩, ⟨(.l 14), .pick (.l 10) (.c (.bool true)) (.l 13), none⟩, ⟨(.l 15), .mv (.l 14), none⟩, ⟨(.l 16), .faddr 1 (.g 1), (some ((.l 15), false))⟩, ⟨(.l 17), .load false 1 (.l 16), (some ((.l 15), false))⟩, ⟨(.l 18), .len (.l 17), (some ((.l 15), false))⟩, ⟨(.l 19), .bin .gtr (.l 18) (.c (.int .i64 3)), (some ((.l 15), false))⟩, ⟨(.g 20), .pick (.l 15) (.c (.bool true)) (.l 19), none⟩])
  (.cond (.g 20) (.seq (.region [⟨(.g 2), .mv (.c (.bool false)), none⟩])
   (.ret))
  (.skip)))
  (.seq (.seq (.region [⟨(.l 21), .faddr 1 (.g 1), none⟩, ⟨(.g 22), .load false 1 (.l 21), none⟩, ⟨(.g 23), .len (.g 22), none⟩, ⟨(.g 24), .mv (.c (.int .i64 0)), none⟩])
  (.block 0 (.loop (.seq (.region [⟨(.g 25), .bin .lss (.g 24) (.g 23), none⟩])
    (.seq (.cond (.g 25) (.skip)
    (.exit 0))
    (.seq (.block 1 (.seq (.region [⟨(.l 26), .mv (.g 24), none⟩, ⟨(.l 27), .elS 14 (.g 22) (.g 24), none⟩, ⟨(.l 28), .load true 14 (.l 27), none⟩, ⟨(.g 4), .alloc [(.int .i64 0), (.int .i64 0), (.int .i64 0), (.bool false), (.int .i64 0), (.int .i64 0), (.int .i64 0), .nils, (.int .i64 0), (.int .i64 0), (.int .i64 0), (.int .i64 0), .nils, (.int .i64 0)], none⟩, ⟨(.g 3), .mv (.l 26), none⟩, ⟨.no, .store 14 (.g 4) (.l 28), none⟩])
     (.seq (.seq (.region [⟨(.l 29), .load true 14 (.g 4), none⟩, ⟨(.l 30), .call fn_impl_AssocValid [(.l 29)], none⟩, ⟨(.l 31), .un .not (.l 30), none⟩, ⟨(.l 32), .mv (.l 31), none⟩, ⟨(.l 33), .faddr 2 (.g 4), (some ((.l 32), false))⟩, ⟨(.l 34), .load false 1 (.l 33), (some ((.l 32), false))⟩, ⟨(.l 35), .bin .eql (.l 34) (.c (.int .i64 0)), (some ((.l 32), false))⟩, ⟨(.g 36), .pick (.l 32) (.c (.bool true)) (.l 35), none⟩])
     (.cond (.g 36) (.seq (.region [⟨(.g 2), .mv (.c (.bool false)), none⟩])
      (.ret))
     (.skip)))
     (.seq (.region [⟨(.l 37), .faddr 1 (.g 1), none⟩, ⟨(.l 38), .load false 1 (.l 37), none⟩, ⟨(.l 39), .mv (.g 3), none⟩, ⟨(.g 40), .cutSl 14 (.l 38) none (some (.l 39)), none⟩, ⟨(.g 41), .len (.g 40), none⟩, ⟨(.g 42), .mv (.c (.int .i64 0)), none⟩])
     (.block 2 (.loop (.seq (.region [⟨(.g 43), .bin .lss (.g 42) (.g 41), none⟩])
       (.seq (.cond (.g 43) (.skip)
       (.exit 2))
       (.seq (.block 3 (.seq (.region [⟨(.l 44), .elS 14 (.g 40) (.g 42), none⟩, ⟨(.l 45), .load true 14 (.l 44), none⟩, ⟨(.g 6), .alloc [(.int .i64 0), (.int .i64 0), (.int .i64 0), (.bool false), (.int .i64 0), (.int .i64 0), (.int .i64 0), .nils, (.int .i64 0), (.int .i64 0), (.int .i64 0), (.int .i64 0), .nils, (.int .i64 0)], none⟩, ⟨.no, .store 14 (.g 6) (.l 45), none⟩])
        (.seq (.region [⟨(.l 46), .load true 14 (.g 6), none⟩, ⟨(.l 47), .faddr 0 (.g 4), none⟩, ⟨(.l 48), .load false 1 (.l 47), none⟩, ⟨(.l 49), .faddr 1 (.g 4), none⟩, ⟨(.l 50), .load false 1 (.l 49), none⟩, ⟨(.g 51), .call fn_impl_samePorts [(.l 46), (.l 48), (.l 50)], none⟩])
        (.cond (.g 51) (.seq (.region [⟨(.g 2), .mv (.c (.bool false)), none⟩])
         (.ret))
        (.skip)))))
       (.region [⟨(.l 52), .bin .add (.g 42) (.c (.int .i64 1)), none⟩, ⟨(.g 42), .mv (.l 52), none⟩]))))))))))
    (.region [⟨(.l 53), .bin .add (.g 24) (.c (.int .i64 1)), none⟩, ⟨(.g 24), .mv (.l 53), none⟩])))))))
  (.seq (.region [⟨(.l 54), .faddr 2 (.g 1), none⟩, ⟨(.l 55), .load false 1 (.l 54), none⟩, ⟨(.l 56), .faddr 0 (.g 1), none⟩, ⟨(.l 57), .load false 1 (.l 56), none⟩, ⟨(.l 58), .call fn_impl_foundOk [(.l 55), (.l 57)], none⟩, ⟨(.g 2), .mv (.l 58), none⟩])
  (.ret))))⟩
theorem ln_impl_MonitorValid : Linked Tryd.prog fn_impl_MonitorValid ac_impl_MonitorValid := ⟨Tryd.f17, _, Tryd.func17, rfl, by kernel_rfl, by kernel_rfl, by kernel_rfl, by kernel_rfl⟩
def ac_strings_Builder_WriteString : AF := ⟨[0, 1, 4, 5], [.t 4, .t 5],
  .seq (.region [⟨(.g 4), .mv (.c (.int .i64 0)), none⟩, ⟨(.g 5), .mv (.c .undef), none⟩])
  (.seq (.region [⟨(.l 6), .mv (.g 0), none⟩, ⟨(.l 7), .call fn_strings_Builder_copyCheck [(.l 6)], none⟩])
  (.seq (.region [⟨(.l 8), .mv (.g 0), none⟩, ⟨(.l 9), .mv (.g 0), none⟩, ⟨(.l 10), .nilc (.l 9), none⟩, ⟨(.l 11), .faddr 1 (.l 10), none⟩, ⟨(.l 12), .load false 1 (.l 11), none⟩, ⟨(.l 13), .mv (.g 1), none⟩, ⟨(.l 14), .appStr 5 (.l 12) (.l 13), none⟩, ⟨(.l 15), .nilc (.l 8), none⟩, ⟨(.l 16), .faddr 1 (.l 15), none⟩, ⟨.no, .store 1 (.l 16) (.l 14), none⟩])
  (.seq (.region [⟨(.l 17), .mv (.g 1), none⟩, ⟨(.l 18), .lenStr (.l 17), none⟩, ⟨(.g 4), .mv (.l 18), none⟩, ⟨(.g 5), .mv (.c .undef), none⟩])
  (.ret))))⟩
theorem ln_strings_Builder_WriteString : Linked Tryd.prog fn_strings_Builder_WriteString ac_strings_Builder_WriteString := ⟨Tryd.f18, _, Tryd.func18, rfl, by kernel_rfl, by kernel_rfl, by kernel_rfl, by kernel_rfl⟩
def ac_impl_sideLines : AF := ⟨[0, 1, 2, 5, 6, 7, 8, 13, 14, 15, 16, 29], [],
  .seq (.region [⟨(.g 5), .box (.g 2), none⟩])
  (.seq (.region [⟨(.l 9), .load true 5 (.g 5), none⟩, ⟨(.l 10), .call fn_impl_SideKnown [(.l 9)], none⟩, ⟨(.l 11), .len (.l 10), none⟩, ⟨(.g 6), .mv (.l 11), none⟩])
  (.seq (.region [⟨(.l 12), .load true 5 (.g 5), none⟩, ⟨(.g 13), .call fn_impl_SideSaid [(.l 12)], none⟩, ⟨(.g 14), .len (.g 13), none⟩, ⟨(.g 15), .mv (.c (.int .i64 0)), none⟩])
  (.block 0 (.loop (.seq (.region [⟨(.g 16), .bin .lss (.g 15) (.g 14), none⟩])
    (.seq (.cond (.g 16) (.skip)
    (.exit 0))
    (.seq (.block 1 (.seq (.region [⟨(.l 17), .mv (.g 15), none⟩, ⟨(.l 18), .elS 4 (.g 13) (.g 15), none⟩, ⟨(.l 19), .load true 4 (.l 18), none⟩, ⟨(.g 8), .alloc [(.int .i64 0), (.int .i64 0), (.bool false), (.str [])], none⟩, ⟨(.g 7), .mv (.l 17), none⟩, ⟨.no, .store 4 (.g 8) (.l 19), none⟩])
     (.seq (.region [⟨(.l 20), .mv (.g 0), none⟩, ⟨(.l 21), .mv (.g 1), none⟩, ⟨(.l 22), .bin .add (.l 21) (.c (.str [32])), none⟩, ⟨(.l 23), .load true 4 (.g 8), none⟩, ⟨(.l 24), .call fn_impl_MessageText [(.l 23)], none⟩, ⟨(.l 25), .bin .add (.l 22) (.l 24), none⟩, ⟨(.l 26), .call fn_strings_Builder_WriteString [(.l 20), (.l 25)], none⟩])
     (.seq (.seq (.region [⟨(.l 27), .mv (.g 7), none⟩, ⟨(.l 28), .mv (.g 6), none⟩, ⟨(.g 29), .bin .lss (.l 27) (.l 28), none⟩])
     (.cond (.g 29) (.region [⟨(.l 30), .mv (.g 0), none⟩, ⟨(.l 31), .call fn_strings_Builder_WriteString [(.l 30), (.c (.str [32, 111, 107]))], none⟩])
     (.skip)))
     (.region [⟨(.l 32), .mv (.g 0), none⟩, ⟨(.l 33), .call fn_strings_Builder_WriteString [(.l 32), (.c (.str [10]))], none⟩])))))
    (.region [⟨(.l 34), .bin .add (.g 15) (.c (.int .i64 1)), none⟩, ⟨(.g 15), .mv (.l 34), none⟩]))))))))⟩
theorem ln_impl_sideLines : Linked Tryd.prog fn_impl_sideLines ac_impl_sideLines := ⟨Tryd.f20, _, Tryd.func20, rfl, by kernel_rfl, by kernel_rfl, by kernel_rfl, by kernel_rfl⟩
def ac_impl_FindingsText : AF := ⟨[0, 2, 3, 5, 8, 9, 10, 11, 12], [.t 2],
  .seq (.region [⟨(.g 2), .mv (.c (.str [])), none⟩])
  (.seq (.seq (.region [⟨(.l 6), .mv (.g 0), none⟩, ⟨(.l 7), .call fn_impl_foundOk [(.l 6), (.c (.int .i64 60))], none⟩, ⟨(.g 8), .un .not (.l 7), none⟩])
  (.cond (.g 8) (.seq (.region [⟨(.g 2), .mv (.c (.str [])), none⟩])
   (.ret))
  (.skip)))
  (.seq (.region [⟨(.g 3), .mv (.c (.str [])), none⟩])
  (.seq (.seq (.region [⟨(.g 9), .mv (.g 0), none⟩, ⟨(.g 10), .len (.g 9), none⟩, ⟨(.g 11), .mv (.c (.int .i64 0)), none⟩])
  (.block 0 (.loop (.seq (.region [⟨(.g 12), .bin .lss (.g 11) (.g 10), none⟩])
    (.seq (.cond (.g 12) (.skip)
    (.exit 0))
    (.seq (.block 1 (.seq (.region [⟨(.l 13), .elS 2 (.g 9) (.g 11), none⟩, ⟨(.l 14), .load true 2 (.l 13), none⟩, ⟨(.g 5), .alloc [(.int .i64 0), (.int .i64 0)], none⟩, ⟨.no, .store 2 (.g 5) (.l 14), none⟩])
     (.drawn [⟨(.l 15), .mv (.g 3), none⟩, ⟨(.l 16), .faddr 0 (.g 5), none⟩, ⟨(.l 17), .load false 1 (.l 16), none⟩, ⟨(.l 18), .call fn_strconv_Itoa [(.l 17)], none⟩, ⟨(.l 19), .bin .add (.l 18) (.c (.str [32])), none⟩, ⟨(.l 20), .faddr 1 (.g 5), none⟩, ⟨(.l 21), .load false 1 (.l 20), none⟩, ⟨(.l 22), .call fn_strconv_Itoa [(.l 21)], none⟩, ⟨(.l 23), .bin .add (.l 19) (.l 22), none⟩, ⟨(.l 24), .bin .add (.l 23) (.c (.str [10])), none⟩] [[], [], [], [], [], [], [3, 2], [], [], []] [⟨(.l 25), .bin .add (.l 15) (.l 24), none⟩, ⟨(.g 3), .mv (.l 25), none⟩])))
    (.region [⟨(.l 26), .bin .add (.g 11) (.c (.int .i64 1)), none⟩, ⟨(.g 11), .mv (.l 26), none⟩])))))))
  (.seq (.region [⟨(.l 27), .mv (.g 3), none⟩, ⟨(.g 2), .mv (.l 27), none⟩])
  (.ret)))))⟩
theorem ln_impl_FindingsText : Linked Tryd.prog fn_impl_FindingsText ac_impl_FindingsText := ⟨Tryd.f21, _, Tryd.func21, rfl, by kernel_rfl, by kernel_rfl, by kernel_rfl, by kernel_rfl⟩
-- NOT TAKEN strings_Builder_String: [DRAWN, builder.go:47: some 7, builder.go:47: some 13]
def ac_laws_eqAssocS : AF := ⟨[0, 1, 4, 5, 10, 14, 26], [.t 4],
  .seq (.region [⟨(.g 4), .mv (.c (.bool false)), none⟩])
  (.seq (.seq (.region [⟨(.l 6), .mv (.g 0), none⟩, ⟨(.l 7), .len (.l 6), none⟩, ⟨(.l 8), .mv (.g 1), none⟩, ⟨(.l 9), .len (.l 8), none⟩, ⟨(.g 10), .bin .neq (.l 7) (.l 9), none⟩])
  (.cond (.g 10) (.seq (.region [⟨(.g 4), .mv (.c (.bool false)), none⟩])
   (.ret))
  (.skip)))
  (.seq (.seq (.region [⟨(.g 5), .mv (.c (.int .i64 0)), none⟩])
  (.block 0 (.loop (.seq (.seq (.region [⟨(.l 11), .mv (.g 5), none⟩, ⟨(.l 12), .mv (.g 0), none⟩, ⟨(.l 13), .len (.l 12), none⟩, ⟨(.g 14), .bin .lss (.l 11) (.l 13), none⟩])
    (.cond (.g 14) (.skip)
    (.exit 0)))
    (.seq (.block 1 (.seq (.drawn [⟨(.l 17), .mv (.g 0), none⟩, ⟨(.l 18), .mv (.g 5), none⟩, ⟨(.l 19), .elS 14 (.l 17) (.l 18), none⟩, ⟨(.l 20), .load true 14 (.l 19), none⟩, ⟨(.l 21), .mv (.g 1), none⟩, ⟨(.l 22), .mv (.g 5), none⟩, ⟨(.l 23), .elS 14 (.l 21) (.l 22), none⟩, ⟨(.l 24), .load true 14 (.l 23), none⟩] [[], [], [], [], [], [], [3, 2], [3, 2]] [⟨(.l 25), .call fn_laws_eqAssoc [(.l 20), (.l 24)], none⟩, ⟨(.g 26), .un .not (.l 25), none⟩])
     (.cond (.g 26) (.seq (.region [⟨(.g 4), .mv (.c (.bool false)), none⟩])
      (.ret))
     (.skip))))
    (.region [⟨(.l 15), .mv (.g 5), none⟩, ⟨(.l 16), .bin .add (.l 15) (.c (.int .i64 1)), none⟩, ⟨(.g 5), .mv (.l 16), none⟩]))))))
  (.seq (.region [⟨(.g 4), .mv (.c (.bool true)), none⟩])
  (.ret))))⟩
theorem ln_laws_eqAssocS : Linked Tryd.prog fn_laws_eqAssocS ac_laws_eqAssocS := ⟨Tryd.f23, _, Tryd.func23, rfl, by kernel_rfl, by kernel_rfl, by kernel_rfl, by kernel_rfl⟩
def ac_laws_eqFindingS : AF := ⟨[0, 1, 4, 5, 10, 14, 26], [.t 4],
  .seq (.region [⟨(.g 4), .mv (.c (.bool false)), none⟩])
  (.seq (.seq (.region [⟨(.l 6), .mv (.g 0), none⟩, ⟨(.l 7), .len (.l 6), none⟩, ⟨(.l 8), .mv (.g 1), none⟩, ⟨(.l 9), .len (.l 8), none⟩, ⟨(.g 10), .bin .neq (.l 7) (.l 9), none⟩])
  (.cond (.g 10) (.seq (.region [⟨(.g 4), .mv (.c (.bool false)), none⟩])
   (.ret))
  (.skip)))
  (.seq (.seq (.region [⟨(.g 5), .mv (.c (.int .i64 0)), none⟩])
  (.block 0 (.loop (.seq (.seq (.region [⟨(.l 11), .mv (.g 5), none⟩, ⟨(.l 12), .mv (.g 0), none⟩, ⟨(.l 13), .len (.l 12), none⟩, ⟨(.g 14), .bin .lss (.l 11) (.l 13), none⟩])
    (.cond (.g 14) (.skip)
    (.exit 0)))
    (.seq (.block 1 (.seq (.drawn [⟨(.l 17), .mv (.g 0), none⟩, ⟨(.l 18), .mv (.g 5), none⟩, ⟨(.l 19), .elS 2 (.l 17) (.l 18), none⟩, ⟨(.l 20), .load true 2 (.l 19), none⟩, ⟨(.l 21), .mv (.g 1), none⟩, ⟨(.l 22), .mv (.g 5), none⟩, ⟨(.l 23), .elS 2 (.l 21) (.l 22), none⟩, ⟨(.l 24), .load true 2 (.l 23), none⟩] [[], [], [], [], [], [], [3, 2], [3, 2]] [⟨(.l 25), .call fn_laws_eqFinding [(.l 20), (.l 24)], none⟩, ⟨(.g 26), .un .not (.l 25), none⟩])
     (.cond (.g 26) (.seq (.region [⟨(.g 4), .mv (.c (.bool false)), none⟩])
      (.ret))
     (.skip))))
    (.region [⟨(.l 15), .mv (.g 5), none⟩, ⟨(.l 16), .bin .add (.l 15) (.c (.int .i64 1)), none⟩, ⟨(.g 5), .mv (.l 16), none⟩]))))))
  (.seq (.region [⟨(.g 4), .mv (.c (.bool true)), none⟩])
  (.ret))))⟩
theorem ln_laws_eqFindingS : Linked Tryd.prog fn_laws_eqFindingS ac_laws_eqFindingS := ⟨Tryd.f24, _, Tryd.func24, rfl, by kernel_rfl, by kernel_rfl, by kernel_rfl, by kernel_rfl⟩
def ac_laws_szAssoc : AF := ⟨[0, 1, 2, 4, 10, 16], [.t 4],
  .seq (.region [⟨(.g 2), .box (.g 0), none⟩, ⟨(.g 4), .mv (.c (.int .i64 0)), none⟩])
  (.seq (.region [⟨(.l 5), .faddr 4 (.g 2), none⟩, ⟨(.l 6), .load true 5 (.l 5), none⟩, ⟨(.l 7), .mv (.g 1), none⟩, ⟨(.l 8), .call fn_laws_szSide [(.l 6), (.l 7)], none⟩, ⟨(.g 1), .mv (.l 8), none⟩])
  (.seq (.seq (.region [⟨(.l 9), .mv (.g 1), none⟩, ⟨(.g 10), .bin .lss (.l 9) (.c (.int .i64 0)), none⟩])
  (.cond (.g 10) (.seq (.region [⟨(.g 4), .mv (.c (.int .i64 (-1))), none⟩])
   (.ret))
  (.skip)))
  (.seq (.region [⟨(.l 11), .faddr 9 (.g 2), none⟩, ⟨(.l 12), .load true 5 (.l 11), none⟩, ⟨(.l 13), .mv (.g 1), none⟩, ⟨(.l 14), .call fn_laws_szSide [(.l 12), (.l 13)], none⟩, ⟨(.g 1), .mv (.l 14), none⟩])
  (.seq (.seq (.region [⟨(.l 15), .mv (.g 1), none⟩, ⟨(.g 16), .bin .lss (.l 15) (.c (.int .i64 0)), none⟩])
  (.cond (.g 16) (.seq (.region [⟨(.g 4), .mv (.c (.int .i64 (-1))), none⟩])
   (.ret))
  (.skip)))
  (.seq (.region [⟨(.l 17), .mv (.g 1), none⟩, ⟨(.g 4), .mv (.l 17), none⟩])
  (.ret))))))⟩
theorem ln_laws_szAssoc : Linked Tryd.prog fn_laws_szAssoc ac_laws_szAssoc := ⟨Tryd.f25, _, Tryd.func25, rfl, by kernel_rfl, by kernel_rfl, by kernel_rfl, by kernel_rfl⟩
def ac_spec_AssocValid : AF := ⟨[0, 1, 2, 37, 60, 76], [.t 2],
  .seq (.region [⟨(.g 1), .box (.g 0), none⟩, ⟨(.g 2), .mv (.c (.bool false)), none⟩])
  (.seq (.seq (.region [⟨(.l 3), .faddr 0 (.g 1), none⟩, ⟨(.l 4), .load false 1 (.l 3), none⟩, ⟨(.l 5), .call fn_spec_l6In [(.l 4), (.c (.int .i64 1)), (.c (.int .i64 65535))], none⟩, ⟨(.l 6), .un .not (.l 5), none⟩, ⟨(.l 7), .mv (.l 6), none⟩, ⟨(.l 8), .faddr 1 (.g 1), (some ((.l 7), false))⟩, ⟨(.l 9), .load false 1 (.l 8), (some ((.l 7), false))⟩, ⟨(.l 10), .call fn_spec_l6In [(.l 9), (.c (.int .i64 1)), (.c (.int .i64 65535))], (some ((.l 7), false))⟩, ⟨(.l 11), .un .not (.l 10), (some ((.l 7), false))⟩, ⟨(.l 12), .pick (.l 7) (.c (.bool true)) (.l 11), none⟩, ⟨(.l 13), .mv (.l 12), none⟩, ⟨(.l 14), .faddr 0 (.g 1), (some ((.l 13), false))⟩, ⟨(.l 15), .load false 1 (.l 14), (some ((.l 13), false))⟩, ⟨(.l 16), .faddr 1 (.g 1), (some ((.l 13), false))⟩, ⟨(.l 17), .load false 1 (.l 16), (some ((.l 13), false))⟩, ⟨(.l 18), .bin .eql (.l 15) (.l 17), (some ((.l 13), false))⟩, ⟨(.l 19), .pick (.l 13) (.c (.bool true)) (.l 18), none⟩, ⟨(.l 20), .mv (.l 19), none⟩, ⟨(.l 21), .faddr 2 (.g 1), (some ((.l 20), false))⟩, ⟨(.l 22), .load false 1 (.l 21), (some ((.l 20), false))⟩, ⟨(.l 23), .call fn_spec_l6In [(.l 22), (.c (.int .i64 0)), (.c (.int .i64 7))], (some ((.l 20), false))⟩, ⟨(.l 24), .un .not (.l 23), (some ((.l 20), false))⟩, ⟨(.l 25), .pick (.l 20) (.c (.bool true)) (.l 24), none⟩, ⟨(.l 26), .mv (.l 25), none⟩, ⟨(.l 27), .faddr 4 (.g 1), (some ((.l 26), false))⟩, ⟨(.l 28), .load true 5 (.l 27), (some ((.l 26), false))⟩, ⟨(.l 29), .call fn_spec_SideValid [(.l 28)], (some ((.l 26), false))⟩, ⟨(.l 30), .un .not (.l 29), (some ((.l 26), false))⟩, ⟨(.l 31), .pick (.l 26) (.c (.bool true)) (.l 30), none⟩, ⟨(.l 32), .mv (.l 31), none⟩, ⟨(.l 33), .faddr 9 (.g 1), (some ((.l 32), false))⟩, ⟨(.l 34), .load true 5 (.l 33), (some ((.l 32), false))⟩, ⟨(.l 35), .call fn_spec_SideValid [(.l 34)], (some ((.l 32), false))⟩, ⟨(.l 36), .un .not (.l 35), (some ((.l 32), false))⟩, ⟨(.g 37), .pick (.l 32) (.c (.bool true)) (.l 36), none⟩])
  (.cond (.g 37) (.seq (.region [⟨(.g 2), .mv (.c (.bool false)), none⟩])
   (.ret))
  (.skip)))
  (.seq (.seq (.region [⟨(.l 38), .faddr 4 (.g 1), none⟩, ⟨(.l 39), .faddr 0 (.l 38), none⟩, ⟨(.l 40), .load false 1 (.l 39), none⟩, ⟨(.l 41), .bin .gtr (.l 40) (.c (.int .i64 0)), none⟩, ⟨(.l 42), .faddr 2 (.g 1), none⟩, ⟨(.l 43), .load false 1 (.l 42), none⟩, ⟨(.l 44), .bin .geq (.l 43) (.c (.int .i64 1)), none⟩, ⟨(.l 45), .beq true (.l 41) (.l 44), none⟩, ⟨(.l 46), .mv (.l 45), none⟩, ⟨(.l 47), .faddr 2 (.g 1), (some ((.l 46), false))⟩, ⟨(.l 48), .load false 1 (.l 47), (some ((.l 46), false))⟩, ⟨(.l 49), .bin .neq (.l 48) (.c (.int .i64 7)), (some ((.l 46), false))⟩, ⟨(.l 50), .mv (.l 49), (some ((.l 46), false))⟩, ⟨(.l 51), .faddr 9 (.g 1), (some ((.l 50), true))⟩, ⟨(.l 52), .faddr 0 (.l 51), (some ((.l 50), true))⟩, ⟨(.l 53), .load false 1 (.l 52), (some ((.l 50), true))⟩, ⟨(.l 54), .bin .gtr (.l 53) (.c (.int .i64 0)), (some ((.l 50), true))⟩, ⟨(.l 55), .faddr 2 (.g 1), (some ((.l 50), true))⟩, ⟨(.l 56), .load false 1 (.l 55), (some ((.l 50), true))⟩, ⟨(.l 57), .bin .geq (.l 56) (.c (.int .i64 2)), (some ((.l 50), true))⟩, ⟨(.l 58), .beq true (.l 54) (.l 57), (some ((.l 50), true))⟩, ⟨(.l 59), .pick (.l 50) (.l 58) (.c (.bool false)), (some ((.l 46), false))⟩, ⟨(.g 60), .pick (.l 46) (.c (.bool true)) (.l 59), none⟩])
  (.cond (.g 60) (.seq (.region [⟨(.g 2), .mv (.c (.bool false)), none⟩])
   (.ret))
  (.skip)))
  (.seq (.seq (.region [⟨(.l 61), .faddr 2 (.g 1), none⟩, ⟨(.l 62), .load false 1 (.l 61), none⟩, ⟨(.l 63), .call fn_spec_l31Open [(.l 62)], none⟩, ⟨(.l 64), .un .not (.l 63), none⟩, ⟨(.l 65), .mv (.l 64), none⟩, ⟨(.l 66), .faddr 4 (.g 1), (some ((.l 65), true))⟩, ⟨(.l 67), .faddr 3 (.l 66), (some ((.l 65), true))⟩, ⟨(.l 68), .load false 1 (.l 67), (some ((.l 65), true))⟩, ⟨(.l 69), .len (.l 68), (some ((.l 65), true))⟩, ⟨(.l 70), .faddr 9 (.g 1), (some ((.l 65), true))⟩, ⟨(.l 71), .faddr 3 (.l 70), (some ((.l 65), true))⟩, ⟨(.l 72), .load false 1 (.l 71), (some ((.l 65), true))⟩, ⟨(.l 73), .len (.l 72), (some ((.l 65), true))⟩, ⟨(.l 74), .bin .add (.l 69) (.l 73), (some ((.l 65), true))⟩, ⟨(.l 75), .bin .gtr (.l 74) (.c (.int .i64 0)), (some ((.l 65), true))⟩, ⟨(.g 76), .pick (.l 65) (.l 75) (.c (.bool false)), none⟩])
  (.cond (.g 76) (.seq (.region [⟨(.g 2), .mv (.c (.bool false)), none⟩])
   (.ret))
  (.skip)))
  (.seq (.region [⟨(.l 77), .faddr 3 (.g 1), none⟩, ⟨(.l 78), .load false 1 (.l 77), none⟩, ⟨(.l 79), .un .not (.l 78), none⟩, ⟨(.l 80), .mv (.l 79), none⟩, ⟨(.l 81), .faddr 2 (.g 1), (some ((.l 80), false))⟩, ⟨(.l 82), .load false 1 (.l 81), (some ((.l 80), false))⟩, ⟨(.l 83), .bin .geq (.l 82) (.c (.int .i64 5)), (some ((.l 80), false))⟩, ⟨(.l 84), .pick (.l 80) (.c (.bool true)) (.l 83), none⟩, ⟨(.g 2), .mv (.l 84), none⟩])
  (.ret)))))⟩
theorem ln_spec_AssocValid : Linked Tryd.prog fn_spec_AssocValid ac_spec_AssocValid := ⟨Tryd.f26, _, Tryd.func26, rfl, by kernel_rfl, by kernel_rfl, by kernel_rfl, by kernel_rfl⟩
def ac_spec_l32Pair : AF := ⟨[0, 1, 2, 3, 4], [.t 4],
  .seq (.region [⟨(.g 2), .box (.g 0), none⟩, ⟨(.g 3), .box (.g 1), none⟩, ⟨(.g 4), .mv (.c (.bool false)), none⟩])
  (.seq (.region [⟨(.l 5), .faddr 0 (.g 2), none⟩, ⟨(.l 6), .load false 1 (.l 5), none⟩, ⟨(.l 7), .faddr 0 (.g 3), none⟩, ⟨(.l 8), .load false 1 (.l 7), none⟩, ⟨(.l 9), .bin .eql (.l 6) (.l 8), none⟩, ⟨(.l 10), .mv (.l 9), none⟩, ⟨(.l 11), .faddr 1 (.g 2), (some ((.l 10), true))⟩, ⟨(.l 12), .load false 1 (.l 11), (some ((.l 10), true))⟩, ⟨(.l 13), .faddr 1 (.g 3), (some ((.l 10), true))⟩, ⟨(.l 14), .load false 1 (.l 13), (some ((.l 10), true))⟩, ⟨(.l 15), .bin .eql (.l 12) (.l 14), (some ((.l 10), true))⟩, ⟨(.l 16), .pick (.l 10) (.l 15) (.c (.bool false)), none⟩, ⟨(.l 17), .mv (.l 16), none⟩, ⟨(.l 18), .faddr 0 (.g 2), (some ((.l 17), false))⟩, ⟨(.l 19), .load false 1 (.l 18), (some ((.l 17), false))⟩, ⟨(.l 20), .faddr 1 (.g 3), (some ((.l 17), false))⟩, ⟨(.l 21), .load false 1 (.l 20), (some ((.l 17), false))⟩, ⟨(.l 22), .bin .eql (.l 19) (.l 21), (some ((.l 17), false))⟩, ⟨(.l 23), .mv (.l 22), (some ((.l 17), false))⟩, ⟨(.l 24), .faddr 1 (.g 2), (some ((.l 23), true))⟩, ⟨(.l 25), .load false 1 (.l 24), (some ((.l 23), true))⟩, ⟨(.l 26), .faddr 0 (.g 3), (some ((.l 23), true))⟩, ⟨(.l 27), .load false 1 (.l 26), (some ((.l 23), true))⟩, ⟨(.l 28), .bin .eql (.l 25) (.l 27), (some ((.l 23), true))⟩, ⟨(.l 29), .pick (.l 23) (.l 28) (.c (.bool false)), (some ((.l 17), false))⟩, ⟨(.l 30), .pick (.l 17) (.c (.bool true)) (.l 29), none⟩, ⟨(.g 4), .mv (.l 30), none⟩])
  (.ret))⟩
theorem ln_spec_l32Pair : Linked Tryd.prog fn_spec_l32Pair ac_spec_l32Pair := ⟨Tryd.f27, _, Tryd.func27, rfl, by kernel_rfl, by kernel_rfl, by kernel_rfl, by kernel_rfl⟩
def ac_spec_l32Finding : AF := ⟨[0, 1, 2, 4], [.t 4],
  .seq (.region [⟨(.g 2), .box (.g 0), none⟩, ⟨(.g 4), .mv (.c (.bool false)), none⟩])
  (.seq (.region [⟨(.l 5), .faddr 0 (.g 2), none⟩, ⟨(.l 6), .load false 1 (.l 5), none⟩, ⟨(.l 7), .mv (.g 1), none⟩, ⟨(.l 8), .bin .sub (.l 7) (.c (.int .i64 1)), none⟩, ⟨(.l 9), .call fn_spec_l6In [(.l 6), (.c (.int .i64 0)), (.l 8)], none⟩, ⟨(.l 10), .mv (.l 9), none⟩, ⟨(.l 11), .faddr 1 (.g 2), (some ((.l 10), true))⟩, ⟨(.l 12), .load false 1 (.l 11), (some ((.l 10), true))⟩, ⟨(.l 13), .call fn_spec_l6In [(.l 12), (.c (.int .i64 1)), (.c (.int .i64 11))], (some ((.l 10), true))⟩, ⟨(.l 14), .mv (.l 13), (some ((.l 10), true))⟩, ⟨(.l 15), .faddr 1 (.g 2), (some ((.l 14), false))⟩, ⟨(.l 16), .load false 1 (.l 15), (some ((.l 14), false))⟩, ⟨(.l 17), .call fn_spec_l6In [(.l 16), (.c (.int .i64 101)), (.c (.int .i64 105))], (some ((.l 14), false))⟩, ⟨(.l 18), .pick (.l 14) (.c (.bool true)) (.l 17), (some ((.l 10), true))⟩, ⟨(.l 19), .pick (.l 10) (.l 18) (.c (.bool false)), none⟩, ⟨(.g 4), .mv (.l 19), none⟩])
  (.ret))⟩
theorem ln_spec_l32Finding : Linked Tryd.prog fn_spec_l32Finding ac_spec_l32Finding := ⟨Tryd.f28, _, Tryd.func28, rfl, by kernel_rfl, by kernel_rfl, by kernel_rfl, by kernel_rfl⟩
def ac_spec_l32Less : AF := ⟨[0, 1, 2, 3, 4], [.t 4],
  .seq (.region [⟨(.g 2), .box (.g 0), none⟩, ⟨(.g 3), .box (.g 1), none⟩, ⟨(.g 4), .mv (.c (.bool false)), none⟩])
  (.seq (.region [⟨(.l 5), .faddr 0 (.g 2), none⟩, ⟨(.l 6), .load false 1 (.l 5), none⟩, ⟨(.l 7), .faddr 0 (.g 3), none⟩, ⟨(.l 8), .load false 1 (.l 7), none⟩, ⟨(.l 9), .bin .lss (.l 6) (.l 8), none⟩, ⟨(.l 10), .mv (.l 9), none⟩, ⟨(.l 11), .faddr 0 (.g 2), (some ((.l 10), false))⟩, ⟨(.l 12), .load false 1 (.l 11), (some ((.l 10), false))⟩, ⟨(.l 13), .faddr 0 (.g 3), (some ((.l 10), false))⟩, ⟨(.l 14), .load false 1 (.l 13), (some ((.l 10), false))⟩, ⟨(.l 15), .bin .eql (.l 12) (.l 14), (some ((.l 10), false))⟩, ⟨(.l 16), .mv (.l 15), (some ((.l 10), false))⟩, ⟨(.l 17), .faddr 1 (.g 2), (some ((.l 16), true))⟩, ⟨(.l 18), .load false 1 (.l 17), (some ((.l 16), true))⟩, ⟨(.l 19), .faddr 1 (.g 3), (some ((.l 16), true))⟩, ⟨(.l 20), .load false 1 (.l 19), (some ((.l 16), true))⟩, ⟨(.l 21), .bin .lss (.l 18) (.l 20), (some ((.l 16), true))⟩, ⟨(.l 22), .pick (.l 16) (.l 21) (.c (.bool false)), (some ((.l 10), false))⟩, ⟨(.l 23), .pick (.l 10) (.c (.bool true)) (.l 22), none⟩, ⟨(.g 4), .mv (.l 23), none⟩])
  (.ret))⟩
theorem ln_spec_l32Less : Linked Tryd.prog fn_spec_l32Less ac_spec_l32Less := ⟨Tryd.f29, _, Tryd.func29, rfl, by kernel_rfl, by kernel_rfl, by kernel_rfl, by kernel_rfl⟩
def ac_spec_l6In : AF := ⟨[0, 1, 2, 6], [.t 6],
  .seq (.region [⟨(.g 6), .mv (.c (.bool false)), none⟩])
  (.seq (.region [⟨(.l 7), .mv (.g 0), none⟩, ⟨(.l 8), .mv (.g 1), none⟩, ⟨(.l 9), .bin .geq (.l 7) (.l 8), none⟩, ⟨(.l 10), .mv (.l 9), none⟩, ⟨(.l 11), .mv (.g 0), (some ((.l 10), true))⟩, ⟨(.l 12), .mv (.g 2), (some ((.l 10), true))⟩, ⟨(.l 13), .bin .leq (.l 11) (.l 12), (some ((.l 10), true))⟩, ⟨(.l 14), .pick (.l 10) (.l 13) (.c (.bool false)), none⟩, ⟨(.g 6), .mv (.l 14), none⟩])
  (.ret))⟩
theorem ln_spec_l6In : Linked Tryd.prog fn_spec_l6In ac_spec_l6In := ⟨Tryd.f30, _, Tryd.func30, rfl, by kernel_rfl, by kernel_rfl, by kernel_rfl, by kernel_rfl⟩
def ac_spec_l31Said : AF := ⟨[0, 2, 3, 4, 5, 6, 11, 23], [.t 2],
  .seq (.region [⟨(.g 2), .mv (.c .nils), none⟩])
  (.seq (.region [⟨(.l 7), .lits 4 [], none⟩, ⟨(.g 3), .mv (.l 7), none⟩])
  (.seq (.region [⟨(.g 4), .mv (.c (.str [])), none⟩])
  (.seq (.seq (.region [⟨(.g 5), .mv (.c (.int .i64 0)), none⟩])
  (.block 0 (.loop (.seq (.seq (.region [⟨(.l 8), .mv (.g 5), none⟩, ⟨(.l 9), .mv (.g 0), none⟩, ⟨(.l 10), .len (.l 9), none⟩, ⟨(.g 11), .bin .lss (.l 8) (.l 10), none⟩])
    (.cond (.g 11) (.skip)
    (.exit 0)))
    (.seq (.block 1 (.seq (.region [⟨(.l 14), .mv (.g 0), none⟩, ⟨(.l 15), .mv (.g 5), none⟩, ⟨(.l 16), .elS 7 (.l 14) (.l 15), none⟩, ⟨(.l 17), .load true 7 (.l 16), none⟩, ⟨(.g 6), .alloc [(.int .i64 0), (.int .i64 0), (.int .i64 0), (.bool false), (.bool false), (.bool false), (.str [])], none⟩, ⟨.no, .store 7 (.g 6) (.l 17), none⟩])
     (.seq (.region [⟨(.l 18), .mv (.g 4), none⟩, ⟨(.l 19), .faddr 6 (.g 6), none⟩, ⟨(.l 20), .load false 1 (.l 19), none⟩, ⟨(.l 21), .bin .add (.l 18) (.l 20), none⟩, ⟨(.g 4), .mv (.l 21), none⟩])
     (.seq (.region [⟨(.l 22), .faddr 4 (.g 6), none⟩, ⟨(.g 23), .load false 1 (.l 22), none⟩])
     (.cond (.g 23) (.seq (.region [⟨(.l 24), .mv (.g 3), none⟩, ⟨(.l 25), .faddr 1 (.g 6), none⟩, ⟨(.l 26), .load false 1 (.l 25), none⟩, ⟨(.l 27), .faddr 2 (.g 6), none⟩, ⟨(.l 28), .load false 1 (.l 27), none⟩, ⟨(.l 29), .faddr 5 (.g 6), none⟩, ⟨(.l 30), .load false 1 (.l 29), none⟩, ⟨(.l 31), .mv (.g 4), none⟩, ⟨(.l 32), .build [(.int .i64 0), (.int .i64 0), (.bool false), (.str [])] [(0, 1, (.l 26)), (1, 1, (.l 28)), (2, 1, (.l 30)), (3, 1, (.l 31))], none⟩, ⟨(.l 33), .lits 4 [(.l 32)], none⟩, ⟨(.l 34), .append 4 40 (.l 24) (.l 33), none⟩, ⟨(.g 3), .mv (.l 34), none⟩])
      (.region [⟨(.g 4), .mv (.c (.str [])), none⟩]))
     (.skip))))))
    (.region [⟨(.l 12), .mv (.g 5), none⟩, ⟨(.l 13), .bin .add (.l 12) (.c (.int .i64 1)), none⟩, ⟨(.g 5), .mv (.l 13), none⟩]))))))
  (.seq (.region [⟨(.l 35), .mv (.g 3), none⟩, ⟨(.g 2), .mv (.l 35), none⟩])
  (.ret)))))⟩
theorem ln_spec_l31Said : Linked Tryd.prog fn_spec_l31Said ac_spec_l31Said := ⟨Tryd.f31, _, Tryd.func31, rfl, by kernel_rfl, by kernel_rfl, by kernel_rfl, by kernel_rfl⟩
def ac_spec_l42Message : AF := ⟨[0, 1, 2, 4], [.t 2],
  .seq (.region [⟨(.g 1), .box (.g 0), none⟩, ⟨(.g 2), .mv (.c (.str [])), none⟩])
  (.seq (.seq (.region [⟨(.l 3), .faddr 2 (.g 1), none⟩, ⟨(.g 4), .load false 1 (.l 3), none⟩])
  (.cond (.g 4) (.seq (.drawn [⟨(.l 5), .faddr 0 (.g 1), none⟩, ⟨(.l 6), .load false 1 (.l 5), none⟩, ⟨(.l 7), .call fn_spec_l6Dec [(.l 6)], none⟩, ⟨(.l 8), .bin .add (.l 7) (.c (.str [32, 45, 32])), none⟩, ⟨(.l 9), .faddr 3 (.g 1), none⟩, ⟨(.l 10), .load false 1 (.l 9), none⟩, ⟨(.l 11), .call fn_spec_l1Hex [(.l 10)], none⟩] [[], [], [], [], [], [2, 1], []] [⟨(.l 12), .bin .add (.l 8) (.l 11), none⟩, ⟨(.g 2), .mv (.l 12), none⟩])
   (.ret))
  (.skip)))
  (.seq (.drawn [⟨(.l 13), .faddr 0 (.g 1), none⟩, ⟨(.l 14), .load false 1 (.l 13), none⟩, ⟨(.l 15), .call fn_spec_l6Dec [(.l 14)], none⟩, ⟨(.l 16), .bin .add (.l 15) (.c (.str [32])), none⟩, ⟨(.l 17), .faddr 1 (.g 1), none⟩, ⟨(.l 18), .load false 1 (.l 17), none⟩, ⟨(.l 19), .call fn_spec_l6Dec [(.l 18)], none⟩, ⟨(.l 20), .bin .add (.l 16) (.l 19), none⟩, ⟨(.l 21), .bin .add (.l 20) (.c (.str [32])), none⟩, ⟨(.l 22), .faddr 3 (.g 1), none⟩, ⟨(.l 23), .load false 1 (.l 22), none⟩, ⟨(.l 24), .call fn_spec_l1Hex [(.l 23)], none⟩] [[], [], [], [], [], [2, 1], [], [], [], [], [6, 5, 2, 1], []] [⟨(.l 25), .bin .add (.l 21) (.l 24), none⟩, ⟨(.g 2), .mv (.l 25), none⟩])
  (.ret)))⟩
theorem ln_spec_l42Message : Linked Tryd.prog fn_spec_l42Message ac_spec_l42Message := ⟨Tryd.f32, _, Tryd.func32, rfl, by kernel_rfl, by kernel_rfl, by kernel_rfl, by kernel_rfl⟩
def ac_laws_toAssoc : AF := ⟨[0, 1, 2, 3], [.c 2 true 14],
  .seq (.region [⟨(.g 1), .box (.g 0), none⟩, ⟨(.g 2), .alloc [(.int .i64 0), (.int .i64 0), (.int .i64 0), (.bool false), (.int .i64 0), (.int .i64 0), (.int .i64 0), .nils, (.int .i64 0), (.int .i64 0), (.int .i64 0), (.int .i64 0), .nils, (.int .i64 0)], none⟩])
  (.seq (.region [⟨(.g 3), .alloc [(.int .i64 0), (.int .i64 0), (.int .i64 0), (.bool false), (.int .i64 0), (.int .i64 0), (.int .i64 0), .nils, (.int .i64 0), (.int .i64 0), (.int .i64 0), (.int .i64 0), .nils, (.int .i64 0)], none⟩])
  (.seq (.region [⟨(.l 4), .faddr 0 (.g 1), none⟩, ⟨(.l 5), .load false 1 (.l 4), none⟩, ⟨(.l 6), .faddr 0 (.g 3), none⟩, ⟨.no, .store 1 (.l 6) (.l 5), none⟩])
  (.seq (.region [⟨(.l 7), .faddr 1 (.g 1), none⟩, ⟨(.l 8), .load false 1 (.l 7), none⟩, ⟨(.l 9), .faddr 1 (.g 3), none⟩, ⟨.no, .store 1 (.l 9) (.l 8), none⟩])
  (.seq (.region [⟨(.l 10), .faddr 2 (.g 1), none⟩, ⟨(.l 11), .load false 1 (.l 10), none⟩, ⟨(.l 12), .faddr 2 (.g 3), none⟩, ⟨.no, .store 1 (.l 12) (.l 11), none⟩])
  (.seq (.region [⟨(.l 13), .faddr 3 (.g 1), none⟩, ⟨(.l 14), .load false 1 (.l 13), none⟩, ⟨(.l 15), .faddr 3 (.g 3), none⟩, ⟨.no, .store 1 (.l 15) (.l 14), none⟩])
  (.seq (.region [⟨(.l 16), .faddr 4 (.g 1), none⟩, ⟨(.l 17), .load true 5 (.l 16), none⟩, ⟨(.l 18), .call fn_laws_toSide [(.l 17)], none⟩, ⟨(.l 19), .faddr 4 (.g 3), none⟩, ⟨.no, .store 5 (.l 19) (.l 18), none⟩])
  (.seq (.region [⟨(.l 20), .faddr 9 (.g 1), none⟩, ⟨(.l 21), .load true 5 (.l 20), none⟩, ⟨(.l 22), .call fn_laws_toSide [(.l 21)], none⟩, ⟨(.l 23), .faddr 9 (.g 3), none⟩, ⟨.no, .store 5 (.l 23) (.l 22), none⟩])
  (.seq (.region [⟨(.l 24), .load true 14 (.g 3), none⟩, ⟨.no, .store 14 (.g 2) (.l 24), none⟩])
  (.ret)))))))))⟩
theorem ln_laws_toAssoc : Linked Tryd.prog fn_laws_toAssoc ac_laws_toAssoc := ⟨Tryd.f33, _, Tryd.func33, rfl, by kernel_rfl, by kernel_rfl, by kernel_rfl, by kernel_rfl⟩
def ac_laws_toFinding : AF := ⟨[0, 1, 2, 3], [.c 2 true 2],
  .seq (.region [⟨(.g 1), .box (.g 0), none⟩, ⟨(.g 2), .alloc [(.int .i64 0), (.int .i64 0)], none⟩])
  (.seq (.region [⟨(.g 3), .alloc [(.int .i64 0), (.int .i64 0)], none⟩])
  (.seq (.region [⟨(.l 4), .faddr 0 (.g 1), none⟩, ⟨(.l 5), .load false 1 (.l 4), none⟩, ⟨(.l 6), .faddr 0 (.g 3), none⟩, ⟨.no, .store 1 (.l 6) (.l 5), none⟩])
  (.seq (.region [⟨(.l 7), .faddr 1 (.g 1), none⟩, ⟨(.l 8), .load false 1 (.l 7), none⟩, ⟨(.l 9), .faddr 1 (.g 3), none⟩, ⟨.no, .store 1 (.l 9) (.l 8), none⟩])
  (.seq (.region [⟨(.l 10), .load true 2 (.g 3), none⟩, ⟨.no, .store 2 (.g 2) (.l 10), none⟩])
  (.ret)))))⟩
theorem ln_laws_toFinding : Linked Tryd.prog fn_laws_toFinding ac_laws_toFinding := ⟨Tryd.f34, _, Tryd.func34, rfl, by kernel_rfl, by kernel_rfl, by kernel_rfl, by kernel_rfl⟩
def ac_impl_AssocValid : AF := ⟨[0, 1, 2, 49, 72, 87], [.t 2],
  .seq (.region [⟨(.g 1), .box (.g 0), none⟩, ⟨(.g 2), .mv (.c (.bool false)), none⟩])
  (.seq (.seq (.region [⟨(.l 3), .faddr 0 (.g 1), none⟩, ⟨(.l 4), .load false 1 (.l 3), none⟩, ⟨(.l 5), .bin .lss (.l 4) (.c (.int .i64 1)), none⟩, ⟨(.l 6), .mv (.l 5), none⟩, ⟨(.l 7), .faddr 0 (.g 1), (some ((.l 6), false))⟩, ⟨(.l 8), .load false 1 (.l 7), (some ((.l 6), false))⟩, ⟨(.l 9), .bin .gtr (.l 8) (.c (.int .i64 65535)), (some ((.l 6), false))⟩, ⟨(.l 10), .pick (.l 6) (.c (.bool true)) (.l 9), none⟩, ⟨(.l 11), .mv (.l 10), none⟩, ⟨(.l 12), .faddr 1 (.g 1), (some ((.l 11), false))⟩, ⟨(.l 13), .load false 1 (.l 12), (some ((.l 11), false))⟩, ⟨(.l 14), .bin .lss (.l 13) (.c (.int .i64 1)), (some ((.l 11), false))⟩, ⟨(.l 15), .pick (.l 11) (.c (.bool true)) (.l 14), none⟩, ⟨(.l 16), .mv (.l 15), none⟩, ⟨(.l 17), .faddr 1 (.g 1), (some ((.l 16), false))⟩, ⟨(.l 18), .load false 1 (.l 17), (some ((.l 16), false))⟩, ⟨(.l 19), .bin .gtr (.l 18) (.c (.int .i64 65535)), (some ((.l 16), false))⟩, ⟨(.l 20), .pick (.l 16) (.c (.bool true)) (.l 19), none⟩, ⟨(.l 21), .mv (.l 20), none⟩, ⟨(.l 22), .faddr 0 (.g 1), (some ((.l 21), false))⟩, ⟨(.l 23), .load false 1 (.l 22), (some ((.l 21), false))⟩, ⟨(.l 24), .faddr 1 (.g 1), (some ((.l 21), false))⟩, ⟨(.l 25), .load false 1 (.l 24), (some ((.l 21), false))⟩, ⟨(.l 26), .bin .eql (.l 23) (.l 25), (some ((.l 21), false))⟩, ⟨(.l 27), .pick (.l 21) (.c (.bool true)) (.l 26), none⟩, ⟨(.l 28), .mv (.l 27), none⟩, ⟨(.l 29), .faddr 2 (.g 1), (some ((.l 28), false))⟩, ⟨(.l 30), .load false 1 (.l 29), (some ((.l 28), false))⟩, ⟨(.l 31), .bin .lss (.l 30) (.c (.int .i64 0)), (some ((.l 28), false))⟩, ⟨(.l 32), .pick (.l 28) (.c (.bool true)) (.l 31), none⟩, ⟨(.l 33), .mv (.l 32), none⟩, ⟨(.l 34), .faddr 2 (.g 1), (some ((.l 33), false))⟩, ⟨(.l 35), .load false 1 (.l 34), (some ((.l 33), false))⟩, ⟨(.l 36), .bin .gtr (.l 35) (.c (.int .i64 7)), (some ((.l 33), false))⟩, ⟨(.l 37), .pick (.l 33) (.c (.bool true)) (.l 36), none⟩, ⟨(.l 38), .mv (.l 37), none⟩, ⟨(.l 39), .faddr 4 (.g 1), (some ((.l 38), false))⟩, ⟨(.l 40), .load true 5 (.l 39), (some ((.l 38), false))⟩, ⟨(.l 41), .call fn_impl_SideValid [(.l 40)], (some ((.l 38), false))⟩, ⟨(.l 42), .un .not (.l 41), (some ((.l 38), false))⟩, ⟨(.l 43), .pick (.l 38) (.c (.bool true)) (.l 42), none⟩, ⟨(.l 44), .mv (.l 43), none⟩, ⟨(.l 45), .faddr 9 (.g 1), (some ((.l 44), false))⟩, ⟨(.l 46), .load true 5 (.l 45), (some ((.l 44), false))⟩, ⟨(.l 47), .call fn_impl_SideValid [(.l 46)], (some ((.l 44), false))⟩, ⟨(.l 48), .un .not (.l 47), (some ((.l 44), false))⟩, ⟨(.g 49), .pick (.l 44) (.c (.bool true)) (.l 48), none⟩])
  (.cond (.g 49) (.seq (.region [⟨(.g 2), .mv (.c (.bool false)), none⟩])
   (.ret))
  (.skip)))
  (.seq (.seq (.region [⟨(.l 50), .faddr 4 (.g 1), none⟩, ⟨(.l 51), .faddr 0 (.l 50), none⟩, ⟨(.l 52), .load false 1 (.l 51), none⟩, ⟨(.l 53), .bin .gtr (.l 52) (.c (.int .i64 0)), none⟩, ⟨(.l 54), .faddr 2 (.g 1), none⟩, ⟨(.l 55), .load false 1 (.l 54), none⟩, ⟨(.l 56), .bin .geq (.l 55) (.c (.int .i64 1)), none⟩, ⟨(.l 57), .beq true (.l 53) (.l 56), none⟩, ⟨(.l 58), .mv (.l 57), none⟩, ⟨(.l 59), .faddr 2 (.g 1), (some ((.l 58), false))⟩, ⟨(.l 60), .load false 1 (.l 59), (some ((.l 58), false))⟩, ⟨(.l 61), .bin .neq (.l 60) (.c (.int .i64 7)), (some ((.l 58), false))⟩, ⟨(.l 62), .mv (.l 61), (some ((.l 58), false))⟩, ⟨(.l 63), .faddr 9 (.g 1), (some ((.l 62), true))⟩, ⟨(.l 64), .faddr 0 (.l 63), (some ((.l 62), true))⟩, ⟨(.l 65), .load false 1 (.l 64), (some ((.l 62), true))⟩, ⟨(.l 66), .bin .gtr (.l 65) (.c (.int .i64 0)), (some ((.l 62), true))⟩, ⟨(.l 67), .faddr 2 (.g 1), (some ((.l 62), true))⟩, ⟨(.l 68), .load false 1 (.l 67), (some ((.l 62), true))⟩, ⟨(.l 69), .bin .geq (.l 68) (.c (.int .i64 2)), (some ((.l 62), true))⟩, ⟨(.l 70), .beq true (.l 66) (.l 69), (some ((.l 62), true))⟩, ⟨(.l 71), .pick (.l 62) (.l 70) (.c (.bool false)), (some ((.l 58), false))⟩, ⟨(.g 72), .pick (.l 58) (.c (.bool true)) (.l 71), none⟩])
  (.cond (.g 72) (.seq (.region [⟨(.g 2), .mv (.c (.bool false)), none⟩])
   (.ret))
  (.skip)))
  (.seq (.seq (.region [⟨(.l 73), .faddr 2 (.g 1), none⟩, ⟨(.l 74), .load false 1 (.l 73), none⟩, ⟨(.l 75), .bin .lss (.l 74) (.c (.int .i64 3)), none⟩, ⟨(.l 76), .mv (.l 75), none⟩, ⟨(.l 77), .faddr 4 (.g 1), (some ((.l 76), true))⟩, ⟨(.l 78), .faddr 3 (.l 77), (some ((.l 76), true))⟩, ⟨(.l 79), .load false 1 (.l 78), (some ((.l 76), true))⟩, ⟨(.l 80), .len (.l 79), (some ((.l 76), true))⟩, ⟨(.l 81), .faddr 9 (.g 1), (some ((.l 76), true))⟩, ⟨(.l 82), .faddr 3 (.l 81), (some ((.l 76), true))⟩, ⟨(.l 83), .load false 1 (.l 82), (some ((.l 76), true))⟩, ⟨(.l 84), .len (.l 83), (some ((.l 76), true))⟩, ⟨(.l 85), .bin .add (.l 80) (.l 84), (some ((.l 76), true))⟩, ⟨(.l 86), .bin .gtr (.l 85) (.c (.int .i64 0)), (some ((.l 76), true))⟩, ⟨(.g 87), .pick (.l 76) (.l 86) (.c (.bool false)), none⟩])
  (.cond (.g 87) (.seq (.region [⟨(.g 2), .mv (.c (.bool false)), none⟩])
   (.ret))
  (.skip)))
  (.seq (.region [⟨(.l 88), .faddr 3 (.g 1), none⟩, ⟨(.l 89), .load false 1 (.l 88), none⟩, ⟨(.l 90), .un .not (.l 89), none⟩, ⟨(.l 91), .mv (.l 90), none⟩, ⟨(.l 92), .faddr 2 (.g 1), (some ((.l 91), false))⟩, ⟨(.l 93), .load false 1 (.l 92), (some ((.l 91), false))⟩, ⟨(.l 94), .bin .geq (.l 93) (.c (.int .i64 5)), (some ((.l 91), false))⟩, ⟨(.l 95), .pick (.l 91) (.c (.bool true)) (.l 94), none⟩, ⟨(.g 2), .mv (.l 95), none⟩])
  (.ret)))))⟩
theorem ln_impl_AssocValid : Linked Tryd.prog fn_impl_AssocValid ac_impl_AssocValid := ⟨Tryd.f35, _, Tryd.func35, rfl, by kernel_rfl, by kernel_rfl, by kernel_rfl, by kernel_rfl⟩
def ac_impl_samePorts : AF := ⟨[0, 1, 2, 3, 6], [.t 6],
  .seq (.region [⟨(.g 3), .box (.g 0), none⟩, ⟨(.g 6), .mv (.c (.bool false)), none⟩])
  (.seq (.region [⟨(.l 7), .faddr 0 (.g 3), none⟩, ⟨(.l 8), .load false 1 (.l 7), none⟩, ⟨(.l 9), .mv (.g 1), none⟩, ⟨(.l 10), .bin .eql (.l 8) (.l 9), none⟩, ⟨(.l 11), .mv (.l 10), none⟩, ⟨(.l 12), .faddr 1 (.g 3), (some ((.l 11), true))⟩, ⟨(.l 13), .load false 1 (.l 12), (some ((.l 11), true))⟩, ⟨(.l 14), .mv (.g 2), (some ((.l 11), true))⟩, ⟨(.l 15), .bin .eql (.l 13) (.l 14), (some ((.l 11), true))⟩, ⟨(.l 16), .pick (.l 11) (.l 15) (.c (.bool false)), none⟩, ⟨(.l 17), .mv (.l 16), none⟩, ⟨(.l 18), .faddr 0 (.g 3), (some ((.l 17), false))⟩, ⟨(.l 19), .load false 1 (.l 18), (some ((.l 17), false))⟩, ⟨(.l 20), .mv (.g 2), (some ((.l 17), false))⟩, ⟨(.l 21), .bin .eql (.l 19) (.l 20), (some ((.l 17), false))⟩, ⟨(.l 22), .mv (.l 21), (some ((.l 17), false))⟩, ⟨(.l 23), .faddr 1 (.g 3), (some ((.l 22), true))⟩, ⟨(.l 24), .load false 1 (.l 23), (some ((.l 22), true))⟩, ⟨(.l 25), .mv (.g 1), (some ((.l 22), true))⟩, ⟨(.l 26), .bin .eql (.l 24) (.l 25), (some ((.l 22), true))⟩, ⟨(.l 27), .pick (.l 22) (.l 26) (.c (.bool false)), (some ((.l 17), false))⟩, ⟨(.l 28), .pick (.l 17) (.c (.bool true)) (.l 27), none⟩, ⟨(.g 6), .mv (.l 28), none⟩])
  (.ret))⟩
theorem ln_impl_samePorts : Linked Tryd.prog fn_impl_samePorts ac_impl_samePorts := ⟨Tryd.f36, _, Tryd.func36, rfl, by kernel_rfl, by kernel_rfl, by kernel_rfl, by kernel_rfl⟩
def ac_impl_foundOk : AF := ⟨[0, 1, 4, 5, 6, 7, 8, 9, 10, 42, 77], [.t 4],
  .seq (.region [⟨(.g 4), .mv (.c (.bool false)), none⟩])
  (.seq (.seq (.region [⟨(.g 7), .mv (.g 0), none⟩, ⟨(.g 8), .len (.g 7), none⟩, ⟨(.g 9), .mv (.c (.int .i64 0)), none⟩])
  (.block 0 (.loop (.seq (.region [⟨(.g 10), .bin .lss (.g 9) (.g 8), none⟩])
    (.seq (.cond (.g 10) (.skip)
    (.exit 0))
    (.seq (.block 1 (.seq (.region [⟨(.l 11), .mv (.g 9), none⟩, ⟨(.l 12), .elS 2 (.g 7) (.g 9), none⟩, ⟨(.l 13), .load true 2 (.l 12), none⟩, ⟨(.g 6), .alloc [(.int .i64 0), (.int .i64 0)], none⟩, ⟨(.g 5), .mv (.l 11), none⟩, ⟨.no, .store 2 (.g 6) (.l 13), none⟩])
     (.seq (.seq (.region [⟨(.l 14), .faddr 0 (.g 6), none⟩, ⟨(.l 15), .load false 1 (.l 14), none⟩, ⟨(.l 16), .bin .lss (.l 15) (.c (.int .i64 0)), none⟩, ⟨(.l 17), .mv (.l 16), none⟩, ⟨(.l 18), .faddr 0 (.g 6), (some ((.l 17), false))⟩, ⟨(.l 19), .load false 1 (.l 18), (some ((.l 17), false))⟩, ⟨(.l 20), .mv (.g 1), (some ((.l 17), false))⟩, ⟨(.l 21), .bin .geq (.l 19) (.l 20), (some ((.l 17), false))⟩, ⟨(.l 22), .pick (.l 17) (.c (.bool true)) (.l 21), none⟩, ⟨(.l 23), .mv (.l 22), none⟩, ⟨(.l 24), .faddr 1 (.g 6), (some ((.l 23), false))⟩, ⟨(.l 25), .load false 1 (.l 24), (some ((.l 23), false))⟩, ⟨(.l 26), .bin .lss (.l 25) (.c (.int .i64 1)), (some ((.l 23), false))⟩, ⟨(.l 27), .mv (.l 26), (some ((.l 23), false))⟩, ⟨(.l 28), .faddr 1 (.g 6), (some ((.l 27), false))⟩, ⟨(.l 29), .load false 1 (.l 28), (some ((.l 27), false))⟩, ⟨(.l 30), .bin .gtr (.l 29) (.c (.int .i64 11)), (some ((.l 27), false))⟩, ⟨(.l 31), .pick (.l 27) (.c (.bool true)) (.l 30), (some ((.l 23), false))⟩, ⟨(.l 32), .mv (.l 31), (some ((.l 23), false))⟩, ⟨(.l 33), .faddr 1 (.g 6), (some ((.l 32), true))⟩, ⟨(.l 34), .load false 1 (.l 33), (some ((.l 32), true))⟩, ⟨(.l 35), .bin .lss (.l 34) (.c (.int .i64 101)), (some ((.l 32), true))⟩, ⟨(.l 36), .mv (.l 35), (some ((.l 32), true))⟩, ⟨(.l 37), .faddr 1 (.g 6), (some ((.l 36), false))⟩, ⟨(.l 38), .load false 1 (.l 37), (some ((.l 36), false))⟩, ⟨(.l 39), .bin .gtr (.l 38) (.c (.int .i64 105)), (some ((.l 36), false))⟩, ⟨(.l 40), .pick (.l 36) (.c (.bool true)) (.l 39), (some ((.l 32), true))⟩, ⟨(.l 41), .pick (.l 32) (.l 40) (.c (.bool false)), (some ((.l 23), false))⟩, ⟨(.g 42), .pick (.l 23) (.c (.bool true)) (.l 41), none⟩])
     (.cond (.g 42) (.seq (.region [⟨(.g 4), .mv (.c (.bool false)), none⟩])
      (.ret))
     (.skip)))
     (.seq (.drawn [⟨(.l 43), .mv (.g 5), none⟩, ⟨(.l 44), .bin .gtr (.l 43) (.c (.int .i64 0)), none⟩, ⟨(.l 45), .mv (.l 44), none⟩, ⟨(.l 46), .faddr 0 (.g 6), (some ((.l 45), true))⟩, ⟨(.l 47), .load false 1 (.l 46), (some ((.l 45), true))⟩, ⟨(.l 48), .mv (.g 0), (some ((.l 45), true))⟩, ⟨(.l 49), .mv (.g 5), (some ((.l 45), true))⟩, ⟨(.l 50), .bin .sub (.l 49) (.c (.int .i64 1)), (some ((.l 45), true))⟩, ⟨(.l 51), .elS 2 (.l 48) (.l 50), (some ((.l 45), true))⟩, ⟨(.l 52), .faddr 0 (.l 51), (some ((.l 45), true))⟩, ⟨(.l 53), .load false 1 (.l 52), (some ((.l 45), true))⟩, ⟨(.l 54), .bin .lss (.l 47) (.l 53), (some ((.l 45), true))⟩, ⟨(.l 55), .mv (.l 54), (some ((.l 45), true))⟩, ⟨(.l 56), .faddr 0 (.g 6), (some ((.l 55), false))⟩, ⟨(.l 57), .load false 1 (.l 56), (some ((.l 55), false))⟩, ⟨(.l 58), .mv (.g 0), (some ((.l 55), false))⟩, ⟨(.l 59), .mv (.g 5), (some ((.l 55), false))⟩, ⟨(.l 60), .bin .sub (.l 59) (.c (.int .i64 1)), (some ((.l 55), false))⟩, ⟨(.l 61), .elS 2 (.l 58) (.l 60), (some ((.l 55), false))⟩, ⟨(.l 62), .faddr 0 (.l 61), (some ((.l 55), false))⟩, ⟨(.l 63), .load false 1 (.l 62), (some ((.l 55), false))⟩, ⟨(.l 64), .bin .eql (.l 57) (.l 63), (some ((.l 55), false))⟩, ⟨(.l 65), .mv (.l 64), (some ((.l 55), false))⟩, ⟨(.l 66), .faddr 1 (.g 6), (some ((.l 65), true))⟩, ⟨(.l 67), .load false 1 (.l 66), (some ((.l 65), true))⟩, ⟨(.l 68), .mv (.g 0), (some ((.l 65), true))⟩, ⟨(.l 69), .mv (.g 5), (some ((.l 65), true))⟩, ⟨(.l 70), .bin .sub (.l 69) (.c (.int .i64 1)), (some ((.l 65), true))⟩, ⟨(.l 71), .elS 2 (.l 68) (.l 70), (some ((.l 65), true))⟩, ⟨(.l 72), .faddr 1 (.l 71), (some ((.l 65), true))⟩, ⟨(.l 73), .load false 1 (.l 72), (some ((.l 65), true))⟩] [[], [], [], [], [], [], [], [], [4], [], [4], [], [], [], [], [], [], [], [14], [], [14], [], [], [], [], [], [], [], [24], [], [24]] [⟨(.l 74), .bin .leq (.l 67) (.l 73), (some ((.l 65), true))⟩, ⟨(.l 75), .pick (.l 65) (.l 74) (.c (.bool false)), (some ((.l 55), false))⟩, ⟨(.l 76), .pick (.l 55) (.c (.bool true)) (.l 75), (some ((.l 45), true))⟩, ⟨(.g 77), .pick (.l 45) (.l 76) (.c (.bool false)), none⟩])
     (.cond (.g 77) (.seq (.region [⟨(.g 4), .mv (.c (.bool false)), none⟩])
      (.ret))
     (.skip))))))
    (.region [⟨(.l 78), .bin .add (.g 9) (.c (.int .i64 1)), none⟩, ⟨(.g 9), .mv (.l 78), none⟩])))))))
  (.seq (.region [⟨(.g 4), .mv (.c (.bool true)), none⟩])
  (.ret)))⟩
theorem ln_impl_foundOk : Linked Tryd.prog fn_impl_foundOk ac_impl_foundOk := ⟨Tryd.f37, _, Tryd.func37, rfl, by kernel_rfl, by kernel_rfl, by kernel_rfl, by kernel_rfl⟩
-- NOT TAKEN strings_Builder_copyCheck: [builder.go:39: some 9, builder.go:39: some 10, builder.go:39: some 11, CODE]
def ac_impl_SideKnown : AF := ⟨[0, 1, 2, 5], [.t 2],
  .seq (.region [⟨(.g 1), .box (.g 0), none⟩, ⟨(.g 2), .mv (.c .nils), none⟩])
  (.seq (.seq (.region [⟨(.l 3), .load true 5 (.g 1), none⟩, ⟨(.l 4), .call fn_impl_SideValid [(.l 3)], none⟩, ⟨(.g 5), .un .not (.l 4), none⟩])
  (.cond (.g 5) (.seq (.region [⟨(.g 2), .mv (.c .nils), none⟩])
   (.ret))
  (.skip)))
  (.seq (.region [⟨(.l 6), .faddr 3 (.g 1), none⟩, ⟨(.l 7), .load false 1 (.l 6), none⟩, ⟨(.l 8), .faddr 4 (.g 1), none⟩, ⟨(.l 9), .load false 1 (.l 8), none⟩, ⟨(.l 10), .cutSl 7 (.l 7) none (some (.l 9)), none⟩, ⟨(.l 11), .call fn_impl_saidIn [(.l 10)], none⟩, ⟨(.g 2), .mv (.l 11), none⟩])
  (.ret)))⟩
theorem ln_impl_SideKnown : Linked Tryd.prog fn_impl_SideKnown ac_impl_SideKnown := ⟨Tryd.f40, _, Tryd.func40, rfl, by kernel_rfl, by kernel_rfl, by kernel_rfl, by kernel_rfl⟩
def ac_impl_SideSaid : AF := ⟨[0, 1, 2, 5], [.t 2],
  .seq (.region [⟨(.g 1), .box (.g 0), none⟩, ⟨(.g 2), .mv (.c .nils), none⟩])
  (.seq (.seq (.region [⟨(.l 3), .load true 5 (.g 1), none⟩, ⟨(.l 4), .call fn_impl_SideValid [(.l 3)], none⟩, ⟨(.g 5), .un .not (.l 4), none⟩])
  (.cond (.g 5) (.seq (.region [⟨(.g 2), .mv (.c .nils), none⟩])
   (.ret))
  (.skip)))
  (.seq (.region [⟨(.l 6), .faddr 3 (.g 1), none⟩, ⟨(.l 7), .load false 1 (.l 6), none⟩, ⟨(.l 8), .call fn_impl_saidIn [(.l 7)], none⟩, ⟨(.g 2), .mv (.l 8), none⟩])
  (.ret)))⟩
theorem ln_impl_SideSaid : Linked Tryd.prog fn_impl_SideSaid ac_impl_SideSaid := ⟨Tryd.f41, _, Tryd.func41, rfl, by kernel_rfl, by kernel_rfl, by kernel_rfl, by kernel_rfl⟩
def ac_impl_MessageText : AF := ⟨[0, 1, 2, 3, 13, 18], [.t 2],
  .seq (.region [⟨(.g 1), .box (.g 0), none⟩, ⟨(.g 2), .mv (.c (.str [])), none⟩])
  (.seq (.seq (.region [⟨(.l 4), .faddr 0 (.g 1), none⟩, ⟨(.l 5), .load false 1 (.l 4), none⟩, ⟨(.l 6), .call fn_impl_serialOk [(.l 5)], none⟩, ⟨(.l 7), .un .not (.l 6), none⟩, ⟨(.l 8), .mv (.l 7), none⟩, ⟨(.l 9), .faddr 1 (.g 1), (some ((.l 8), false))⟩, ⟨(.l 10), .load false 1 (.l 9), (some ((.l 8), false))⟩, ⟨(.l 11), .call fn_impl_serialOk [(.l 10)], (some ((.l 8), false))⟩, ⟨(.l 12), .un .not (.l 11), (some ((.l 8), false))⟩, ⟨(.g 13), .pick (.l 8) (.c (.bool true)) (.l 12), none⟩])
  (.cond (.g 13) (.seq (.region [⟨(.g 2), .mv (.c (.str [])), none⟩])
   (.ret))
  (.skip)))
  (.seq (.region [⟨(.l 14), .faddr 1 (.g 1), none⟩, ⟨(.l 15), .load false 1 (.l 14), none⟩, ⟨(.l 16), .call fn_strconv_Itoa [(.l 15)], none⟩, ⟨(.g 3), .mv (.l 16), none⟩])
  (.seq (.seq (.region [⟨(.l 17), .faddr 2 (.g 1), none⟩, ⟨(.g 18), .load false 1 (.l 17), none⟩])
  (.cond (.g 18) (.region [⟨(.g 3), .mv (.c (.str [45])), none⟩])
  (.skip)))
  (.seq (.drawn [⟨(.l 19), .faddr 0 (.g 1), none⟩, ⟨(.l 20), .load false 1 (.l 19), none⟩, ⟨(.l 21), .call fn_strconv_Itoa [(.l 20)], none⟩, ⟨(.l 22), .bin .add (.l 21) (.c (.str [32])), none⟩, ⟨(.l 23), .mv (.g 3), none⟩, ⟨(.l 24), .bin .add (.l 22) (.l 23), none⟩, ⟨(.l 25), .bin .add (.l 24) (.c (.str [32])), none⟩, ⟨(.l 26), .faddr 3 (.g 1), none⟩, ⟨(.l 27), .load false 1 (.l 26), none⟩, ⟨(.l 28), .call fn_impl_hexOf [(.l 27)], none⟩] [[], [], [], [], [], [], [], [], [2, 1], []] [⟨(.l 29), .bin .add (.l 25) (.l 28), none⟩, ⟨(.g 2), .mv (.l 29), none⟩])
  (.ret)))))⟩
theorem ln_impl_MessageText : Linked Tryd.prog fn_impl_MessageText ac_impl_MessageText := ⟨Tryd.f42, _, Tryd.func42, rfl, by kernel_rfl, by kernel_rfl, by kernel_rfl, by kernel_rfl⟩
def ac_laws_eqAssoc : AF := ⟨[0, 1, 2, 3, 4, 9, 14, 19, 24, 30, 36], [.t 4],
  .seq (.region [⟨(.g 2), .box (.g 0), none⟩, ⟨(.g 3), .box (.g 1), none⟩, ⟨(.g 4), .mv (.c (.bool false)), none⟩])
  (.seq (.seq (.region [⟨(.l 5), .faddr 0 (.g 2), none⟩, ⟨(.l 6), .load false 1 (.l 5), none⟩, ⟨(.l 7), .faddr 0 (.g 3), none⟩, ⟨(.l 8), .load false 1 (.l 7), none⟩, ⟨(.g 9), .bin .neq (.l 6) (.l 8), none⟩])
  (.cond (.g 9) (.seq (.region [⟨(.g 4), .mv (.c (.bool false)), none⟩])
   (.ret))
  (.skip)))
  (.seq (.seq (.region [⟨(.l 10), .faddr 1 (.g 2), none⟩, ⟨(.l 11), .load false 1 (.l 10), none⟩, ⟨(.l 12), .faddr 1 (.g 3), none⟩, ⟨(.l 13), .load false 1 (.l 12), none⟩, ⟨(.g 14), .bin .neq (.l 11) (.l 13), none⟩])
  (.cond (.g 14) (.seq (.region [⟨(.g 4), .mv (.c (.bool false)), none⟩])
   (.ret))
  (.skip)))
  (.seq (.seq (.region [⟨(.l 15), .faddr 2 (.g 2), none⟩, ⟨(.l 16), .load false 1 (.l 15), none⟩, ⟨(.l 17), .faddr 2 (.g 3), none⟩, ⟨(.l 18), .load false 1 (.l 17), none⟩, ⟨(.g 19), .bin .neq (.l 16) (.l 18), none⟩])
  (.cond (.g 19) (.seq (.region [⟨(.g 4), .mv (.c (.bool false)), none⟩])
   (.ret))
  (.skip)))
  (.seq (.seq (.region [⟨(.l 20), .faddr 3 (.g 2), none⟩, ⟨(.l 21), .load false 1 (.l 20), none⟩, ⟨(.l 22), .faddr 3 (.g 3), none⟩, ⟨(.l 23), .load false 1 (.l 22), none⟩, ⟨(.g 24), .beq true (.l 21) (.l 23), none⟩])
  (.cond (.g 24) (.seq (.region [⟨(.g 4), .mv (.c (.bool false)), none⟩])
   (.ret))
  (.skip)))
  (.seq (.seq (.region [⟨(.l 25), .faddr 4 (.g 2), none⟩, ⟨(.l 26), .load true 5 (.l 25), none⟩, ⟨(.l 27), .faddr 4 (.g 3), none⟩, ⟨(.l 28), .load true 5 (.l 27), none⟩, ⟨(.l 29), .call fn_laws_eqSide [(.l 26), (.l 28)], none⟩, ⟨(.g 30), .un .not (.l 29), none⟩])
  (.cond (.g 30) (.seq (.region [⟨(.g 4), .mv (.c (.bool false)), none⟩])
   (.ret))
  (.skip)))
  (.seq (.seq (.region [⟨(.l 31), .faddr 9 (.g 2), none⟩, ⟨(.l 32), .load true 5 (.l 31), none⟩, ⟨(.l 33), .faddr 9 (.g 3), none⟩, ⟨(.l 34), .load true 5 (.l 33), none⟩, ⟨(.l 35), .call fn_laws_eqSide [(.l 32), (.l 34)], none⟩, ⟨(.g 36), .un .not (.l 35), none⟩])
  (.cond (.g 36) (.seq (.region [⟨(.g 4), .mv (.c (.bool false)), none⟩])
   (.ret))
  (.skip)))
  (.seq (.region [⟨(.g 4), .mv (.c (.bool true)), none⟩])
  (.ret))))))))⟩
theorem ln_laws_eqAssoc : Linked Tryd.prog fn_laws_eqAssoc ac_laws_eqAssoc := ⟨Tryd.f43, _, Tryd.func43, rfl, by kernel_rfl, by kernel_rfl, by kernel_rfl, by kernel_rfl⟩
def ac_laws_eqFinding : AF := ⟨[0, 1, 2, 3, 4, 9, 14], [.t 4],
  .seq (.region [⟨(.g 2), .box (.g 0), none⟩, ⟨(.g 3), .box (.g 1), none⟩, ⟨(.g 4), .mv (.c (.bool false)), none⟩])
  (.seq (.seq (.region [⟨(.l 5), .faddr 0 (.g 2), none⟩, ⟨(.l 6), .load false 1 (.l 5), none⟩, ⟨(.l 7), .faddr 0 (.g 3), none⟩, ⟨(.l 8), .load false 1 (.l 7), none⟩, ⟨(.g 9), .bin .neq (.l 6) (.l 8), none⟩])
  (.cond (.g 9) (.seq (.region [⟨(.g 4), .mv (.c (.bool false)), none⟩])
   (.ret))
  (.skip)))
  (.seq (.seq (.region [⟨(.l 10), .faddr 1 (.g 2), none⟩, ⟨(.l 11), .load false 1 (.l 10), none⟩, ⟨(.l 12), .faddr 1 (.g 3), none⟩, ⟨(.l 13), .load false 1 (.l 12), none⟩, ⟨(.g 14), .bin .neq (.l 11) (.l 13), none⟩])
  (.cond (.g 14) (.seq (.region [⟨(.g 4), .mv (.c (.bool false)), none⟩])
   (.ret))
  (.skip)))
  (.seq (.region [⟨(.g 4), .mv (.c (.bool true)), none⟩])
  (.ret))))⟩
theorem ln_laws_eqFinding : Linked Tryd.prog fn_laws_eqFinding ac_laws_eqFinding := ⟨Tryd.f44, _, Tryd.func44, rfl, by kernel_rfl, by kernel_rfl, by kernel_rfl, by kernel_rfl⟩
def ac_laws_szSide : AF := ⟨[0, 1, 2, 4, 10], [.t 4],
  .seq (.region [⟨(.g 2), .box (.g 0), none⟩, ⟨(.g 4), .mv (.c (.int .i64 0)), none⟩])
  (.seq (.region [⟨(.l 5), .faddr 3 (.g 2), none⟩, ⟨(.l 6), .load false 1 (.l 5), none⟩, ⟨(.l 7), .mv (.g 1), none⟩, ⟨(.l 8), .call fn_laws_szDataS [(.l 6), (.l 7)], none⟩, ⟨(.g 1), .mv (.l 8), none⟩])
  (.seq (.seq (.region [⟨(.l 9), .mv (.g 1), none⟩, ⟨(.g 10), .bin .lss (.l 9) (.c (.int .i64 0)), none⟩])
  (.cond (.g 10) (.seq (.region [⟨(.g 4), .mv (.c (.int .i64 (-1))), none⟩])
   (.ret))
  (.skip)))
  (.seq (.region [⟨(.l 11), .mv (.g 1), none⟩, ⟨(.g 4), .mv (.l 11), none⟩])
  (.ret))))⟩
theorem ln_laws_szSide : Linked Tryd.prog fn_laws_szSide ac_laws_szSide := ⟨Tryd.f45, _, Tryd.func45, rfl, by kernel_rfl, by kernel_rfl, by kernel_rfl, by kernel_rfl⟩
def ac_spec_SideValid : AF := ⟨[0, 1, 2, 3, 4, 7, 31, 66], [.t 2],
  .seq (.region [⟨(.g 1), .box (.g 0), none⟩, ⟨(.g 2), .mv (.c (.bool false)), none⟩])
  (.seq (.seq (.region [⟨(.l 5), .faddr 0 (.g 1), none⟩, ⟨(.l 6), .load false 1 (.l 5), none⟩, ⟨(.g 7), .bin .eql (.l 6) (.c (.int .i64 0)), none⟩])
  (.cond (.g 7) (.seq (.region [⟨(.l 8), .faddr 1 (.g 1), none⟩, ⟨(.l 9), .load false 1 (.l 8), none⟩, ⟨(.l 10), .bin .eql (.l 9) (.c (.int .i64 0)), none⟩, ⟨(.l 11), .mv (.l 10), none⟩, ⟨(.l 12), .faddr 2 (.g 1), (some ((.l 11), true))⟩, ⟨(.l 13), .load false 1 (.l 12), (some ((.l 11), true))⟩, ⟨(.l 14), .bin .eql (.l 13) (.c (.int .i64 0)), (some ((.l 11), true))⟩, ⟨(.l 15), .pick (.l 11) (.l 14) (.c (.bool false)), none⟩, ⟨(.l 16), .mv (.l 15), none⟩, ⟨(.l 17), .faddr 3 (.g 1), (some ((.l 16), true))⟩, ⟨(.l 18), .load false 1 (.l 17), (some ((.l 16), true))⟩, ⟨(.l 19), .len (.l 18), (some ((.l 16), true))⟩, ⟨(.l 20), .bin .eql (.l 19) (.c (.int .i64 0)), (some ((.l 16), true))⟩, ⟨(.l 21), .pick (.l 16) (.l 20) (.c (.bool false)), none⟩, ⟨(.l 22), .mv (.l 21), none⟩, ⟨(.l 23), .faddr 4 (.g 1), (some ((.l 22), true))⟩, ⟨(.l 24), .load false 1 (.l 23), (some ((.l 22), true))⟩, ⟨(.l 25), .bin .eql (.l 24) (.c (.int .i64 0)), (some ((.l 22), true))⟩, ⟨(.l 26), .pick (.l 22) (.l 25) (.c (.bool false)), none⟩, ⟨(.g 2), .mv (.l 26), none⟩])
   (.ret))
  (.skip)))
  (.seq (.seq (.region [⟨(.g 3), .mv (.c (.int .i64 0)), none⟩])
  (.block 0 (.loop (.seq (.seq (.region [⟨(.l 27), .mv (.g 3), none⟩, ⟨(.l 28), .faddr 3 (.g 1), none⟩, ⟨(.l 29), .load false 1 (.l 28), none⟩, ⟨(.l 30), .len (.l 29), none⟩, ⟨(.g 31), .bin .lss (.l 27) (.l 30), none⟩])
    (.cond (.g 31) (.skip)
    (.exit 0)))
    (.seq (.block 1 (.seq (.region [⟨(.l 34), .faddr 3 (.g 1), none⟩, ⟨(.l 35), .load false 1 (.l 34), none⟩, ⟨(.l 36), .mv (.g 3), none⟩, ⟨(.l 37), .elS 7 (.l 35) (.l 36), none⟩, ⟨(.l 38), .load true 7 (.l 37), none⟩, ⟨(.g 4), .alloc [(.int .i64 0), (.int .i64 0), (.int .i64 0), (.bool false), (.bool false), (.bool false), (.str [])], none⟩, ⟨.no, .store 7 (.g 4) (.l 38), none⟩])
     (.seq (.drawn [⟨(.l 39), .load true 7 (.g 4), none⟩, ⟨(.l 40), .call fn_spec_l12Data [(.l 39)], none⟩, ⟨(.l 41), .un .not (.l 40), none⟩, ⟨(.l 42), .mv (.l 41), none⟩, ⟨(.l 43), .faddr 0 (.g 4), (some ((.l 42), false))⟩, ⟨(.l 44), .load false 1 (.l 43), (some ((.l 42), false))⟩, ⟨(.l 45), .faddr 2 (.g 1), (some ((.l 42), false))⟩, ⟨(.l 46), .load false 1 (.l 45), (some ((.l 42), false))⟩, ⟨(.l 47), .mv (.g 3), (some ((.l 42), false))⟩, ⟨(.l 48), .call fn_spec_l3Add [(.l 46), (.l 47)], (some ((.l 42), false))⟩, ⟨(.l 49), .bin .neq (.l 44) (.l 48), (some ((.l 42), false))⟩, ⟨(.l 50), .pick (.l 42) (.c (.bool true)) (.l 49), none⟩, ⟨(.l 51), .mv (.l 50), none⟩, ⟨(.l 52), .faddr 1 (.g 4), (some ((.l 51), false))⟩, ⟨(.l 53), .load false 1 (.l 52), (some ((.l 51), false))⟩, ⟨(.l 54), .faddr 1 (.g 1), (some ((.l 51), false))⟩, ⟨(.l 55), .load false 1 (.l 54), (some ((.l 51), false))⟩, ⟨(.l 56), .bin .geq (.l 53) (.l 55), (some ((.l 51), false))⟩, ⟨(.l 57), .pick (.l 51) (.c (.bool true)) (.l 56), none⟩, ⟨(.l 58), .mv (.l 57), none⟩, ⟨(.l 59), .faddr 3 (.g 1), (some ((.l 58), false))⟩, ⟨(.l 60), .load false 1 (.l 59), (some ((.l 58), false))⟩, ⟨(.l 61), .mv (.g 3), (some ((.l 58), false))⟩, ⟨(.l 62), .cutSl 7 (.l 60) none (some (.l 61)), (some ((.l 58), false))⟩, ⟨(.l 63), .load true 7 (.g 4), (some ((.l 58), false))⟩] [[], [], [], [], [], [], [], [5], [], [5], [], [], [], [], [], [], [14], [], [], [], [], [], [], [], [23, 21]] [⟨(.l 64), .call fn_spec_l31Follows [(.l 62), (.l 63)], (some ((.l 58), false))⟩, ⟨(.l 65), .un .not (.l 64), (some ((.l 58), false))⟩, ⟨(.g 66), .pick (.l 58) (.c (.bool true)) (.l 65), none⟩])
     (.cond (.g 66) (.seq (.region [⟨(.g 2), .mv (.c (.bool false)), none⟩])
      (.ret))
     (.skip)))))
    (.region [⟨(.l 32), .mv (.g 3), none⟩, ⟨(.l 33), .bin .add (.l 32) (.c (.int .i64 1)), none⟩, ⟨(.g 3), .mv (.l 33), none⟩]))))))
  (.seq (.region [⟨(.l 67), .faddr 0 (.g 1), none⟩, ⟨(.l 68), .load false 1 (.l 67), none⟩, ⟨(.l 69), .call fn_spec_l6In [(.l 68), (.c (.int .i64 1)), (.c (.int .i64 4294967295))], none⟩, ⟨(.l 70), .mv (.l 69), none⟩, ⟨(.l 71), .faddr 1 (.g 1), (some ((.l 70), true))⟩, ⟨(.l 72), .load false 1 (.l 71), (some ((.l 70), true))⟩, ⟨(.l 73), .call fn_spec_l6In [(.l 72), (.c (.int .i64 1)), (.c (.int .i64 4))], (some ((.l 70), true))⟩, ⟨(.l 74), .pick (.l 70) (.l 73) (.c (.bool false)), none⟩, ⟨(.l 75), .mv (.l 74), none⟩, ⟨(.l 76), .faddr 2 (.g 1), (some ((.l 75), true))⟩, ⟨(.l 77), .load false 1 (.l 76), (some ((.l 75), true))⟩, ⟨(.l 78), .call fn_spec_l3Ok [(.l 77)], (some ((.l 75), true))⟩, ⟨(.l 79), .pick (.l 75) (.l 78) (.c (.bool false)), none⟩, ⟨(.l 80), .mv (.l 79), none⟩, ⟨(.l 81), .faddr 3 (.g 1), (some ((.l 80), true))⟩, ⟨(.l 82), .load false 1 (.l 81), (some ((.l 80), true))⟩, ⟨(.l 83), .len (.l 82), (some ((.l 80), true))⟩, ⟨(.l 84), .bin .leq (.l 83) (.c (.int .i64 12)), (some ((.l 80), true))⟩, ⟨(.l 85), .pick (.l 80) (.l 84) (.c (.bool false)), none⟩, ⟨(.l 86), .mv (.l 85), none⟩, ⟨(.l 87), .faddr 4 (.g 1), (some ((.l 86), true))⟩, ⟨(.l 88), .load false 1 (.l 87), (some ((.l 86), true))⟩, ⟨(.l 89), .faddr 3 (.g 1), (some ((.l 86), true))⟩, ⟨(.l 90), .load false 1 (.l 89), (some ((.l 86), true))⟩, ⟨(.l 91), .len (.l 90), (some ((.l 86), true))⟩, ⟨(.l 92), .call fn_spec_l6In [(.l 88), (.c (.int .i64 0)), (.l 91)], (some ((.l 86), true))⟩, ⟨(.l 93), .pick (.l 86) (.l 92) (.c (.bool false)), none⟩, ⟨(.g 2), .mv (.l 93), none⟩])
  (.ret))))⟩
theorem ln_spec_SideValid : Linked Tryd.prog fn_spec_SideValid ac_spec_SideValid := ⟨Tryd.f46, _, Tryd.func46, rfl, by kernel_rfl, by kernel_rfl, by kernel_rfl, by kernel_rfl⟩
def ac_spec_l31Open : AF := ⟨[0, 2], [.t 2],
  .seq (.region [⟨(.g 2), .mv (.c (.bool false)), none⟩])
  (.seq (.region [⟨(.l 3), .mv (.g 0), none⟩, ⟨(.l 4), .call fn_spec_l6In [(.l 3), (.c (.int .i64 3)), (.c (.int .i64 7))], none⟩, ⟨(.g 2), .mv (.l 4), none⟩])
  (.ret))⟩
theorem ln_spec_l31Open : Linked Tryd.prog fn_spec_l31Open ac_spec_l31Open := ⟨Tryd.f47, _, Tryd.func47, rfl, by kernel_rfl, by kernel_rfl, by kernel_rfl, by kernel_rfl⟩
def ac_spec_l1Hex : AF := ⟨[0, 2, 3, 4, 9], [.t 2],
  .seq (.region [⟨(.g 2), .mv (.c (.str [])), none⟩])
  (.seq (.region [⟨(.l 5), .lits 1 [], none⟩, ⟨(.g 3), .mv (.l 5), none⟩])
  (.seq (.seq (.region [⟨(.g 4), .mv (.c (.int .i64 0)), none⟩])
  (.block 0 (.loop (.seq (.seq (.region [⟨(.l 6), .mv (.g 4), none⟩, ⟨(.l 7), .mv (.g 0), none⟩, ⟨(.l 8), .lenStr (.l 7), none⟩, ⟨(.g 9), .bin .lss (.l 6) (.l 8), none⟩])
    (.cond (.g 9) (.skip)
    (.exit 0)))
    (.seq (.block 1 (.drawn [⟨(.l 12), .mv (.g 3), none⟩, ⟨(.l 13), .mv (.g 0), none⟩, ⟨(.l 14), .mv (.g 4), none⟩, ⟨(.l 15), .idxStr (.l 13) (.l 14), none⟩, ⟨(.l 16), .bin .quo (.l 15) (.c (.int .u8 16)), none⟩, ⟨(.l 17), .idxStr (.c (.str [48, 49, 50, 51, 52, 53, 54, 55, 56, 57, 97, 98, 99, 100, 101, 102])) (.l 16), none⟩, ⟨(.l 18), .mv (.g 0), none⟩, ⟨(.l 19), .mv (.g 4), none⟩, ⟨(.l 20), .idxStr (.l 18) (.l 19), none⟩, ⟨(.l 21), .bin .rem (.l 20) (.c (.int .u8 16)), none⟩, ⟨(.l 22), .idxStr (.c (.str [48, 49, 50, 51, 52, 53, 54, 55, 56, 57, 97, 98, 99, 100, 101, 102])) (.l 21), none⟩, ⟨(.l 23), .lits 1 [(.l 17), (.l 22)], none⟩] [[], [], [], [], [], [], [], [], [], [], [], []] [⟨(.l 24), .append 1 1 (.l 12) (.l 23), none⟩, ⟨(.g 3), .mv (.l 24), none⟩]))
    (.region [⟨(.l 10), .mv (.g 4), none⟩, ⟨(.l 11), .bin .add (.l 10) (.c (.int .i64 1)), none⟩, ⟨(.g 4), .mv (.l 11), none⟩]))))))
  (.seq (.region [⟨(.l 25), .mv (.g 3), none⟩, ⟨(.l 26), .toStr (.l 25), none⟩, ⟨(.g 2), .mv (.l 26), none⟩])
  (.ret))))⟩
theorem ln_spec_l1Hex : Linked Tryd.prog fn_spec_l1Hex ac_spec_l1Hex := ⟨Tryd.f48, _, Tryd.func48, rfl, by kernel_rfl, by kernel_rfl, by kernel_rfl, by kernel_rfl⟩
def ac_laws_toSide : AF := ⟨[0, 1, 2, 3], [.c 2 true 5],
  .seq (.region [⟨(.g 1), .box (.g 0), none⟩, ⟨(.g 2), .alloc [(.int .i64 0), (.int .i64 0), (.int .i64 0), .nils, (.int .i64 0)], none⟩])
  (.seq (.region [⟨(.g 3), .alloc [(.int .i64 0), (.int .i64 0), (.int .i64 0), .nils, (.int .i64 0)], none⟩])
  (.seq (.region [⟨(.l 4), .faddr 0 (.g 1), none⟩, ⟨(.l 5), .load false 1 (.l 4), none⟩, ⟨(.l 6), .faddr 0 (.g 3), none⟩, ⟨.no, .store 1 (.l 6) (.l 5), none⟩])
  (.seq (.region [⟨(.l 7), .faddr 1 (.g 1), none⟩, ⟨(.l 8), .load false 1 (.l 7), none⟩, ⟨(.l 9), .faddr 1 (.g 3), none⟩, ⟨.no, .store 1 (.l 9) (.l 8), none⟩])
  (.seq (.region [⟨(.l 10), .faddr 2 (.g 1), none⟩, ⟨(.l 11), .load false 1 (.l 10), none⟩, ⟨(.l 12), .faddr 2 (.g 3), none⟩, ⟨.no, .store 1 (.l 12) (.l 11), none⟩])
  (.seq (.region [⟨(.l 13), .faddr 3 (.g 1), none⟩, ⟨(.l 14), .load false 1 (.l 13), none⟩, ⟨(.l 15), .call fn_laws_toDataS [(.l 14)], none⟩, ⟨(.l 16), .faddr 3 (.g 3), none⟩, ⟨.no, .store 1 (.l 16) (.l 15), none⟩])
  (.seq (.region [⟨(.l 17), .faddr 4 (.g 1), none⟩, ⟨(.l 18), .load false 1 (.l 17), none⟩, ⟨(.l 19), .faddr 4 (.g 3), none⟩, ⟨.no, .store 1 (.l 19) (.l 18), none⟩])
  (.seq (.region [⟨(.l 20), .load true 5 (.g 3), none⟩, ⟨.no, .store 5 (.g 2) (.l 20), none⟩])
  (.ret))))))))⟩
theorem ln_laws_toSide : Linked Tryd.prog fn_laws_toSide ac_laws_toSide := ⟨Tryd.f49, _, Tryd.func49, rfl, by kernel_rfl, by kernel_rfl, by kernel_rfl, by kernel_rfl⟩
def ac_impl_SideValid : AF := ⟨[0, 1, 2, 3, 4, 7, 69, 71, 72, 73, 74, 105], [.t 2],
  .seq (.region [⟨(.g 1), .box (.g 0), none⟩, ⟨(.g 2), .mv (.c (.bool false)), none⟩])
  (.seq (.seq (.region [⟨(.l 5), .faddr 0 (.g 1), none⟩, ⟨(.l 6), .load false 1 (.l 5), none⟩, ⟨(.g 7), .bin .eql (.l 6) (.c (.int .i64 0)), none⟩])
  (.cond (.g 7) (.seq (.region [⟨(.l 8), .faddr 1 (.g 1), none⟩, ⟨(.l 9), .load false 1 (.l 8), none⟩, ⟨(.l 10), .bin .eql (.l 9) (.c (.int .i64 0)), none⟩, ⟨(.l 11), .mv (.l 10), none⟩, ⟨(.l 12), .faddr 2 (.g 1), (some ((.l 11), true))⟩, ⟨(.l 13), .load false 1 (.l 12), (some ((.l 11), true))⟩, ⟨(.l 14), .bin .eql (.l 13) (.c (.int .i64 0)), (some ((.l 11), true))⟩, ⟨(.l 15), .pick (.l 11) (.l 14) (.c (.bool false)), none⟩, ⟨(.l 16), .mv (.l 15), none⟩, ⟨(.l 17), .faddr 3 (.g 1), (some ((.l 16), true))⟩, ⟨(.l 18), .load false 1 (.l 17), (some ((.l 16), true))⟩, ⟨(.l 19), .len (.l 18), (some ((.l 16), true))⟩, ⟨(.l 20), .bin .eql (.l 19) (.c (.int .i64 0)), (some ((.l 16), true))⟩, ⟨(.l 21), .pick (.l 16) (.l 20) (.c (.bool false)), none⟩, ⟨(.l 22), .mv (.l 21), none⟩, ⟨(.l 23), .faddr 4 (.g 1), (some ((.l 22), true))⟩, ⟨(.l 24), .load false 1 (.l 23), (some ((.l 22), true))⟩, ⟨(.l 25), .bin .eql (.l 24) (.c (.int .i64 0)), (some ((.l 22), true))⟩, ⟨(.l 26), .pick (.l 22) (.l 25) (.c (.bool false)), none⟩, ⟨(.g 2), .mv (.l 26), none⟩])
   (.ret))
  (.skip)))
  (.seq (.seq (.region [⟨(.l 27), .faddr 0 (.g 1), none⟩, ⟨(.l 28), .load false 1 (.l 27), none⟩, ⟨(.l 29), .bin .lss (.l 28) (.c (.int .i64 1)), none⟩, ⟨(.l 30), .mv (.l 29), none⟩, ⟨(.l 31), .faddr 0 (.g 1), (some ((.l 30), false))⟩, ⟨(.l 32), .load false 1 (.l 31), (some ((.l 30), false))⟩, ⟨(.l 33), .bin .gtr (.l 32) (.c (.int .i64 4294967295)), (some ((.l 30), false))⟩, ⟨(.l 34), .pick (.l 30) (.c (.bool true)) (.l 33), none⟩, ⟨(.l 35), .mv (.l 34), none⟩, ⟨(.l 36), .faddr 1 (.g 1), (some ((.l 35), false))⟩, ⟨(.l 37), .load false 1 (.l 36), (some ((.l 35), false))⟩, ⟨(.l 38), .bin .lss (.l 37) (.c (.int .i64 1)), (some ((.l 35), false))⟩, ⟨(.l 39), .pick (.l 35) (.c (.bool true)) (.l 38), none⟩, ⟨(.l 40), .mv (.l 39), none⟩, ⟨(.l 41), .faddr 1 (.g 1), (some ((.l 40), false))⟩, ⟨(.l 42), .load false 1 (.l 41), (some ((.l 40), false))⟩, ⟨(.l 43), .bin .gtr (.l 42) (.c (.int .i64 4)), (some ((.l 40), false))⟩, ⟨(.l 44), .pick (.l 40) (.c (.bool true)) (.l 43), none⟩, ⟨(.l 45), .mv (.l 44), none⟩, ⟨(.l 46), .faddr 2 (.g 1), (some ((.l 45), false))⟩, ⟨(.l 47), .load false 1 (.l 46), (some ((.l 45), false))⟩, ⟨(.l 48), .call fn_impl_serialOk [(.l 47)], (some ((.l 45), false))⟩, ⟨(.l 49), .un .not (.l 48), (some ((.l 45), false))⟩, ⟨(.l 50), .pick (.l 45) (.c (.bool true)) (.l 49), none⟩, ⟨(.l 51), .mv (.l 50), none⟩, ⟨(.l 52), .faddr 3 (.g 1), (some ((.l 51), false))⟩, ⟨(.l 53), .load false 1 (.l 52), (some ((.l 51), false))⟩, ⟨(.l 54), .len (.l 53), (some ((.l 51), false))⟩, ⟨(.l 55), .bin .gtr (.l 54) (.c (.int .i64 12)), (some ((.l 51), false))⟩, ⟨(.l 56), .pick (.l 51) (.c (.bool true)) (.l 55), none⟩, ⟨(.l 57), .mv (.l 56), none⟩, ⟨(.l 58), .faddr 4 (.g 1), (some ((.l 57), false))⟩, ⟨(.l 59), .load false 1 (.l 58), (some ((.l 57), false))⟩, ⟨(.l 60), .bin .lss (.l 59) (.c (.int .i64 0)), (some ((.l 57), false))⟩, ⟨(.l 61), .pick (.l 57) (.c (.bool true)) (.l 60), none⟩, ⟨(.l 62), .mv (.l 61), none⟩, ⟨(.l 63), .faddr 4 (.g 1), (some ((.l 62), false))⟩, ⟨(.l 64), .load false 1 (.l 63), (some ((.l 62), false))⟩, ⟨(.l 65), .faddr 3 (.g 1), (some ((.l 62), false))⟩, ⟨(.l 66), .load false 1 (.l 65), (some ((.l 62), false))⟩, ⟨(.l 67), .len (.l 66), (some ((.l 62), false))⟩, ⟨(.l 68), .bin .gtr (.l 64) (.l 67), (some ((.l 62), false))⟩, ⟨(.g 69), .pick (.l 62) (.c (.bool true)) (.l 68), none⟩])
  (.cond (.g 69) (.seq (.region [⟨(.g 2), .mv (.c (.bool false)), none⟩])
   (.ret))
  (.skip)))
  (.seq (.seq (.region [⟨(.l 70), .faddr 3 (.g 1), none⟩, ⟨(.g 71), .load false 1 (.l 70), none⟩, ⟨(.g 72), .len (.g 71), none⟩, ⟨(.g 73), .mv (.c (.int .i64 0)), none⟩])
  (.block 0 (.loop (.seq (.region [⟨(.g 74), .bin .lss (.g 73) (.g 72), none⟩])
    (.seq (.cond (.g 74) (.skip)
    (.exit 0))
    (.seq (.block 1 (.seq (.region [⟨(.l 75), .mv (.g 73), none⟩, ⟨(.l 76), .elS 7 (.g 71) (.g 73), none⟩, ⟨(.l 77), .load true 7 (.l 76), none⟩, ⟨(.g 4), .alloc [(.int .i64 0), (.int .i64 0), (.int .i64 0), (.bool false), (.bool false), (.bool false), (.str [])], none⟩, ⟨(.g 3), .mv (.l 75), none⟩, ⟨.no, .store 7 (.g 4) (.l 77), none⟩])
     (.seq (.drawn [⟨(.l 78), .load true 7 (.g 4), none⟩, ⟨(.l 79), .call fn_impl_dataOk [(.l 78)], none⟩, ⟨(.l 80), .un .not (.l 79), none⟩, ⟨(.l 81), .mv (.l 80), none⟩, ⟨(.l 82), .faddr 0 (.g 4), (some ((.l 81), false))⟩, ⟨(.l 83), .load false 1 (.l 82), (some ((.l 81), false))⟩, ⟨(.l 84), .faddr 2 (.g 1), (some ((.l 81), false))⟩, ⟨(.l 85), .load false 1 (.l 84), (some ((.l 81), false))⟩, ⟨(.l 86), .mv (.g 3), (some ((.l 81), false))⟩, ⟨(.l 87), .call fn_impl_SerialAdd [(.l 85), (.l 86)], (some ((.l 81), false))⟩, ⟨(.l 88), .bin .neq (.l 83) (.l 87), (some ((.l 81), false))⟩, ⟨(.l 89), .pick (.l 81) (.c (.bool true)) (.l 88), none⟩, ⟨(.l 90), .mv (.l 89), none⟩, ⟨(.l 91), .faddr 1 (.g 4), (some ((.l 90), false))⟩, ⟨(.l 92), .load false 1 (.l 91), (some ((.l 90), false))⟩, ⟨(.l 93), .faddr 1 (.g 1), (some ((.l 90), false))⟩, ⟨(.l 94), .load false 1 (.l 93), (some ((.l 90), false))⟩, ⟨(.l 95), .bin .geq (.l 92) (.l 94), (some ((.l 90), false))⟩, ⟨(.l 96), .pick (.l 90) (.c (.bool true)) (.l 95), none⟩, ⟨(.l 97), .mv (.l 96), none⟩, ⟨(.l 98), .faddr 3 (.g 1), (some ((.l 97), false))⟩, ⟨(.l 99), .load false 1 (.l 98), (some ((.l 97), false))⟩, ⟨(.l 100), .mv (.g 3), (some ((.l 97), false))⟩, ⟨(.l 101), .cutSl 7 (.l 99) none (some (.l 100)), (some ((.l 97), false))⟩, ⟨(.l 102), .load true 7 (.g 4), (some ((.l 97), false))⟩] [[], [], [], [], [], [], [], [5], [], [5], [], [], [], [], [], [], [14], [], [], [], [], [], [], [], [23, 21]] [⟨(.l 103), .call fn_impl_mayFollow [(.l 101), (.l 102)], (some ((.l 97), false))⟩, ⟨(.l 104), .un .not (.l 103), (some ((.l 97), false))⟩, ⟨(.g 105), .pick (.l 97) (.c (.bool true)) (.l 104), none⟩])
     (.cond (.g 105) (.seq (.region [⟨(.g 2), .mv (.c (.bool false)), none⟩])
      (.ret))
     (.skip)))))
    (.region [⟨(.l 106), .bin .add (.g 73) (.c (.int .i64 1)), none⟩, ⟨(.g 73), .mv (.l 106), none⟩])))))))
  (.seq (.region [⟨(.g 2), .mv (.c (.bool true)), none⟩])
  (.ret)))))⟩
theorem ln_impl_SideValid : Linked Tryd.prog fn_impl_SideValid ac_impl_SideValid := ⟨Tryd.f50, _, Tryd.func50, rfl, by kernel_rfl, by kernel_rfl, by kernel_rfl, by kernel_rfl⟩
def ac_impl_saidIn : AF := ⟨[0, 2, 3, 4, 6, 8, 9, 10, 11, 15, 21], [.t 2],
  .seq (.region [⟨(.g 2), .mv (.c .nils), none⟩])
  (.seq (.region [⟨(.l 7), .lits 4 [], none⟩, ⟨(.g 3), .mv (.l 7), none⟩])
  (.seq (.region [⟨(.g 4), .mv (.c (.str [])), none⟩])
  (.seq (.seq (.region [⟨(.g 8), .mv (.g 0), none⟩, ⟨(.g 9), .len (.g 8), none⟩, ⟨(.g 10), .mv (.c (.int .i64 0)), none⟩])
  (.block 0 (.loop (.seq (.region [⟨(.g 11), .bin .lss (.g 10) (.g 9), none⟩])
    (.seq (.cond (.g 11) (.skip)
    (.exit 0))
    (.seq (.block 1 (.seq (.region [⟨(.l 12), .elS 7 (.g 8) (.g 10), none⟩, ⟨(.l 13), .load true 7 (.l 12), none⟩, ⟨(.g 6), .alloc [(.int .i64 0), (.int .i64 0), (.int .i64 0), (.bool false), (.bool false), (.bool false), (.str [])], none⟩, ⟨.no, .store 7 (.g 6) (.l 13), none⟩])
     (.seq (.seq (.region [⟨(.l 14), .faddr 3 (.g 6), none⟩, ⟨(.g 15), .load false 1 (.l 14), none⟩])
     (.cond (.g 15) (.region [⟨(.g 4), .mv (.c (.str [])), none⟩])
     (.skip)))
     (.seq (.region [⟨(.l 16), .mv (.g 4), none⟩, ⟨(.l 17), .faddr 6 (.g 6), none⟩, ⟨(.l 18), .load false 1 (.l 17), none⟩, ⟨(.l 19), .bin .add (.l 16) (.l 18), none⟩, ⟨(.g 4), .mv (.l 19), none⟩])
     (.seq (.region [⟨(.l 20), .faddr 4 (.g 6), none⟩, ⟨(.g 21), .load false 1 (.l 20), none⟩])
     (.cond (.g 21) (.region [⟨(.l 22), .mv (.g 3), none⟩, ⟨(.l 23), .faddr 1 (.g 6), none⟩, ⟨(.l 24), .load false 1 (.l 23), none⟩, ⟨(.l 25), .faddr 2 (.g 6), none⟩, ⟨(.l 26), .load false 1 (.l 25), none⟩, ⟨(.l 27), .faddr 5 (.g 6), none⟩, ⟨(.l 28), .load false 1 (.l 27), none⟩, ⟨(.l 29), .mv (.g 4), none⟩, ⟨(.l 30), .build [(.int .i64 0), (.int .i64 0), (.bool false), (.str [])] [(0, 1, (.l 24)), (1, 1, (.l 26)), (2, 1, (.l 28)), (3, 1, (.l 29))], none⟩, ⟨(.l 31), .lits 4 [(.l 30)], none⟩, ⟨(.l 32), .append 4 40 (.l 22) (.l 31), none⟩, ⟨(.g 3), .mv (.l 32), none⟩])
     (.skip)))))))
    (.region [⟨(.l 33), .bin .add (.g 10) (.c (.int .i64 1)), none⟩, ⟨(.g 10), .mv (.l 33), none⟩])))))))
  (.seq (.region [⟨(.l 34), .mv (.g 3), none⟩, ⟨(.g 2), .mv (.l 34), none⟩])
  (.ret)))))⟩
theorem ln_impl_saidIn : Linked Tryd.prog fn_impl_saidIn ac_impl_saidIn := ⟨Tryd.f53, _, Tryd.func53, rfl, by kernel_rfl, by kernel_rfl, by kernel_rfl, by kernel_rfl⟩
def ac_impl_serialOk : AF := ⟨[0, 2], [.t 2],
  .seq (.region [⟨(.g 2), .mv (.c (.bool false)), none⟩])
  (.seq (.region [⟨(.l 3), .mv (.g 0), none⟩, ⟨(.l 4), .bin .geq (.l 3) (.c (.int .i64 0)), none⟩, ⟨(.l 5), .mv (.l 4), none⟩, ⟨(.l 6), .mv (.g 0), (some ((.l 5), true))⟩, ⟨(.l 7), .bin .lss (.l 6) (.c (.int .i64 65536)), (some ((.l 5), true))⟩, ⟨(.l 8), .pick (.l 5) (.l 7) (.c (.bool false)), none⟩, ⟨(.g 2), .mv (.l 8), none⟩])
  (.ret))⟩
theorem ln_impl_serialOk : Linked Tryd.prog fn_impl_serialOk ac_impl_serialOk := ⟨Tryd.f54, _, Tryd.func54, rfl, by kernel_rfl, by kernel_rfl, by kernel_rfl, by kernel_rfl⟩
def ac_impl_hexOf : AF := ⟨[0, 2, 3, 4, 12], [.t 2],
  .seq (.region [⟨(.g 2), .mv (.c (.str [])), none⟩])
  (.seq (.region [⟨(.l 5), .mv (.g 0), none⟩, ⟨(.l 6), .lenStr (.l 5), none⟩, ⟨(.l 7), .bin .mul (.c (.int .i64 2)) (.l 6), none⟩, ⟨(.l 8), .make 1 1 (.int .u8 0) (.c (.int .i64 0)) (.l 7), none⟩, ⟨(.g 3), .mv (.l 8), none⟩])
  (.seq (.seq (.region [⟨(.g 4), .mv (.c (.int .i64 0)), none⟩])
  (.block 0 (.loop (.seq (.seq (.region [⟨(.l 9), .mv (.g 4), none⟩, ⟨(.l 10), .mv (.g 0), none⟩, ⟨(.l 11), .lenStr (.l 10), none⟩, ⟨(.g 12), .bin .lss (.l 9) (.l 11), none⟩])
    (.cond (.g 12) (.skip)
    (.exit 0)))
    (.seq (.block 1 (.drawn [⟨(.l 15), .mv (.g 3), none⟩, ⟨(.l 16), .mv (.g 0), none⟩, ⟨(.l 17), .mv (.g 4), none⟩, ⟨(.l 18), .idxStr (.l 16) (.l 17), none⟩, ⟨(.l 19), .bin .shr (.l 18) (.c (.int .u64 4)), none⟩, ⟨(.l 20), .idxStr (.c (.str [48, 49, 50, 51, 52, 53, 54, 55, 56, 57, 97, 98, 99, 100, 101, 102])) (.l 19), none⟩, ⟨(.l 21), .mv (.g 0), none⟩, ⟨(.l 22), .mv (.g 4), none⟩, ⟨(.l 23), .idxStr (.l 21) (.l 22), none⟩, ⟨(.l 24), .bin .and (.l 23) (.c (.int .u8 15)), none⟩, ⟨(.l 25), .idxStr (.c (.str [48, 49, 50, 51, 52, 53, 54, 55, 56, 57, 97, 98, 99, 100, 101, 102])) (.l 24), none⟩, ⟨(.l 26), .lits 1 [(.l 20), (.l 25)], none⟩] [[], [], [], [], [], [], [], [], [], [], [], []] [⟨(.l 27), .append 1 1 (.l 15) (.l 26), none⟩, ⟨(.g 3), .mv (.l 27), none⟩]))
    (.region [⟨(.l 13), .mv (.g 4), none⟩, ⟨(.l 14), .bin .add (.l 13) (.c (.int .i64 1)), none⟩, ⟨(.g 4), .mv (.l 14), none⟩]))))))
  (.seq (.region [⟨(.l 28), .mv (.g 3), none⟩, ⟨(.l 29), .toStr (.l 28), none⟩, ⟨(.g 2), .mv (.l 29), none⟩])
  (.ret))))⟩
theorem ln_impl_hexOf : Linked Tryd.prog fn_impl_hexOf ac_impl_hexOf := ⟨Tryd.f55, _, Tryd.func55, rfl, by kernel_rfl, by kernel_rfl, by kernel_rfl, by kernel_rfl⟩
def ac_laws_eqSide : AF := ⟨[0, 1, 2, 3, 4, 9, 14, 19, 25, 30], [.t 4],
  .seq (.region [⟨(.g 2), .box (.g 0), none⟩, ⟨(.g 3), .box (.g 1), none⟩, ⟨(.g 4), .mv (.c (.bool false)), none⟩])
  (.seq (.seq (.region [⟨(.l 5), .faddr 0 (.g 2), none⟩, ⟨(.l 6), .load false 1 (.l 5), none⟩, ⟨(.l 7), .faddr 0 (.g 3), none⟩, ⟨(.l 8), .load false 1 (.l 7), none⟩, ⟨(.g 9), .bin .neq (.l 6) (.l 8), none⟩])
  (.cond (.g 9) (.seq (.region [⟨(.g 4), .mv (.c (.bool false)), none⟩])
   (.ret))
  (.skip)))
  (.seq (.seq (.region [⟨(.l 10), .faddr 1 (.g 2), none⟩, ⟨(.l 11), .load false 1 (.l 10), none⟩, ⟨(.l 12), .faddr 1 (.g 3), none⟩, ⟨(.l 13), .load false 1 (.l 12), none⟩, ⟨(.g 14), .bin .neq (.l 11) (.l 13), none⟩])
  (.cond (.g 14) (.seq (.region [⟨(.g 4), .mv (.c (.bool false)), none⟩])
   (.ret))
  (.skip)))
  (.seq (.seq (.region [⟨(.l 15), .faddr 2 (.g 2), none⟩, ⟨(.l 16), .load false 1 (.l 15), none⟩, ⟨(.l 17), .faddr 2 (.g 3), none⟩, ⟨(.l 18), .load false 1 (.l 17), none⟩, ⟨(.g 19), .bin .neq (.l 16) (.l 18), none⟩])
  (.cond (.g 19) (.seq (.region [⟨(.g 4), .mv (.c (.bool false)), none⟩])
   (.ret))
  (.skip)))
  (.seq (.seq (.region [⟨(.l 20), .faddr 3 (.g 2), none⟩, ⟨(.l 21), .load false 1 (.l 20), none⟩, ⟨(.l 22), .faddr 3 (.g 3), none⟩, ⟨(.l 23), .load false 1 (.l 22), none⟩, ⟨(.l 24), .call fn_laws_eqDataS [(.l 21), (.l 23)], none⟩, ⟨(.g 25), .un .not (.l 24), none⟩])
  (.cond (.g 25) (.seq (.region [⟨(.g 4), .mv (.c (.bool false)), none⟩])
   (.ret))
  (.skip)))
  (.seq (.seq (.region [⟨(.l 26), .faddr 4 (.g 2), none⟩, ⟨(.l 27), .load false 1 (.l 26), none⟩, ⟨(.l 28), .faddr 4 (.g 3), none⟩, ⟨(.l 29), .load false 1 (.l 28), none⟩, ⟨(.g 30), .bin .neq (.l 27) (.l 29), none⟩])
  (.cond (.g 30) (.seq (.region [⟨(.g 4), .mv (.c (.bool false)), none⟩])
   (.ret))
  (.skip)))
  (.seq (.region [⟨(.g 4), .mv (.c (.bool true)), none⟩])
  (.ret)))))))⟩
theorem ln_laws_eqSide : Linked Tryd.prog fn_laws_eqSide ac_laws_eqSide := ⟨Tryd.f56, _, Tryd.func56, rfl, by kernel_rfl, by kernel_rfl, by kernel_rfl, by kernel_rfl⟩
def ac_laws_szDataS : AF := ⟨[0, 1, 4, 5, 11, 15, 25], [.t 4],
  .seq (.region [⟨(.g 4), .mv (.c (.int .i64 0)), none⟩])
  (.seq (.region [⟨(.l 6), .mv (.g 1), none⟩, ⟨(.l 7), .mv (.g 0), none⟩, ⟨(.l 8), .len (.l 7), none⟩, ⟨(.l 9), .bin .sub (.l 6) (.l 8), none⟩, ⟨(.g 1), .mv (.l 9), none⟩])
  (.seq (.seq (.region [⟨(.l 10), .mv (.g 1), none⟩, ⟨(.g 11), .bin .lss (.l 10) (.c (.int .i64 0)), none⟩])
  (.cond (.g 11) (.seq (.region [⟨(.g 4), .mv (.c (.int .i64 (-1))), none⟩])
   (.ret))
  (.skip)))
  (.seq (.seq (.region [⟨(.g 5), .mv (.c (.int .i64 0)), none⟩])
  (.block 0 (.loop (.seq (.seq (.region [⟨(.l 12), .mv (.g 5), none⟩, ⟨(.l 13), .mv (.g 0), none⟩, ⟨(.l 14), .len (.l 13), none⟩, ⟨(.g 15), .bin .lss (.l 12) (.l 14), none⟩])
    (.cond (.g 15) (.skip)
    (.exit 0)))
    (.seq (.block 1 (.seq (.region [⟨(.l 18), .mv (.g 0), none⟩, ⟨(.l 19), .mv (.g 5), none⟩, ⟨(.l 20), .elS 7 (.l 18) (.l 19), none⟩, ⟨(.l 21), .load true 7 (.l 20), none⟩, ⟨(.l 22), .mv (.g 1), none⟩, ⟨(.l 23), .call fn_laws_szData [(.l 21), (.l 22)], none⟩, ⟨(.g 1), .mv (.l 23), none⟩])
     (.seq (.region [⟨(.l 24), .mv (.g 1), none⟩, ⟨(.g 25), .bin .lss (.l 24) (.c (.int .i64 0)), none⟩])
     (.cond (.g 25) (.seq (.region [⟨(.g 4), .mv (.c (.int .i64 (-1))), none⟩])
      (.ret))
     (.skip)))))
    (.region [⟨(.l 16), .mv (.g 5), none⟩, ⟨(.l 17), .bin .add (.l 16) (.c (.int .i64 1)), none⟩, ⟨(.g 5), .mv (.l 17), none⟩]))))))
  (.seq (.region [⟨(.l 26), .mv (.g 1), none⟩, ⟨(.g 4), .mv (.l 26), none⟩])
  (.ret)))))⟩
theorem ln_laws_szDataS : Linked Tryd.prog fn_laws_szDataS ac_laws_szDataS := ⟨Tryd.f57, _, Tryd.func57, rfl, by kernel_rfl, by kernel_rfl, by kernel_rfl, by kernel_rfl⟩
def ac_spec_l12Data : AF := ⟨[0, 1, 2], [.t 2],
  .seq (.region [⟨(.g 1), .box (.g 0), none⟩, ⟨(.g 2), .mv (.c (.bool false)), none⟩])
  (.seq (.region [⟨(.l 3), .faddr 0 (.g 1), none⟩, ⟨(.l 4), .load false 1 (.l 3), none⟩, ⟨(.l 5), .call fn_spec_l3Ok [(.l 4)], none⟩, ⟨(.l 6), .mv (.l 5), none⟩, ⟨(.l 7), .faddr 1 (.g 1), (some ((.l 6), true))⟩, ⟨(.l 8), .load false 1 (.l 7), (some ((.l 6), true))⟩, ⟨(.l 9), .call fn_spec_l3Ok [(.l 8)], (some ((.l 6), true))⟩, ⟨(.l 10), .pick (.l 6) (.l 9) (.c (.bool false)), none⟩, ⟨(.l 11), .mv (.l 10), none⟩, ⟨(.l 12), .faddr 2 (.g 1), (some ((.l 11), true))⟩, ⟨(.l 13), .load false 1 (.l 12), (some ((.l 11), true))⟩, ⟨(.l 14), .call fn_spec_l3Ok [(.l 13)], (some ((.l 11), true))⟩, ⟨(.l 15), .pick (.l 11) (.l 14) (.c (.bool false)), none⟩, ⟨(.l 16), .mv (.l 15), none⟩, ⟨(.l 17), .faddr 6 (.g 1), (some ((.l 16), true))⟩, ⟨(.l 18), .load false 1 (.l 17), (some ((.l 16), true))⟩, ⟨(.l 19), .lenStr (.l 18), (some ((.l 16), true))⟩, ⟨(.l 20), .call fn_spec_l6In [(.l 19), (.c (.int .i64 1)), (.c (.int .i64 20))], (some ((.l 16), true))⟩, ⟨(.l 21), .pick (.l 16) (.l 20) (.c (.bool false)), none⟩, ⟨(.g 2), .mv (.l 21), none⟩])
  (.ret))⟩
theorem ln_spec_l12Data : Linked Tryd.prog fn_spec_l12Data ac_spec_l12Data := ⟨Tryd.f58, _, Tryd.func58, rfl, by kernel_rfl, by kernel_rfl, by kernel_rfl, by kernel_rfl⟩
def ac_spec_l3Add : AF := ⟨[0, 1, 4], [.t 4],
  .seq (.region [⟨(.g 4), .mv (.c (.int .i64 0)), none⟩])
  (.seq (.region [⟨(.l 5), .mv (.g 0), none⟩, ⟨(.l 6), .mv (.g 1), none⟩, ⟨(.l 7), .bin .rem (.l 6) (.c (.int .i64 65536)), none⟩, ⟨(.l 8), .bin .add (.l 5) (.l 7), none⟩, ⟨(.l 9), .bin .add (.l 8) (.c (.int .i64 65536)), none⟩, ⟨(.l 10), .bin .rem (.l 9) (.c (.int .i64 65536)), none⟩, ⟨(.g 4), .mv (.l 10), none⟩])
  (.ret))⟩
theorem ln_spec_l3Add : Linked Tryd.prog fn_spec_l3Add ac_spec_l3Add := ⟨Tryd.f59, _, Tryd.func59, rfl, by kernel_rfl, by kernel_rfl, by kernel_rfl, by kernel_rfl⟩
def ac_spec_l31Follows : AF := ⟨[0, 1, 3, 4, 5, 18], [.t 4],
  .seq (.region [⟨(.g 3), .box (.g 1), none⟩, ⟨(.g 4), .mv (.c (.bool false)), none⟩])
  (.seq (.region [⟨(.l 6), .mv (.g 0), none⟩, ⟨(.l 7), .len (.l 6), none⟩, ⟨(.g 5), .mv (.l 7), none⟩])
  (.seq (.seq (.region [⟨(.l 8), .mv (.g 5), none⟩, ⟨(.l 9), .bin .gtr (.l 8) (.c (.int .i64 0)), none⟩, ⟨(.l 10), .mv (.l 9), none⟩, ⟨(.l 11), .mv (.g 0), (some ((.l 10), true))⟩, ⟨(.l 12), .mv (.g 5), (some ((.l 10), true))⟩, ⟨(.l 13), .bin .sub (.l 12) (.c (.int .i64 1)), (some ((.l 10), true))⟩, ⟨(.l 14), .elS 7 (.l 11) (.l 13), (some ((.l 10), true))⟩, ⟨(.l 15), .faddr 4 (.l 14), (some ((.l 10), true))⟩, ⟨(.l 16), .load false 1 (.l 15), (some ((.l 10), true))⟩, ⟨(.l 17), .un .not (.l 16), (some ((.l 10), true))⟩, ⟨(.g 18), .pick (.l 10) (.l 17) (.c (.bool false)), none⟩])
  (.cond (.g 18) (.seq (.drawn [⟨(.l 19), .faddr 3 (.g 3), none⟩, ⟨(.l 20), .load false 1 (.l 19), none⟩, ⟨(.l 21), .un .not (.l 20), none⟩, ⟨(.l 22), .mv (.l 21), none⟩, ⟨(.l 23), .mv (.g 0), (some ((.l 22), true))⟩, ⟨(.l 24), .mv (.g 5), (some ((.l 22), true))⟩, ⟨(.l 25), .bin .sub (.l 24) (.c (.int .i64 1)), (some ((.l 22), true))⟩, ⟨(.l 26), .elS 7 (.l 23) (.l 25), (some ((.l 22), true))⟩, ⟨(.l 27), .load true 7 (.l 26), (some ((.l 22), true))⟩, ⟨(.l 28), .load true 7 (.g 3), (some ((.l 22), true))⟩] [[], [], [], [], [], [], [], [], [], [8, 7]] [⟨(.l 29), .call fn_spec_l22Same [(.l 27), (.l 28)], (some ((.l 22), true))⟩, ⟨(.l 30), .pick (.l 22) (.l 29) (.c (.bool false)), none⟩, ⟨(.g 4), .mv (.l 30), none⟩])
   (.ret))
  (.skip)))
  (.seq (.drawn [⟨(.l 31), .faddr 3 (.g 3), none⟩, ⟨(.l 32), .load false 1 (.l 31), none⟩, ⟨(.l 33), .mv (.l 32), none⟩, ⟨(.l 34), .faddr 5 (.g 3), (some ((.l 33), true))⟩, ⟨(.l 35), .load false 1 (.l 34), (some ((.l 33), true))⟩, ⟨(.l 36), .mv (.l 35), (some ((.l 33), true))⟩, ⟨(.l 37), .faddr 2 (.g 3), (some ((.l 36), false))⟩, ⟨(.l 38), .load false 1 (.l 37), (some ((.l 36), false))⟩, ⟨(.l 39), .mv (.g 0), (some ((.l 36), false))⟩, ⟨(.l 40), .faddr 1 (.g 3), (some ((.l 36), false))⟩, ⟨(.l 41), .load false 1 (.l 40), (some ((.l 36), false))⟩, ⟨(.l 42), .call fn_spec_l31Ssn [(.l 39), (.l 41)], (some ((.l 36), false))⟩] [[], [], [], [], [], [], [], [], [], [], [7], [7]] [⟨(.l 43), .bin .eql (.l 38) (.l 42), (some ((.l 36), false))⟩, ⟨(.l 44), .pick (.l 36) (.c (.bool true)) (.l 43), (some ((.l 33), true))⟩, ⟨(.l 45), .pick (.l 33) (.l 44) (.c (.bool false)), none⟩, ⟨(.g 4), .mv (.l 45), none⟩])
  (.ret))))⟩
theorem ln_spec_l31Follows : Linked Tryd.prog fn_spec_l31Follows ac_spec_l31Follows := ⟨Tryd.f60, _, Tryd.func60, rfl, by kernel_rfl, by kernel_rfl, by kernel_rfl, by kernel_rfl⟩
def ac_spec_l3Ok : AF := ⟨[0, 2], [.t 2],
  .seq (.region [⟨(.g 2), .mv (.c (.bool false)), none⟩])
  (.seq (.region [⟨(.l 3), .mv (.g 0), none⟩, ⟨(.l 4), .call fn_spec_l6In [(.l 3), (.c (.int .i64 0)), (.c (.int .i64 65535))], none⟩, ⟨(.g 2), .mv (.l 4), none⟩])
  (.ret))⟩
theorem ln_spec_l3Ok : Linked Tryd.prog fn_spec_l3Ok ac_spec_l3Ok := ⟨Tryd.f61, _, Tryd.func61, rfl, by kernel_rfl, by kernel_rfl, by kernel_rfl, by kernel_rfl⟩
def ac_laws_toDataS : AF := ⟨[0, 2, 3, 4, 11], [.t 2],
  .seq (.region [⟨(.g 2), .mv (.c .nils), none⟩])
  (.seq (.region [⟨(.l 5), .mv (.g 0), none⟩, ⟨(.l 6), .len (.l 5), none⟩, ⟨(.l 7), .make 7 48 (.agg [(.int .i64 0), (.int .i64 0), (.int .i64 0), (.bool false), (.bool false), (.bool false), (.str [])]) (.l 6) (.l 6), none⟩, ⟨(.g 3), .mv (.l 7), none⟩])
  (.seq (.seq (.region [⟨(.g 4), .mv (.c (.int .i64 0)), none⟩])
  (.block 0 (.loop (.seq (.seq (.region [⟨(.l 8), .mv (.g 4), none⟩, ⟨(.l 9), .mv (.g 0), none⟩, ⟨(.l 10), .len (.l 9), none⟩, ⟨(.g 11), .bin .lss (.l 8) (.l 10), none⟩])
    (.cond (.g 11) (.skip)
    (.exit 0)))
    (.seq (.block 1 (.region [⟨(.l 14), .mv (.g 3), none⟩, ⟨(.l 15), .mv (.g 4), none⟩, ⟨(.l 16), .mv (.g 0), none⟩, ⟨(.l 17), .mv (.g 4), none⟩, ⟨(.l 18), .elS 7 (.l 16) (.l 17), none⟩, ⟨(.l 19), .load true 7 (.l 18), none⟩, ⟨(.l 20), .call fn_laws_toData [(.l 19)], none⟩, ⟨(.l 21), .elS 7 (.l 14) (.l 15), none⟩, ⟨.no, .store 7 (.l 21) (.l 20), none⟩]))
    (.region [⟨(.l 12), .mv (.g 4), none⟩, ⟨(.l 13), .bin .add (.l 12) (.c (.int .i64 1)), none⟩, ⟨(.g 4), .mv (.l 13), none⟩]))))))
  (.seq (.region [⟨(.l 22), .mv (.g 3), none⟩, ⟨(.g 2), .mv (.l 22), none⟩])
  (.ret))))⟩
theorem ln_laws_toDataS : Linked Tryd.prog fn_laws_toDataS ac_laws_toDataS := ⟨Tryd.f62, _, Tryd.func62, rfl, by kernel_rfl, by kernel_rfl, by kernel_rfl, by kernel_rfl⟩
def ac_impl_dataOk : AF := ⟨[0, 1, 2], [.t 2],
  .seq (.region [⟨(.g 1), .box (.g 0), none⟩, ⟨(.g 2), .mv (.c (.bool false)), none⟩])
  (.seq (.region [⟨(.l 3), .faddr 0 (.g 1), none⟩, ⟨(.l 4), .load false 1 (.l 3), none⟩, ⟨(.l 5), .call fn_impl_serialOk [(.l 4)], none⟩, ⟨(.l 6), .mv (.l 5), none⟩, ⟨(.l 7), .faddr 1 (.g 1), (some ((.l 6), true))⟩, ⟨(.l 8), .load false 1 (.l 7), (some ((.l 6), true))⟩, ⟨(.l 9), .call fn_impl_serialOk [(.l 8)], (some ((.l 6), true))⟩, ⟨(.l 10), .pick (.l 6) (.l 9) (.c (.bool false)), none⟩, ⟨(.l 11), .mv (.l 10), none⟩, ⟨(.l 12), .faddr 2 (.g 1), (some ((.l 11), true))⟩, ⟨(.l 13), .load false 1 (.l 12), (some ((.l 11), true))⟩, ⟨(.l 14), .call fn_impl_serialOk [(.l 13)], (some ((.l 11), true))⟩, ⟨(.l 15), .pick (.l 11) (.l 14) (.c (.bool false)), none⟩, ⟨(.l 16), .mv (.l 15), none⟩, ⟨(.l 17), .faddr 6 (.g 1), (some ((.l 16), true))⟩, ⟨(.l 18), .load false 1 (.l 17), (some ((.l 16), true))⟩, ⟨(.l 19), .lenStr (.l 18), (some ((.l 16), true))⟩, ⟨(.l 20), .bin .geq (.l 19) (.c (.int .i64 1)), (some ((.l 16), true))⟩, ⟨(.l 21), .pick (.l 16) (.l 20) (.c (.bool false)), none⟩, ⟨(.l 22), .mv (.l 21), none⟩, ⟨(.l 23), .faddr 6 (.g 1), (some ((.l 22), true))⟩, ⟨(.l 24), .load false 1 (.l 23), (some ((.l 22), true))⟩, ⟨(.l 25), .lenStr (.l 24), (some ((.l 22), true))⟩, ⟨(.l 26), .bin .leq (.l 25) (.c (.int .i64 20)), (some ((.l 22), true))⟩, ⟨(.l 27), .pick (.l 22) (.l 26) (.c (.bool false)), none⟩, ⟨(.g 2), .mv (.l 27), none⟩])
  (.ret))⟩
theorem ln_impl_dataOk : Linked Tryd.prog fn_impl_dataOk ac_impl_dataOk := ⟨Tryd.f63, _, Tryd.func63, rfl, by kernel_rfl, by kernel_rfl, by kernel_rfl, by kernel_rfl⟩
def ac_impl_SerialAdd : AF := ⟨[0, 1, 4, 7], [.t 4],
  .seq (.region [⟨(.g 4), .mv (.c (.int .i64 0)), none⟩])
  (.seq (.seq (.region [⟨(.l 5), .mv (.g 0), none⟩, ⟨(.l 6), .call fn_impl_serialOk [(.l 5)], none⟩, ⟨(.g 7), .un .not (.l 6), none⟩])
  (.cond (.g 7) (.seq (.region [⟨(.g 4), .mv (.c (.int .i64 (-1))), none⟩])
   (.ret))
  (.skip)))
  (.seq (.region [⟨(.l 8), .mv (.g 0), none⟩, ⟨(.l 9), .mv (.g 1), none⟩, ⟨(.l 10), .bin .rem (.l 9) (.c (.int .i64 65536)), none⟩, ⟨(.l 11), .bin .add (.l 8) (.l 10), none⟩, ⟨(.l 12), .bin .rem (.l 11) (.c (.int .i64 65536)), none⟩, ⟨(.l 13), .bin .add (.l 12) (.c (.int .i64 65536)), none⟩, ⟨(.l 14), .bin .rem (.l 13) (.c (.int .i64 65536)), none⟩, ⟨(.g 4), .mv (.l 14), none⟩])
  (.ret)))⟩
theorem ln_impl_SerialAdd : Linked Tryd.prog fn_impl_SerialAdd ac_impl_SerialAdd := ⟨Tryd.f64, _, Tryd.func64, rfl, by kernel_rfl, by kernel_rfl, by kernel_rfl, by kernel_rfl⟩
def ac_impl_mayFollow : AF := ⟨[0, 1, 3, 4, 5, 7, 20, 36, 38, 39, 40, 41, 42, 58], [.t 4],
  .seq (.region [⟨(.g 3), .box (.g 1), none⟩, ⟨(.g 4), .mv (.c (.bool false)), none⟩])
  (.seq (.seq (.region [⟨(.l 8), .mv (.g 0), none⟩, ⟨(.l 9), .len (.l 8), none⟩, ⟨(.l 10), .bin .gtr (.l 9) (.c (.int .i64 0)), none⟩, ⟨(.l 11), .mv (.l 10), none⟩, ⟨(.l 12), .mv (.g 0), (some ((.l 11), true))⟩, ⟨(.l 13), .mv (.g 0), (some ((.l 11), true))⟩, ⟨(.l 14), .len (.l 13), (some ((.l 11), true))⟩, ⟨(.l 15), .bin .sub (.l 14) (.c (.int .i64 1)), (some ((.l 11), true))⟩, ⟨(.l 16), .elS 7 (.l 12) (.l 15), (some ((.l 11), true))⟩, ⟨(.l 17), .faddr 4 (.l 16), (some ((.l 11), true))⟩, ⟨(.l 18), .load false 1 (.l 17), (some ((.l 11), true))⟩, ⟨(.l 19), .un .not (.l 18), (some ((.l 11), true))⟩, ⟨(.g 20), .pick (.l 11) (.l 19) (.c (.bool false)), none⟩])
  (.cond (.g 20) (.seq (.drawn [⟨(.l 21), .faddr 3 (.g 3), none⟩, ⟨(.l 22), .load false 1 (.l 21), none⟩, ⟨(.l 23), .un .not (.l 22), none⟩, ⟨(.l 24), .mv (.l 23), none⟩, ⟨(.l 25), .load true 7 (.g 3), (some ((.l 24), true))⟩, ⟨(.l 26), .mv (.g 0), (some ((.l 24), true))⟩, ⟨(.l 27), .mv (.g 0), (some ((.l 24), true))⟩, ⟨(.l 28), .len (.l 27), (some ((.l 24), true))⟩, ⟨(.l 29), .bin .sub (.l 28) (.c (.int .i64 1)), (some ((.l 24), true))⟩, ⟨(.l 30), .elS 7 (.l 26) (.l 29), (some ((.l 24), true))⟩, ⟨(.l 31), .load true 7 (.l 30), (some ((.l 24), true))⟩] [[], [], [], [], [], [], [], [4], [], [4], [4]] [⟨(.l 32), .call fn_impl_likeParts [(.l 25), (.l 31)], (some ((.l 24), true))⟩, ⟨(.l 33), .pick (.l 24) (.l 32) (.c (.bool false)), none⟩, ⟨(.g 4), .mv (.l 33), none⟩])
   (.ret))
  (.skip)))
  (.seq (.seq (.region [⟨(.l 34), .faddr 3 (.g 3), none⟩, ⟨(.l 35), .load false 1 (.l 34), none⟩, ⟨(.g 36), .un .not (.l 35), none⟩])
  (.cond (.g 36) (.seq (.region [⟨(.g 4), .mv (.c (.bool false)), none⟩])
   (.ret))
  (.skip)))
  (.seq (.seq (.region [⟨(.l 37), .faddr 5 (.g 3), none⟩, ⟨(.g 38), .load false 1 (.l 37), none⟩])
  (.cond (.g 38) (.seq (.region [⟨(.g 4), .mv (.c (.bool true)), none⟩])
   (.ret))
  (.skip)))
  (.seq (.region [⟨(.g 5), .mv (.c (.int .i64 0)), none⟩])
  (.seq (.seq (.region [⟨(.g 39), .mv (.g 0), none⟩, ⟨(.g 40), .len (.g 39), none⟩, ⟨(.g 41), .mv (.c (.int .i64 0)), none⟩])
  (.block 0 (.loop (.seq (.region [⟨(.g 42), .bin .lss (.g 41) (.g 40), none⟩])
    (.seq (.cond (.g 42) (.skip)
    (.exit 0))
    (.seq (.block 1 (.seq (.region [⟨(.l 43), .elS 7 (.g 39) (.g 41), none⟩, ⟨(.l 44), .load true 7 (.l 43), none⟩, ⟨(.g 7), .alloc [(.int .i64 0), (.int .i64 0), (.int .i64 0), (.bool false), (.bool false), (.bool false), (.str [])], none⟩, ⟨.no, .store 7 (.g 7) (.l 44), none⟩])
     (.seq (.region [⟨(.l 45), .faddr 3 (.g 7), none⟩, ⟨(.l 46), .load false 1 (.l 45), none⟩, ⟨(.l 47), .mv (.l 46), none⟩, ⟨(.l 48), .faddr 5 (.g 7), (some ((.l 47), true))⟩, ⟨(.l 49), .load false 1 (.l 48), (some ((.l 47), true))⟩, ⟨(.l 50), .un .not (.l 49), (some ((.l 47), true))⟩, ⟨(.l 51), .pick (.l 47) (.l 50) (.c (.bool false)), none⟩, ⟨(.l 52), .mv (.l 51), none⟩, ⟨(.l 53), .faddr 1 (.g 7), (some ((.l 52), true))⟩, ⟨(.l 54), .load false 1 (.l 53), (some ((.l 52), true))⟩, ⟨(.l 55), .faddr 1 (.g 3), (some ((.l 52), true))⟩, ⟨(.l 56), .load false 1 (.l 55), (some ((.l 52), true))⟩, ⟨(.l 57), .bin .eql (.l 54) (.l 56), (some ((.l 52), true))⟩, ⟨(.g 58), .pick (.l 52) (.l 57) (.c (.bool false)), none⟩])
     (.cond (.g 58) (.region [⟨(.l 59), .mv (.g 5), none⟩, ⟨(.l 60), .bin .add (.l 59) (.c (.int .i64 1)), none⟩, ⟨(.g 5), .mv (.l 60), none⟩])
     (.skip)))))
    (.region [⟨(.l 61), .bin .add (.g 41) (.c (.int .i64 1)), none⟩, ⟨(.g 41), .mv (.l 61), none⟩])))))))
  (.seq (.region [⟨(.l 62), .faddr 2 (.g 3), none⟩, ⟨(.l 63), .load false 1 (.l 62), none⟩, ⟨(.l 64), .mv (.g 5), none⟩, ⟨(.l 65), .bin .eql (.l 63) (.l 64), none⟩, ⟨(.g 4), .mv (.l 65), none⟩])
  (.ret)))))))⟩
theorem ln_impl_mayFollow : Linked Tryd.prog fn_impl_mayFollow ac_impl_mayFollow := ⟨Tryd.f65, _, Tryd.func65, rfl, by kernel_rfl, by kernel_rfl, by kernel_rfl, by kernel_rfl⟩
def ac_laws_eqDataS : AF := ⟨[0, 1, 4, 5, 10, 14, 26], [.t 4],
  .seq (.region [⟨(.g 4), .mv (.c (.bool false)), none⟩])
  (.seq (.seq (.region [⟨(.l 6), .mv (.g 0), none⟩, ⟨(.l 7), .len (.l 6), none⟩, ⟨(.l 8), .mv (.g 1), none⟩, ⟨(.l 9), .len (.l 8), none⟩, ⟨(.g 10), .bin .neq (.l 7) (.l 9), none⟩])
  (.cond (.g 10) (.seq (.region [⟨(.g 4), .mv (.c (.bool false)), none⟩])
   (.ret))
  (.skip)))
  (.seq (.seq (.region [⟨(.g 5), .mv (.c (.int .i64 0)), none⟩])
  (.block 0 (.loop (.seq (.seq (.region [⟨(.l 11), .mv (.g 5), none⟩, ⟨(.l 12), .mv (.g 0), none⟩, ⟨(.l 13), .len (.l 12), none⟩, ⟨(.g 14), .bin .lss (.l 11) (.l 13), none⟩])
    (.cond (.g 14) (.skip)
    (.exit 0)))
    (.seq (.block 1 (.seq (.drawn [⟨(.l 17), .mv (.g 0), none⟩, ⟨(.l 18), .mv (.g 5), none⟩, ⟨(.l 19), .elS 7 (.l 17) (.l 18), none⟩, ⟨(.l 20), .load true 7 (.l 19), none⟩, ⟨(.l 21), .mv (.g 1), none⟩, ⟨(.l 22), .mv (.g 5), none⟩, ⟨(.l 23), .elS 7 (.l 21) (.l 22), none⟩, ⟨(.l 24), .load true 7 (.l 23), none⟩] [[], [], [], [], [], [], [3, 2], [3, 2]] [⟨(.l 25), .call fn_laws_eqData [(.l 20), (.l 24)], none⟩, ⟨(.g 26), .un .not (.l 25), none⟩])
     (.cond (.g 26) (.seq (.region [⟨(.g 4), .mv (.c (.bool false)), none⟩])
      (.ret))
     (.skip))))
    (.region [⟨(.l 15), .mv (.g 5), none⟩, ⟨(.l 16), .bin .add (.l 15) (.c (.int .i64 1)), none⟩, ⟨(.g 5), .mv (.l 16), none⟩]))))))
  (.seq (.region [⟨(.g 4), .mv (.c (.bool true)), none⟩])
  (.ret))))⟩
theorem ln_laws_eqDataS : Linked Tryd.prog fn_laws_eqDataS ac_laws_eqDataS := ⟨Tryd.f70, _, Tryd.func70, rfl, by kernel_rfl, by kernel_rfl, by kernel_rfl, by kernel_rfl⟩
def ac_laws_szData : AF := ⟨[0, 1, 2, 4, 11], [.t 4],
  .seq (.region [⟨(.g 2), .box (.g 0), none⟩, ⟨(.g 4), .mv (.c (.int .i64 0)), none⟩])
  (.seq (.region [⟨(.l 5), .mv (.g 1), none⟩, ⟨(.l 6), .faddr 6 (.g 2), none⟩, ⟨(.l 7), .load false 1 (.l 6), none⟩, ⟨(.l 8), .lenStr (.l 7), none⟩, ⟨(.l 9), .bin .sub (.l 5) (.l 8), none⟩, ⟨(.g 1), .mv (.l 9), none⟩])
  (.seq (.seq (.region [⟨(.l 10), .mv (.g 1), none⟩, ⟨(.g 11), .bin .lss (.l 10) (.c (.int .i64 0)), none⟩])
  (.cond (.g 11) (.seq (.region [⟨(.g 4), .mv (.c (.int .i64 (-1))), none⟩])
   (.ret))
  (.skip)))
  (.seq (.region [⟨(.l 12), .mv (.g 1), none⟩, ⟨(.g 4), .mv (.l 12), none⟩])
  (.ret))))⟩
theorem ln_laws_szData : Linked Tryd.prog fn_laws_szData ac_laws_szData := ⟨Tryd.f71, _, Tryd.func71, rfl, by kernel_rfl, by kernel_rfl, by kernel_rfl, by kernel_rfl⟩
def ac_spec_l22Same : AF := ⟨[0, 1, 2, 3, 4], [.t 4],
  .seq (.region [⟨(.g 2), .box (.g 0), none⟩, ⟨(.g 3), .box (.g 1), none⟩, ⟨(.g 4), .mv (.c (.bool false)), none⟩])
  (.seq (.region [⟨(.l 5), .faddr 1 (.g 2), none⟩, ⟨(.l 6), .load false 1 (.l 5), none⟩, ⟨(.l 7), .faddr 1 (.g 3), none⟩, ⟨(.l 8), .load false 1 (.l 7), none⟩, ⟨(.l 9), .bin .eql (.l 6) (.l 8), none⟩, ⟨(.l 10), .mv (.l 9), none⟩, ⟨(.l 11), .faddr 2 (.g 2), (some ((.l 10), true))⟩, ⟨(.l 12), .load false 1 (.l 11), (some ((.l 10), true))⟩, ⟨(.l 13), .faddr 2 (.g 3), (some ((.l 10), true))⟩, ⟨(.l 14), .load false 1 (.l 13), (some ((.l 10), true))⟩, ⟨(.l 15), .bin .eql (.l 12) (.l 14), (some ((.l 10), true))⟩, ⟨(.l 16), .pick (.l 10) (.l 15) (.c (.bool false)), none⟩, ⟨(.l 17), .mv (.l 16), none⟩, ⟨(.l 18), .faddr 5 (.g 2), (some ((.l 17), true))⟩, ⟨(.l 19), .load false 1 (.l 18), (some ((.l 17), true))⟩, ⟨(.l 20), .faddr 5 (.g 3), (some ((.l 17), true))⟩, ⟨(.l 21), .load false 1 (.l 20), (some ((.l 17), true))⟩, ⟨(.l 22), .beq false (.l 19) (.l 21), (some ((.l 17), true))⟩, ⟨(.l 23), .pick (.l 17) (.l 22) (.c (.bool false)), none⟩, ⟨(.g 4), .mv (.l 23), none⟩])
  (.ret))⟩
theorem ln_spec_l22Same : Linked Tryd.prog fn_spec_l22Same ac_spec_l22Same := ⟨Tryd.f72, _, Tryd.func72, rfl, by kernel_rfl, by kernel_rfl, by kernel_rfl, by kernel_rfl⟩
def ac_spec_l31Ssn : AF := ⟨[0, 1, 4, 5, 6, 10, 34], [.t 4],
  .seq (.region [⟨(.g 4), .mv (.c (.int .i64 0)), none⟩])
  (.seq (.region [⟨(.g 5), .mv (.c (.int .i64 0)), none⟩])
  (.seq (.seq (.region [⟨(.g 6), .mv (.c (.int .i64 0)), none⟩])
  (.block 0 (.loop (.seq (.seq (.region [⟨(.l 7), .mv (.g 6), none⟩, ⟨(.l 8), .mv (.g 0), none⟩, ⟨(.l 9), .len (.l 8), none⟩, ⟨(.g 10), .bin .lss (.l 7) (.l 9), none⟩])
    (.cond (.g 10) (.skip)
    (.exit 0)))
    (.seq (.block 1 (.seq (.region [⟨(.l 13), .mv (.g 0), none⟩, ⟨(.l 14), .mv (.g 6), none⟩, ⟨(.l 15), .elS 7 (.l 13) (.l 14), none⟩, ⟨(.l 16), .faddr 3 (.l 15), none⟩, ⟨(.l 17), .load false 1 (.l 16), none⟩, ⟨(.l 18), .mv (.l 17), none⟩, ⟨(.l 19), .mv (.g 0), (some ((.l 18), true))⟩, ⟨(.l 20), .mv (.g 6), (some ((.l 18), true))⟩, ⟨(.l 21), .elS 7 (.l 19) (.l 20), (some ((.l 18), true))⟩, ⟨(.l 22), .faddr 5 (.l 21), (some ((.l 18), true))⟩, ⟨(.l 23), .load false 1 (.l 22), (some ((.l 18), true))⟩, ⟨(.l 24), .un .not (.l 23), (some ((.l 18), true))⟩, ⟨(.l 25), .pick (.l 18) (.l 24) (.c (.bool false)), none⟩, ⟨(.l 26), .mv (.l 25), none⟩, ⟨(.l 27), .mv (.g 0), (some ((.l 26), true))⟩, ⟨(.l 28), .mv (.g 6), (some ((.l 26), true))⟩, ⟨(.l 29), .elS 7 (.l 27) (.l 28), (some ((.l 26), true))⟩, ⟨(.l 30), .faddr 1 (.l 29), (some ((.l 26), true))⟩, ⟨(.l 31), .load false 1 (.l 30), (some ((.l 26), true))⟩, ⟨(.l 32), .mv (.g 1), (some ((.l 26), true))⟩, ⟨(.l 33), .bin .eql (.l 31) (.l 32), (some ((.l 26), true))⟩, ⟨(.g 34), .pick (.l 26) (.l 33) (.c (.bool false)), none⟩])
     (.cond (.g 34) (.region [⟨(.l 35), .mv (.g 5), none⟩, ⟨(.l 36), .bin .add (.l 35) (.c (.int .i64 1)), none⟩, ⟨(.g 5), .mv (.l 36), none⟩])
     (.skip))))
    (.region [⟨(.l 11), .mv (.g 6), none⟩, ⟨(.l 12), .bin .add (.l 11) (.c (.int .i64 1)), none⟩, ⟨(.g 6), .mv (.l 12), none⟩]))))))
  (.seq (.region [⟨(.l 37), .mv (.g 5), none⟩, ⟨(.g 4), .mv (.l 37), none⟩])
  (.ret))))⟩
theorem ln_spec_l31Ssn : Linked Tryd.prog fn_spec_l31Ssn ac_spec_l31Ssn := ⟨Tryd.f73, _, Tryd.func73, rfl, by kernel_rfl, by kernel_rfl, by kernel_rfl, by kernel_rfl⟩
def ac_laws_toData : AF := ⟨[0, 1, 2, 3], [.c 2 true 7],
  .seq (.region [⟨(.g 1), .box (.g 0), none⟩, ⟨(.g 2), .alloc [(.int .i64 0), (.int .i64 0), (.int .i64 0), (.bool false), (.bool false), (.bool false), (.str [])], none⟩])
  (.seq (.region [⟨(.g 3), .alloc [(.int .i64 0), (.int .i64 0), (.int .i64 0), (.bool false), (.bool false), (.bool false), (.str [])], none⟩])
  (.seq (.region [⟨(.l 4), .faddr 0 (.g 1), none⟩, ⟨(.l 5), .load false 1 (.l 4), none⟩, ⟨(.l 6), .faddr 0 (.g 3), none⟩, ⟨.no, .store 1 (.l 6) (.l 5), none⟩])
  (.seq (.region [⟨(.l 7), .faddr 1 (.g 1), none⟩, ⟨(.l 8), .load false 1 (.l 7), none⟩, ⟨(.l 9), .faddr 1 (.g 3), none⟩, ⟨.no, .store 1 (.l 9) (.l 8), none⟩])
  (.seq (.region [⟨(.l 10), .faddr 2 (.g 1), none⟩, ⟨(.l 11), .load false 1 (.l 10), none⟩, ⟨(.l 12), .faddr 2 (.g 3), none⟩, ⟨.no, .store 1 (.l 12) (.l 11), none⟩])
  (.seq (.region [⟨(.l 13), .faddr 3 (.g 1), none⟩, ⟨(.l 14), .load false 1 (.l 13), none⟩, ⟨(.l 15), .faddr 3 (.g 3), none⟩, ⟨.no, .store 1 (.l 15) (.l 14), none⟩])
  (.seq (.region [⟨(.l 16), .faddr 4 (.g 1), none⟩, ⟨(.l 17), .load false 1 (.l 16), none⟩, ⟨(.l 18), .faddr 4 (.g 3), none⟩, ⟨.no, .store 1 (.l 18) (.l 17), none⟩])
  (.seq (.region [⟨(.l 19), .faddr 5 (.g 1), none⟩, ⟨(.l 20), .load false 1 (.l 19), none⟩, ⟨(.l 21), .faddr 5 (.g 3), none⟩, ⟨.no, .store 1 (.l 21) (.l 20), none⟩])
  (.seq (.region [⟨(.l 22), .faddr 6 (.g 1), none⟩, ⟨(.l 23), .load false 1 (.l 22), none⟩, ⟨(.l 24), .faddr 6 (.g 3), none⟩, ⟨.no, .store 1 (.l 24) (.l 23), none⟩])
  (.seq (.region [⟨(.l 25), .load true 7 (.g 3), none⟩, ⟨.no, .store 7 (.g 2) (.l 25), none⟩])
  (.ret))))))))))⟩
theorem ln_laws_toData : Linked Tryd.prog fn_laws_toData ac_laws_toData := ⟨Tryd.f74, _, Tryd.func74, rfl, by kernel_rfl, by kernel_rfl, by kernel_rfl, by kernel_rfl⟩
def ac_impl_likeParts : AF := ⟨[0, 1, 2, 3, 4], [.t 4],
  .seq (.region [⟨(.g 2), .box (.g 0), none⟩, ⟨(.g 3), .box (.g 1), none⟩, ⟨(.g 4), .mv (.c (.bool false)), none⟩])
  (.seq (.region [⟨(.l 5), .faddr 1 (.g 2), none⟩, ⟨(.l 6), .load false 1 (.l 5), none⟩, ⟨(.l 7), .faddr 1 (.g 3), none⟩, ⟨(.l 8), .load false 1 (.l 7), none⟩, ⟨(.l 9), .bin .eql (.l 6) (.l 8), none⟩, ⟨(.l 10), .mv (.l 9), none⟩, ⟨(.l 11), .faddr 2 (.g 2), (some ((.l 10), true))⟩, ⟨(.l 12), .load false 1 (.l 11), (some ((.l 10), true))⟩, ⟨(.l 13), .faddr 2 (.g 3), (some ((.l 10), true))⟩, ⟨(.l 14), .load false 1 (.l 13), (some ((.l 10), true))⟩, ⟨(.l 15), .bin .eql (.l 12) (.l 14), (some ((.l 10), true))⟩, ⟨(.l 16), .pick (.l 10) (.l 15) (.c (.bool false)), none⟩, ⟨(.l 17), .mv (.l 16), none⟩, ⟨(.l 18), .faddr 5 (.g 2), (some ((.l 17), true))⟩, ⟨(.l 19), .load false 1 (.l 18), (some ((.l 17), true))⟩, ⟨(.l 20), .faddr 5 (.g 3), (some ((.l 17), true))⟩, ⟨(.l 21), .load false 1 (.l 20), (some ((.l 17), true))⟩, ⟨(.l 22), .beq false (.l 19) (.l 21), (some ((.l 17), true))⟩, ⟨(.l 23), .pick (.l 17) (.l 22) (.c (.bool false)), none⟩, ⟨(.g 4), .mv (.l 23), none⟩])
  (.ret))⟩
theorem ln_impl_likeParts : Linked Tryd.prog fn_impl_likeParts ac_impl_likeParts := ⟨Tryd.f75, _, Tryd.func75, rfl, by kernel_rfl, by kernel_rfl, by kernel_rfl, by kernel_rfl⟩
def ac_laws_eqData : AF := ⟨[0, 1, 2, 3, 4, 9, 14, 19, 24, 29, 34, 39], [.t 4],
  .seq (.region [⟨(.g 2), .box (.g 0), none⟩, ⟨(.g 3), .box (.g 1), none⟩, ⟨(.g 4), .mv (.c (.bool false)), none⟩])
  (.seq (.seq (.region [⟨(.l 5), .faddr 0 (.g 2), none⟩, ⟨(.l 6), .load false 1 (.l 5), none⟩, ⟨(.l 7), .faddr 0 (.g 3), none⟩, ⟨(.l 8), .load false 1 (.l 7), none⟩, ⟨(.g 9), .bin .neq (.l 6) (.l 8), none⟩])
  (.cond (.g 9) (.seq (.region [⟨(.g 4), .mv (.c (.bool false)), none⟩])
   (.ret))
  (.skip)))
  (.seq (.seq (.region [⟨(.l 10), .faddr 1 (.g 2), none⟩, ⟨(.l 11), .load false 1 (.l 10), none⟩, ⟨(.l 12), .faddr 1 (.g 3), none⟩, ⟨(.l 13), .load false 1 (.l 12), none⟩, ⟨(.g 14), .bin .neq (.l 11) (.l 13), none⟩])
  (.cond (.g 14) (.seq (.region [⟨(.g 4), .mv (.c (.bool false)), none⟩])
   (.ret))
  (.skip)))
  (.seq (.seq (.region [⟨(.l 15), .faddr 2 (.g 2), none⟩, ⟨(.l 16), .load false 1 (.l 15), none⟩, ⟨(.l 17), .faddr 2 (.g 3), none⟩, ⟨(.l 18), .load false 1 (.l 17), none⟩, ⟨(.g 19), .bin .neq (.l 16) (.l 18), none⟩])
  (.cond (.g 19) (.seq (.region [⟨(.g 4), .mv (.c (.bool false)), none⟩])
   (.ret))
  (.skip)))
  (.seq (.seq (.region [⟨(.l 20), .faddr 3 (.g 2), none⟩, ⟨(.l 21), .load false 1 (.l 20), none⟩, ⟨(.l 22), .faddr 3 (.g 3), none⟩, ⟨(.l 23), .load false 1 (.l 22), none⟩, ⟨(.g 24), .beq true (.l 21) (.l 23), none⟩])
  (.cond (.g 24) (.seq (.region [⟨(.g 4), .mv (.c (.bool false)), none⟩])
   (.ret))
  (.skip)))
  (.seq (.seq (.region [⟨(.l 25), .faddr 4 (.g 2), none⟩, ⟨(.l 26), .load false 1 (.l 25), none⟩, ⟨(.l 27), .faddr 4 (.g 3), none⟩, ⟨(.l 28), .load false 1 (.l 27), none⟩, ⟨(.g 29), .beq true (.l 26) (.l 28), none⟩])
  (.cond (.g 29) (.seq (.region [⟨(.g 4), .mv (.c (.bool false)), none⟩])
   (.ret))
  (.skip)))
  (.seq (.seq (.region [⟨(.l 30), .faddr 5 (.g 2), none⟩, ⟨(.l 31), .load false 1 (.l 30), none⟩, ⟨(.l 32), .faddr 5 (.g 3), none⟩, ⟨(.l 33), .load false 1 (.l 32), none⟩, ⟨(.g 34), .beq true (.l 31) (.l 33), none⟩])
  (.cond (.g 34) (.seq (.region [⟨(.g 4), .mv (.c (.bool false)), none⟩])
   (.ret))
  (.skip)))
  (.seq (.seq (.region [⟨(.l 35), .faddr 6 (.g 2), none⟩, ⟨(.l 36), .load false 1 (.l 35), none⟩, ⟨(.l 37), .faddr 6 (.g 3), none⟩, ⟨(.l 38), .load false 1 (.l 37), none⟩, ⟨(.g 39), .bin .neq (.l 36) (.l 38), none⟩])
  (.cond (.g 39) (.seq (.region [⟨(.g 4), .mv (.c (.bool false)), none⟩])
   (.ret))
  (.skip)))
  (.seq (.region [⟨(.g 4), .mv (.c (.bool true)), none⟩])
  (.ret)))))))))⟩
theorem ln_laws_eqData : Linked Tryd.prog fn_laws_eqData ac_laws_eqData := ⟨Tryd.f81, _, Tryd.func81, rfl, by kernel_rfl, by kernel_rfl, by kernel_rfl, by kernel_rfl⟩
end Go.Proofs.YtnhhcfbigjpfeaaDoor
