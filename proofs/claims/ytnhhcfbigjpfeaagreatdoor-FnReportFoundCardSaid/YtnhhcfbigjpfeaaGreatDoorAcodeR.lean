/-
  The abstract code of the program's functions, continued: written by a program, and compared by the kernel.
-/
import Derived.Test.YtnhhcfbigjpfeaaGreatDoorAcodeP
namespace Go.Proofs.YtnhhcfbigjpfeaaGreatDoor
set_option maxRecDepth 100000
set_option linter.all false
def ac_spec_l32Step : AF := ⟨[0, 1, 2, 4, 5, 6, 7, 8, 10, 11, 12, 13, 26, 65, 74, 89, 111], [.c 4 true 3],
  .seq (.region [⟨(.g 2), .box (.g 0), none⟩, ⟨(.g 4), .alloc [(.int .i64 0), .nils, .nils], none⟩])
  (.seq (.region [⟨(.l 14), .load true 3 (.g 2), none⟩, ⟨(.l 15), .call fn_spec_l32Copy [(.l 14)], none⟩, ⟨(.g 5), .alloc [(.int .i64 0), .nils, .nils], none⟩, ⟨.no, .store 3 (.g 5) (.l 15), none⟩])
  (.seq (.region [⟨(.l 16), .faddr 0 (.g 2), none⟩, ⟨(.l 17), .load false 1 (.l 16), none⟩, ⟨(.l 18), .bin .add (.l 17) (.c (.int .i64 1)), none⟩, ⟨(.l 19), .faddr 0 (.g 5), none⟩, ⟨.no, .store 1 (.l 19) (.l 18), none⟩])
  (.seq (.region [⟨(.l 21), .mv (.g 1), none⟩, ⟨(.l 22), .call fn_spec_PacketGet [(.l 21)], none⟩, ⟨(.l 20), .mv (.l 22), none⟩, ⟨(.l 23), .extract (.l 20) 0, none⟩, ⟨(.l 24), .extract (.l 20) 1, none⟩, ⟨(.g 6), .alloc [(.int .i64 0), (.int .i64 0), (.int .i64 0), .nils], none⟩, ⟨.no, .store 4 (.g 6) (.l 23), none⟩, ⟨(.g 7), .mv (.l 24), none⟩])
  (.seq (.seq (.region [⟨(.l 25), .mv (.g 7), none⟩, ⟨(.g 26), .bin .neq (.l 25) (.c (.int .i64 0)), none⟩])
  (.cond (.g 26) (.seq (.region [⟨(.l 27), .load true 3 (.g 5), none⟩, ⟨(.l 28), .mv (.g 7), none⟩, ⟨(.l 29), .bin .add (.c (.int .i64 101)) (.l 28), none⟩, ⟨(.l 30), .bin .sub (.l 29) (.c (.int .i64 1)), none⟩, ⟨(.l 31), .call fn_spec_l32Note [(.l 27), (.l 30)], none⟩, ⟨.no, .store 3 (.g 4) (.l 31), none⟩])
   (.ret))
  (.skip)))
  (.seq (.region [⟨(.l 32), .load true 3 (.g 5), none⟩, ⟨(.l 33), .faddr 0 (.g 6), none⟩, ⟨(.l 34), .load false 1 (.l 33), none⟩, ⟨(.l 35), .faddr 1 (.g 6), none⟩, ⟨(.l 36), .load false 1 (.l 35), none⟩, ⟨(.l 37), .call fn_spec_l32Find [(.l 32), (.l 34), (.l 36)], none⟩, ⟨(.g 8), .mv (.l 37), none⟩])
  (.seq (.seq (.region [⟨(.l 38), .mv (.g 8), none⟩, ⟨(.l 39), .bin .geq (.l 38) (.c (.int .i64 0)), none⟩, ⟨(.l 40), .mv (.l 39), none⟩, ⟨(.l 41), .faddr 1 (.g 5), (some ((.l 40), true))⟩, ⟨(.l 42), .load false 1 (.l 41), (some ((.l 40), true))⟩, ⟨(.l 43), .mv (.g 8), (some ((.l 40), true))⟩, ⟨(.l 44), .elS 14 (.l 42) (.l 43), (some ((.l 40), true))⟩, ⟨(.l 45), .faddr 2 (.l 44), (some ((.l 40), true))⟩, ⟨(.l 46), .load false 1 (.l 45), (some ((.l 40), true))⟩, ⟨(.l 47), .bin .eql (.l 46) (.c (.int .i64 7)), (some ((.l 40), true))⟩, ⟨(.l 48), .pick (.l 40) (.l 47) (.c (.bool false)), none⟩, ⟨(.l 49), .mv (.l 48), none⟩, ⟨(.l 50), .faddr 3 (.g 6), (some ((.l 49), true))⟩, ⟨(.l 51), .load false 1 (.l 50), (some ((.l 49), true))⟩, ⟨(.l 52), .elS 3 (.l 51) (.c (.int .i64 0)), (some ((.l 49), true))⟩, ⟨(.l 53), .faddr 0 (.l 52), (some ((.l 49), true))⟩, ⟨(.l 54), .load false 1 (.l 53), (some ((.l 49), true))⟩, ⟨(.l 55), .bin .eql (.l 54) (.c (.int .i64 1)), (some ((.l 49), true))⟩, ⟨(.l 56), .pick (.l 49) (.l 55) (.c (.bool false)), none⟩, ⟨(.l 57), .mv (.l 56), none⟩, ⟨(.l 58), .load true 4 (.g 6), (some ((.l 57), true))⟩, ⟨(.l 59), .call fn_spec_PacketAlone [(.l 58)], (some ((.l 57), true))⟩, ⟨(.l 60), .pick (.l 57) (.l 59) (.c (.bool false)), none⟩, ⟨(.l 61), .mv (.l 60), none⟩, ⟨(.l 62), .faddr 2 (.g 6), (some ((.l 61), true))⟩, ⟨(.l 63), .load false 1 (.l 62), (some ((.l 61), true))⟩, ⟨(.l 64), .bin .eql (.l 63) (.c (.int .i64 0)), (some ((.l 61), true))⟩, ⟨(.g 65), .pick (.l 61) (.l 64) (.c (.bool false)), none⟩])
  (.cond (.g 65) (.seq (.region [⟨(.l 67), .faddr 3 (.g 6), none⟩, ⟨(.l 68), .load false 1 (.l 67), none⟩, ⟨(.l 69), .elS 3 (.l 68) (.c (.int .i64 0)), none⟩, ⟨(.l 70), .load true 3 (.l 69), none⟩, ⟨(.l 71), .call fn_spec_InitGet [(.l 70)], none⟩, ⟨(.l 66), .mv (.l 71), none⟩, ⟨(.l 72), .extract (.l 66) 0, none⟩, ⟨(.l 73), .extract (.l 66) 1, none⟩, ⟨(.l 9), .alloc [(.int .i64 0), (.int .i64 0), (.int .i64 0), (.int .i64 0)], none⟩, ⟨.no, .store 4 (.l 9) (.l 72), none⟩, ⟨(.g 10), .mv (.l 73), none⟩])
   (.seq (.region [⟨(.g 74), .mv (.g 10), none⟩])
   (.cond (.g 74) (.seq (.drawn [⟨(.l 75), .lits 14 [], none⟩, ⟨(.l 76), .faddr 1 (.g 5), none⟩, ⟨(.l 77), .load false 1 (.l 76), none⟩, ⟨(.l 78), .mv (.g 8), none⟩, ⟨(.l 79), .cutSl 14 (.l 77) none (some (.l 78)), none⟩, ⟨(.l 80), .append 14 144 (.l 75) (.l 79), none⟩, ⟨(.l 81), .faddr 1 (.g 5), none⟩, ⟨(.l 82), .load false 1 (.l 81), none⟩, ⟨(.l 83), .mv (.g 8), none⟩, ⟨(.l 84), .bin .add (.l 83) (.c (.int .i64 1)), none⟩, ⟨(.l 85), .cutSl 14 (.l 82) (some (.l 84)) none, none⟩] [[], [], [0], [], [0], [], [], [5, 4, 2, 0], [], [], [5, 4, 2, 0]] [⟨(.l 86), .append 14 144 (.l 80) (.l 85), none⟩, ⟨(.l 87), .faddr 1 (.g 5), none⟩, ⟨.no, .store 1 (.l 87) (.l 86), none⟩])
    (.region [⟨(.g 8), .mv (.c (.int .i64 (-1))), none⟩]))
   (.skip))))
  (.skip)))
  (.seq (.seq (.region [⟨(.l 88), .mv (.g 8), none⟩, ⟨(.g 89), .bin .lss (.l 88) (.c (.int .i64 0)), none⟩])
  (.cond (.g 89) (.seq (.region [⟨(.l 90), .load true 3 (.g 5), none⟩, ⟨(.l 91), .load true 4 (.g 6), none⟩, ⟨(.l 92), .call fn_spec_l32Begin [(.l 90), (.l 91)], none⟩, ⟨.no, .store 3 (.g 4) (.l 92), none⟩])
   (.ret))
  (.skip)))
  (.seq (.drawn [⟨(.l 94), .faddr 1 (.g 5), none⟩, ⟨(.l 95), .load false 1 (.l 94), none⟩, ⟨(.l 96), .mv (.g 8), none⟩, ⟨(.l 97), .elS 14 (.l 95) (.l 96), none⟩, ⟨(.l 98), .load true 14 (.l 97), none⟩, ⟨(.l 99), .load true 4 (.g 6), none⟩, ⟨(.l 100), .call fn_spec_AssocStep [(.l 98), (.l 99)], none⟩, ⟨(.l 93), .mv (.l 100), none⟩, ⟨(.l 101), .extract (.l 93) 0, none⟩, ⟨(.l 102), .extract (.l 93) 1, none⟩, ⟨(.g 11), .alloc [(.int .i64 0), (.int .i64 0), (.int .i64 0), (.bool false), (.int .i64 0), (.int .i64 0), (.int .i64 0), .nils, (.int .i64 0), (.int .i64 0), (.int .i64 0), (.int .i64 0), .nils, (.int .i64 0)], none⟩, ⟨.no, .store 14 (.g 11) (.l 101), none⟩] [[], [], [], [], [], [4, 3, 1], [], [], [], [], [6, 5, 4, 3, 1], []] [⟨(.g 12), .mv (.l 102), none⟩])
  (.seq (.region [⟨(.l 103), .faddr 1 (.g 5), none⟩, ⟨(.l 104), .load false 1 (.l 103), none⟩, ⟨(.l 105), .mv (.g 8), none⟩, ⟨(.l 106), .load true 14 (.g 11), none⟩, ⟨(.l 107), .elS 14 (.l 104) (.l 105), none⟩, ⟨.no, .store 14 (.l 107) (.l 106), none⟩])
  (.seq (.seq (.region [⟨(.g 13), .mv (.c (.int .i64 0)), none⟩])
  (.block 0 (.loop (.seq (.seq (.region [⟨(.l 108), .mv (.g 13), none⟩, ⟨(.l 109), .mv (.g 12), none⟩, ⟨(.l 110), .len (.l 109), none⟩, ⟨(.g 111), .bin .lss (.l 108) (.l 110), none⟩])
    (.cond (.g 111) (.skip)
    (.exit 0)))
    (.seq (.block 1 (.drawn [⟨(.l 114), .load true 3 (.g 5), none⟩, ⟨(.l 115), .mv (.g 12), none⟩, ⟨(.l 116), .mv (.g 13), none⟩, ⟨(.l 117), .elS 1 (.l 115) (.l 116), none⟩, ⟨(.l 118), .load false 1 (.l 117), none⟩] [[], [], [], [0], [0]] [⟨(.l 119), .call fn_spec_l32Note [(.l 114), (.l 118)], none⟩, ⟨.no, .store 3 (.g 5) (.l 119), none⟩]))
    (.region [⟨(.l 112), .mv (.g 13), none⟩, ⟨(.l 113), .bin .add (.l 112) (.c (.int .i64 1)), none⟩, ⟨(.g 13), .mv (.l 113), none⟩]))))))
  (.seq (.region [⟨(.l 120), .load true 3 (.g 5), none⟩, ⟨.no, .store 3 (.g 4) (.l 120), none⟩])
  (.ret))))))))))))⟩
theorem ln_spec_l32Step : Linked Tryz.prog fn_spec_l32Step ac_spec_l32Step := ⟨Tryz.f70, _, Tryz.func70, rfl, by kernel_rfl, by kernel_rfl, by kernel_rfl, by kernel_rfl⟩
def ac_spec_MonitorRun : AF := ⟨[0, 2, 3, 4, 15], [.c 2 true 3],
  .seq (.region [⟨(.g 2), .alloc [(.int .i64 0), .nils, .nils], none⟩])
  (.seq (.region [⟨(.l 5), .lits 14 [], none⟩, ⟨(.l 6), .lits 2 [], none⟩, ⟨(.l 7), .build [(.int .i64 0), .nils, .nils] [(1, 1, (.l 5)), (2, 1, (.l 6))], none⟩, ⟨(.g 3), .alloc [(.int .i64 0), .nils, .nils], none⟩, ⟨.no, .store 3 (.g 3) (.l 7), none⟩])
  (.seq (.seq (.region [⟨(.g 4), .mv (.c (.int .i64 0)), none⟩])
  (.block 0 (.loop (.seq (.seq (.region [⟨(.l 8), .mv (.g 4), none⟩, ⟨(.l 9), .mv (.g 0), none⟩, ⟨(.l 10), .len (.l 9), none⟩, ⟨(.l 11), .bin .lss (.l 8) (.l 10), none⟩, ⟨(.l 12), .mv (.l 11), none⟩, ⟨(.l 13), .mv (.g 0), (some ((.l 12), true))⟩, ⟨(.l 14), .call fn_spec_CaptureValid [(.l 13)], (some ((.l 12), true))⟩, ⟨(.g 15), .pick (.l 12) (.l 14) (.c (.bool false)), none⟩])
    (.cond (.g 15) (.skip)
    (.exit 0)))
    (.seq (.block 1 (.drawn [⟨(.l 18), .load true 3 (.g 3), none⟩, ⟨(.l 19), .mv (.g 0), none⟩, ⟨(.l 20), .mv (.g 4), none⟩, ⟨(.l 21), .elS 2 (.l 19) (.l 20), none⟩, ⟨(.l 22), .faddr 1 (.l 21), none⟩, ⟨(.l 23), .load false 1 (.l 22), none⟩] [[], [], [], [0], [], [0]] [⟨(.l 24), .call fn_spec_l32Step [(.l 18), (.l 23)], none⟩, ⟨.no, .store 3 (.g 3) (.l 24), none⟩]))
    (.region [⟨(.l 16), .mv (.g 4), none⟩, ⟨(.l 17), .bin .add (.l 16) (.c (.int .i64 1)), none⟩, ⟨(.g 4), .mv (.l 17), none⟩]))))))
  (.seq (.region [⟨(.l 25), .load true 3 (.g 3), none⟩, ⟨.no, .store 3 (.g 2) (.l 25), none⟩])
  (.ret))))⟩
theorem ln_spec_MonitorRun : Linked Tryz.prog fn_spec_MonitorRun ac_spec_MonitorRun := ⟨Tryz.f71, _, Tryz.func71, rfl, by kernel_rfl, by kernel_rfl, by kernel_rfl, by kernel_rfl⟩
def ac_spec_l91Part : AF := ⟨[0, 2, 3, 27, 28, 35, 38, 43, 48], [.c 2 true 7],
  .seq (.region [⟨(.g 2), .alloc [(.int .i64 0), (.int .i64 0), (.int .i64 0), (.bool false), (.bool false), (.bool false), (.str [])], none⟩])
  (.seq (.region [⟨(.l 4), .mv (.g 0), none⟩, ⟨(.l 5), .call fn_spec_l91Good [(.l 4)], none⟩, ⟨(.l 6), .mv (.g 0), none⟩, ⟨(.l 7), .call fn_spec_l6Rd_pick [(.l 6), (.c (.int .i64 3))], none⟩, ⟨(.l 8), .mv (.g 0), none⟩, ⟨(.l 9), .call fn_spec_l6Rd_pick [(.l 8), (.c (.int .i64 4))], none⟩, ⟨(.l 10), .mv (.g 0), none⟩, ⟨(.l 11), .call fn_spec_l91Bytes [(.l 10), (.c (.int .i64 6))], none⟩, ⟨(.l 12), .bin .add (.l 11) (.c (.str [116])), none⟩, ⟨(.l 13), .build [(.int .i64 0), (.int .i64 0), (.int .i64 0), (.bool false), (.bool false), (.bool false), (.str [])] [(0, 1, (.l 5)), (1, 1, (.l 7)), (2, 1, (.l 9)), (6, 1, (.l 12))], none⟩, ⟨(.g 3), .alloc [(.int .i64 0), (.int .i64 0), (.int .i64 0), (.bool false), (.bool false), (.bool false), (.str [])], none⟩, ⟨.no, .store 7 (.g 3) (.l 13), none⟩])
  (.seq (.region [⟨(.l 14), .mv (.g 0), none⟩, ⟨(.l 15), .call fn_spec_l6Rd_pick [(.l 14), (.c (.int .i64 2))], none⟩, ⟨(.l 16), .bin .eql (.l 15) (.c (.int .i64 0)), none⟩, ⟨(.l 17), .faddr 3 (.g 3), none⟩, ⟨.no, .store 1 (.l 17) (.l 16), none⟩])
  (.seq (.region [⟨(.l 18), .mv (.g 0), none⟩, ⟨(.l 19), .call fn_spec_l6Rd_pick [(.l 18), (.c (.int .i64 2))], none⟩, ⟨(.l 20), .bin .eql (.l 19) (.c (.int .i64 0)), none⟩, ⟨(.l 21), .faddr 4 (.g 3), none⟩, ⟨.no, .store 1 (.l 21) (.l 20), none⟩])
  (.seq (.region [⟨(.l 22), .mv (.g 0), none⟩, ⟨(.l 23), .call fn_spec_l6Rd_pick [(.l 22), (.c (.int .i64 4))], none⟩, ⟨(.l 24), .bin .eql (.l 23) (.c (.int .i64 0)), none⟩, ⟨(.l 25), .faddr 5 (.g 3), none⟩, ⟨.no, .store 1 (.l 25) (.l 24), none⟩])
  (.seq (.seq (.region [⟨(.l 26), .mv (.g 0), none⟩, ⟨(.g 27), .call fn_spec_l6Rd_pick [(.l 26), (.c (.int .i64 20))], none⟩])
  (.block 0 (.seq (.region [⟨(.l 29), .bin .eql (.g 27) (.c (.int .i64 0)), none⟩, ⟨(.g 28), .mv (.l 29), none⟩])
   (.cond (.g 28) (.region [⟨(.l 30), .mv (.g 0), none⟩, ⟨(.l 31), .call fn_spec_l6Rd_pick [(.l 30), (.c (.int .i64 3))], none⟩, ⟨(.l 32), .bin .add (.c (.int .i64 19)) (.l 31), none⟩, ⟨(.l 33), .call fn_spec_l6Many [(.c (.str [121])), (.l 32)], none⟩, ⟨(.l 34), .faddr 6 (.g 3), none⟩, ⟨.no, .store 1 (.l 34) (.l 33), none⟩])
   (.seq (.region [⟨(.l 36), .bin .eql (.g 27) (.c (.int .i64 1)), none⟩, ⟨(.g 35), .mv (.l 36), none⟩])
    (.cond (.g 35) (.region [⟨(.l 37), .faddr 6 (.g 3), none⟩, ⟨.no, .store 1 (.l 37) (.c (.str [])), none⟩])
    (.seq (.region [⟨(.l 39), .bin .eql (.g 27) (.c (.int .i64 2)), none⟩, ⟨(.g 38), .mv (.l 39), none⟩])
     (.cond (.g 38) (.region [⟨(.l 40), .mv (.g 0), none⟩, ⟨(.l 41), .call fn_spec_l91Word [(.l 40)], none⟩, ⟨(.l 42), .faddr 0 (.g 3), none⟩, ⟨.no, .store 1 (.l 42) (.l 41), none⟩])
     (.seq (.region [⟨(.l 44), .bin .eql (.g 27) (.c (.int .i64 3)), none⟩, ⟨(.g 43), .mv (.l 44), none⟩])
      (.cond (.g 43) (.region [⟨(.l 45), .mv (.g 0), none⟩, ⟨(.l 46), .call fn_spec_l91Word [(.l 45)], none⟩, ⟨(.l 47), .faddr 1 (.g 3), none⟩, ⟨.no, .store 1 (.l 47) (.l 46), none⟩])
      (.seq (.region [⟨(.l 49), .bin .eql (.g 27) (.c (.int .i64 4)), none⟩, ⟨(.g 48), .mv (.l 49), none⟩])
       (.cond (.g 48) (.region [⟨(.l 50), .mv (.g 0), none⟩, ⟨(.l 51), .call fn_spec_l91Word [(.l 50)], none⟩, ⟨(.l 52), .faddr 2 (.g 3), none⟩, ⟨.no, .store 1 (.l 52) (.l 51), none⟩])
       (.skip)))))))))))))
  (.seq (.region [⟨(.l 53), .load true 7 (.g 3), none⟩, ⟨.no, .store 7 (.g 2) (.l 53), none⟩])
  (.ret)))))))⟩
theorem ln_spec_l91Part : Linked Tryz.prog fn_spec_l91Part ac_spec_l91Part := ⟨Tryz.f72, _, Tryz.func72, rfl, by kernel_rfl, by kernel_rfl, by kernel_rfl, by kernel_rfl⟩
def ac_spec_l12Data : AF := ⟨[0, 1, 2], [.t 2],
  .seq (.region [⟨(.g 1), .box (.g 0), none⟩, ⟨(.g 2), .mv (.c (.bool false)), none⟩])
  (.seq (.region [⟨(.l 3), .faddr 0 (.g 1), none⟩, ⟨(.l 4), .load false 1 (.l 3), none⟩, ⟨(.l 5), .call fn_spec_l3Ok [(.l 4)], none⟩, ⟨(.l 6), .mv (.l 5), none⟩, ⟨(.l 7), .faddr 1 (.g 1), (some ((.l 6), true))⟩, ⟨(.l 8), .load false 1 (.l 7), (some ((.l 6), true))⟩, ⟨(.l 9), .call fn_spec_l3Ok [(.l 8)], (some ((.l 6), true))⟩, ⟨(.l 10), .pick (.l 6) (.l 9) (.c (.bool false)), none⟩, ⟨(.l 11), .mv (.l 10), none⟩, ⟨(.l 12), .faddr 2 (.g 1), (some ((.l 11), true))⟩, ⟨(.l 13), .load false 1 (.l 12), (some ((.l 11), true))⟩, ⟨(.l 14), .call fn_spec_l3Ok [(.l 13)], (some ((.l 11), true))⟩, ⟨(.l 15), .pick (.l 11) (.l 14) (.c (.bool false)), none⟩, ⟨(.l 16), .mv (.l 15), none⟩, ⟨(.l 17), .faddr 6 (.g 1), (some ((.l 16), true))⟩, ⟨(.l 18), .load false 1 (.l 17), (some ((.l 16), true))⟩, ⟨(.l 19), .lenStr (.l 18), (some ((.l 16), true))⟩, ⟨(.l 20), .call fn_spec_l6In [(.l 19), (.c (.int .i64 1)), (.c (.int .i64 20))], (some ((.l 16), true))⟩, ⟨(.l 21), .pick (.l 16) (.l 20) (.c (.bool false)), none⟩, ⟨(.g 2), .mv (.l 21), none⟩])
  (.ret))⟩
theorem ln_spec_l12Data : Linked Tryz.prog fn_spec_l12Data ac_spec_l12Data := ⟨Tryz.f77, _, Tryz.func77, rfl, by kernel_rfl, by kernel_rfl, by kernel_rfl, by kernel_rfl⟩
def ac_spec_l3Add : AF := ⟨[0, 1, 4], [.t 4],
  .seq (.region [⟨(.g 4), .mv (.c (.int .i64 0)), none⟩])
  (.seq (.region [⟨(.l 5), .mv (.g 0), none⟩, ⟨(.l 6), .mv (.g 1), none⟩, ⟨(.l 7), .bin .rem (.l 6) (.c (.int .i64 65536)), none⟩, ⟨(.l 8), .bin .add (.l 5) (.l 7), none⟩, ⟨(.l 9), .bin .add (.l 8) (.c (.int .i64 65536)), none⟩, ⟨(.l 10), .bin .rem (.l 9) (.c (.int .i64 65536)), none⟩, ⟨(.g 4), .mv (.l 10), none⟩])
  (.ret))⟩
theorem ln_spec_l3Add : Linked Tryz.prog fn_spec_l3Add ac_spec_l3Add := ⟨Tryz.f78, _, Tryz.func78, rfl, by kernel_rfl, by kernel_rfl, by kernel_rfl, by kernel_rfl⟩
def ac_spec_l31Follows : AF := ⟨[0, 1, 3, 4, 5, 18], [.t 4],
  .seq (.region [⟨(.g 3), .box (.g 1), none⟩, ⟨(.g 4), .mv (.c (.bool false)), none⟩])
  (.seq (.region [⟨(.l 6), .mv (.g 0), none⟩, ⟨(.l 7), .len (.l 6), none⟩, ⟨(.g 5), .mv (.l 7), none⟩])
  (.seq (.seq (.region [⟨(.l 8), .mv (.g 5), none⟩, ⟨(.l 9), .bin .gtr (.l 8) (.c (.int .i64 0)), none⟩, ⟨(.l 10), .mv (.l 9), none⟩, ⟨(.l 11), .mv (.g 0), (some ((.l 10), true))⟩, ⟨(.l 12), .mv (.g 5), (some ((.l 10), true))⟩, ⟨(.l 13), .bin .sub (.l 12) (.c (.int .i64 1)), (some ((.l 10), true))⟩, ⟨(.l 14), .elS 7 (.l 11) (.l 13), (some ((.l 10), true))⟩, ⟨(.l 15), .faddr 4 (.l 14), (some ((.l 10), true))⟩, ⟨(.l 16), .load false 1 (.l 15), (some ((.l 10), true))⟩, ⟨(.l 17), .un .not (.l 16), (some ((.l 10), true))⟩, ⟨(.g 18), .pick (.l 10) (.l 17) (.c (.bool false)), none⟩])
  (.cond (.g 18) (.seq (.drawn [⟨(.l 19), .faddr 3 (.g 3), none⟩, ⟨(.l 20), .load false 1 (.l 19), none⟩, ⟨(.l 21), .un .not (.l 20), none⟩, ⟨(.l 22), .mv (.l 21), none⟩, ⟨(.l 23), .mv (.g 0), (some ((.l 22), true))⟩, ⟨(.l 24), .mv (.g 5), (some ((.l 22), true))⟩, ⟨(.l 25), .bin .sub (.l 24) (.c (.int .i64 1)), (some ((.l 22), true))⟩, ⟨(.l 26), .elS 7 (.l 23) (.l 25), (some ((.l 22), true))⟩, ⟨(.l 27), .load true 7 (.l 26), (some ((.l 22), true))⟩, ⟨(.l 28), .load true 7 (.g 3), (some ((.l 22), true))⟩] [[], [], [], [], [], [], [], [], [], [8, 7]] [⟨(.l 29), .call fn_spec_l22Same [(.l 27), (.l 28)], (some ((.l 22), true))⟩, ⟨(.l 30), .pick (.l 22) (.l 29) (.c (.bool false)), none⟩, ⟨(.g 4), .mv (.l 30), none⟩])
   (.ret))
  (.skip)))
  (.seq (.drawn [⟨(.l 31), .faddr 3 (.g 3), none⟩, ⟨(.l 32), .load false 1 (.l 31), none⟩, ⟨(.l 33), .mv (.l 32), none⟩, ⟨(.l 34), .faddr 5 (.g 3), (some ((.l 33), true))⟩, ⟨(.l 35), .load false 1 (.l 34), (some ((.l 33), true))⟩, ⟨(.l 36), .mv (.l 35), (some ((.l 33), true))⟩, ⟨(.l 37), .faddr 2 (.g 3), (some ((.l 36), false))⟩, ⟨(.l 38), .load false 1 (.l 37), (some ((.l 36), false))⟩, ⟨(.l 39), .mv (.g 0), (some ((.l 36), false))⟩, ⟨(.l 40), .faddr 1 (.g 3), (some ((.l 36), false))⟩, ⟨(.l 41), .load false 1 (.l 40), (some ((.l 36), false))⟩, ⟨(.l 42), .call fn_spec_l31Ssn [(.l 39), (.l 41)], (some ((.l 36), false))⟩] [[], [], [], [], [], [], [], [], [], [], [7], [7]] [⟨(.l 43), .bin .eql (.l 38) (.l 42), (some ((.l 36), false))⟩, ⟨(.l 44), .pick (.l 36) (.c (.bool true)) (.l 43), (some ((.l 33), true))⟩, ⟨(.l 45), .pick (.l 33) (.l 44) (.c (.bool false)), none⟩, ⟨(.g 4), .mv (.l 45), none⟩])
  (.ret))))⟩
theorem ln_spec_l31Follows : Linked Tryz.prog fn_spec_l31Follows ac_spec_l31Follows := ⟨Tryz.f79, _, Tryz.func79, rfl, by kernel_rfl, by kernel_rfl, by kernel_rfl, by kernel_rfl⟩
def ac_spec_l3Ok : AF := ⟨[0, 2], [.t 2],
  .seq (.region [⟨(.g 2), .mv (.c (.bool false)), none⟩])
  (.seq (.region [⟨(.l 3), .mv (.g 0), none⟩, ⟨(.l 4), .call fn_spec_l6In [(.l 3), (.c (.int .i64 0)), (.c (.int .i64 65535))], none⟩, ⟨(.g 2), .mv (.l 4), none⟩])
  (.ret))⟩
theorem ln_spec_l3Ok : Linked Tryz.prog fn_spec_l3Ok ac_spec_l3Ok := ⟨Tryz.f80, _, Tryz.func80, rfl, by kernel_rfl, by kernel_rfl, by kernel_rfl, by kernel_rfl⟩
def ac_spec_l41Hello : AF := ⟨[0, 1, 2, 3, 5, 7], [.t 2],
  .seq (.region [⟨(.g 1), .box (.g 0), none⟩, ⟨(.g 2), .mv (.c .nils), none⟩])
  (.seq (.region [⟨(.l 9), .faddr 2 (.g 1), none⟩, ⟨(.l 10), .load true 4 (.l 9), none⟩, ⟨(.l 11), .call fn_spec_InitPut [(.l 10), (.c (.bool false))], none⟩, ⟨(.l 8), .mv (.l 11), none⟩, ⟨(.l 12), .extract (.l 8) 0, none⟩, ⟨(.l 13), .extract (.l 8) 1, none⟩, ⟨(.g 3), .alloc [(.int .i64 0), (.int .i64 0), (.str [])], none⟩, ⟨.no, .store 3 (.g 3) (.l 12), none⟩, ⟨(.l 4), .mv (.l 13), none⟩])
  (.seq (.region [⟨(.l 15), .faddr 6 (.g 1), none⟩, ⟨(.l 16), .load true 4 (.l 15), none⟩, ⟨(.l 17), .call fn_spec_InitPut [(.l 16), (.c (.bool true))], none⟩, ⟨(.l 14), .mv (.l 17), none⟩, ⟨(.l 18), .extract (.l 14) 0, none⟩, ⟨(.l 19), .extract (.l 14) 1, none⟩, ⟨(.g 5), .alloc [(.int .i64 0), (.int .i64 0), (.str [])], none⟩, ⟨.no, .store 3 (.g 5) (.l 18), none⟩, ⟨(.l 6), .mv (.l 19), none⟩])
  (.seq (.region [⟨(.l 20), .load true 12 (.g 1), none⟩, ⟨(.l 21), .load true 3 (.g 3), none⟩, ⟨(.l 22), .lits 3 [(.l 21)], none⟩, ⟨(.l 23), .call fn_spec_l41Packet [(.l 20), (.c (.bool false)), (.l 22)], none⟩, ⟨(.g 7), .alloc [(.int .i64 0), (.int .i64 0), (.int .i64 0), .nils], none⟩, ⟨.no, .store 4 (.g 7) (.l 23), none⟩])
  (.seq (.region [⟨(.l 24), .faddr 2 (.g 7), none⟩, ⟨.no, .store 1 (.l 24) (.c (.int .i64 0)), none⟩])
  (.seq (.drawn [⟨(.l 25), .load true 4 (.g 7), none⟩, ⟨(.l 26), .load true 12 (.g 1), none⟩, ⟨(.l 27), .load true 3 (.g 5), none⟩, ⟨(.l 28), .lits 3 [(.l 27)], none⟩, ⟨(.l 29), .call fn_spec_l41Packet [(.l 26), (.c (.bool true)), (.l 28)], none⟩, ⟨(.l 30), .load true 12 (.g 1), none⟩, ⟨(.l 31), .call fn_spec_l41One [(.l 30), (.c (.bool false)), (.c (.int .i64 10))], none⟩, ⟨(.l 32), .load true 12 (.g 1), none⟩, ⟨(.l 33), .call fn_spec_l41One [(.l 32), (.c (.bool true)), (.c (.int .i64 11))], none⟩] [[], [0], [1, 0], [1, 0], [0], [4, 3, 2, 1, 0], [0], [6, 5, 4, 3, 2, 1, 0], [0]] [⟨(.l 34), .lits 4 [(.l 25), (.l 29), (.l 31), (.l 33)], none⟩, ⟨(.g 2), .mv (.l 34), none⟩])
  (.ret))))))⟩
theorem ln_spec_l41Hello : Linked Tryz.prog fn_spec_l41Hello ac_spec_l41Hello := ⟨Tryz.f81, _, Tryz.func81, rfl, by kernel_rfl, by kernel_rfl, by kernel_rfl, by kernel_rfl⟩
def ac_spec_l41Parts : AF := ⟨[0, 1, 2, 4, 5, 6, 7, 8, 9, 10, 11, 12, 16, 25, 35, 50], [.t 4],
  .seq (.region [⟨(.g 2), .box (.g 0), none⟩, ⟨(.g 4), .mv (.c .nils), none⟩])
  (.seq (.region [⟨(.l 13), .faddr 2 (.g 2), none⟩, ⟨(.l 14), .faddr 3 (.l 13), none⟩, ⟨(.l 15), .load false 1 (.l 14), none⟩, ⟨(.g 5), .mv (.l 15), none⟩])
  (.seq (.seq (.region [⟨(.g 16), .mv (.g 1), none⟩])
  (.cond (.g 16) (.region [⟨(.l 17), .faddr 6 (.g 2), none⟩, ⟨(.l 18), .faddr 3 (.l 17), none⟩, ⟨(.l 19), .load false 1 (.l 18), none⟩, ⟨(.g 5), .mv (.l 19), none⟩])
  (.skip)))
  (.seq (.region [⟨(.l 20), .lits 7 [], none⟩, ⟨(.g 6), .mv (.l 20), none⟩])
  (.seq (.seq (.region [⟨(.g 7), .mv (.c (.int .i64 0)), none⟩])
  (.block 0 (.loop (.seq (.seq (.region [⟨(.l 21), .mv (.g 7), none⟩, ⟨(.l 22), .faddr 11 (.g 2), none⟩, ⟨(.l 23), .load false 1 (.l 22), none⟩, ⟨(.l 24), .len (.l 23), none⟩, ⟨(.g 25), .bin .lss (.l 21) (.l 24), none⟩])
    (.cond (.g 25) (.skip)
    (.exit 0)))
    (.seq (.block 1 (.seq (.region [⟨(.l 28), .faddr 11 (.g 2), none⟩, ⟨(.l 29), .load false 1 (.l 28), none⟩, ⟨(.l 30), .mv (.g 7), none⟩, ⟨(.l 31), .elS 4 (.l 29) (.l 30), none⟩, ⟨(.l 32), .load true 4 (.l 31), none⟩, ⟨(.g 8), .alloc [(.bool false), (.int .i64 0), (.bool false), (.str [])], none⟩, ⟨.no, .store 4 (.g 8) (.l 32), none⟩])
     (.seq (.region [⟨(.g 9), .mv (.c (.int .i64 0)), none⟩])
     (.seq (.seq (.region [⟨(.l 33), .faddr 2 (.g 8), none⟩, ⟨(.l 34), .load false 1 (.l 33), none⟩, ⟨(.g 35), .un .not (.l 34), none⟩])
     (.cond (.g 35) (.region [⟨(.l 36), .mv (.g 6), none⟩, ⟨(.l 37), .faddr 1 (.g 8), none⟩, ⟨(.l 38), .load false 1 (.l 37), none⟩, ⟨(.l 39), .call fn_spec_l31Ssn [(.l 36), (.l 38)], none⟩, ⟨(.g 9), .mv (.l 39), none⟩])
     (.skip)))
     (.seq (.region [⟨(.g 10), .mv (.c (.int .i64 0)), none⟩])
     (.block 2 (.loop (.seq (.seq (.region [⟨(.l 40), .mv (.g 10), none⟩, ⟨(.l 41), .faddr 3 (.g 8), none⟩, ⟨(.l 42), .load false 1 (.l 41), none⟩, ⟨(.l 43), .lenStr (.l 42), none⟩, ⟨(.l 44), .bin .lss (.l 40) (.l 43), none⟩, ⟨(.l 45), .mv (.l 44), none⟩, ⟨(.l 46), .faddr 0 (.g 8), (some ((.l 45), true))⟩, ⟨(.l 47), .load false 1 (.l 46), (some ((.l 45), true))⟩, ⟨(.l 48), .mv (.g 1), (some ((.l 45), true))⟩, ⟨(.l 49), .beq false (.l 47) (.l 48), (some ((.l 45), true))⟩, ⟨(.g 50), .pick (.l 45) (.l 49) (.c (.bool false)), none⟩])
       (.cond (.g 50) (.skip)
       (.exit 2)))
       (.seq (.block 3 (.seq (.region [⟨(.l 55), .mv (.g 10), none⟩, ⟨(.l 56), .faddr 10 (.g 2), none⟩, ⟨(.l 57), .load false 1 (.l 56), none⟩, ⟨(.l 58), .bin .add (.l 55) (.l 57), none⟩, ⟨(.l 59), .faddr 3 (.g 8), none⟩, ⟨(.l 60), .load false 1 (.l 59), none⟩, ⟨(.l 61), .lenStr (.l 60), none⟩, ⟨(.l 62), .min (.l 58) (.l 61), none⟩, ⟨(.g 11), .mv (.l 62), none⟩])
        (.seq (.drawn [⟨(.l 63), .mv (.g 5), none⟩, ⟨(.l 64), .mv (.g 6), none⟩, ⟨(.l 65), .len (.l 64), none⟩, ⟨(.l 66), .call fn_spec_l3Add [(.l 63), (.l 65)], none⟩, ⟨(.l 67), .faddr 1 (.g 8), none⟩, ⟨(.l 68), .load false 1 (.l 67), none⟩, ⟨(.l 69), .mv (.g 9), none⟩, ⟨(.l 70), .faddr 2 (.g 8), none⟩, ⟨(.l 71), .load false 1 (.l 70), none⟩, ⟨(.l 72), .faddr 3 (.g 8), none⟩, ⟨(.l 73), .load false 1 (.l 72), none⟩, ⟨(.l 74), .mv (.g 10), none⟩, ⟨(.l 75), .mv (.g 11), none⟩, ⟨(.l 76), .cutStr (.l 73) (some (.l 74)) (some (.l 75)), none⟩, ⟨(.l 77), .build [(.int .i64 0), (.int .i64 0), (.int .i64 0), (.bool false), (.bool false), (.bool false), (.str [])] [(0, 1, (.l 66)), (1, 1, (.l 68)), (2, 1, (.l 69)), (5, 1, (.l 71)), (6, 1, (.l 76))], none⟩, ⟨(.g 12), .alloc [(.int .i64 0), (.int .i64 0), (.int .i64 0), (.bool false), (.bool false), (.bool false), (.str [])], none⟩] [[], [], [], [], [], [3, 2], [], [], [5, 3, 2], [], [8, 5, 3, 2], [], [], [], [], [10, 8, 5, 3, 2]] [⟨.no, .store 7 (.g 12) (.l 77), none⟩])
        (.seq (.region [⟨(.l 78), .mv (.g 10), none⟩, ⟨(.l 79), .bin .eql (.l 78) (.c (.int .i64 0)), none⟩, ⟨(.l 80), .faddr 3 (.g 12), none⟩, ⟨.no, .store 1 (.l 80) (.l 79), none⟩])
        (.seq (.region [⟨(.l 81), .mv (.g 11), none⟩, ⟨(.l 82), .faddr 3 (.g 8), none⟩, ⟨(.l 83), .load false 1 (.l 82), none⟩, ⟨(.l 84), .lenStr (.l 83), none⟩, ⟨(.l 85), .bin .eql (.l 81) (.l 84), none⟩, ⟨(.l 86), .faddr 4 (.g 12), none⟩, ⟨.no, .store 1 (.l 86) (.l 85), none⟩])
        (.region [⟨(.l 87), .mv (.g 6), none⟩, ⟨(.l 88), .load true 7 (.g 12), none⟩, ⟨(.l 89), .lits 7 [(.l 88)], none⟩, ⟨(.l 90), .append 7 48 (.l 87) (.l 89), none⟩, ⟨(.g 6), .mv (.l 90), none⟩]))))))
       (.region [⟨(.l 51), .mv (.g 10), none⟩, ⟨(.l 52), .faddr 10 (.g 2), none⟩, ⟨(.l 53), .load false 1 (.l 52), none⟩, ⟨(.l 54), .bin .add (.l 51) (.l 53), none⟩, ⟨(.g 10), .mv (.l 54), none⟩]))))))))))
    (.region [⟨(.l 26), .mv (.g 7), none⟩, ⟨(.l 27), .bin .add (.l 26) (.c (.int .i64 1)), none⟩, ⟨(.g 7), .mv (.l 27), none⟩]))))))
  (.seq (.region [⟨(.l 91), .mv (.g 6), none⟩, ⟨(.g 4), .mv (.l 91), none⟩])
  (.ret))))))⟩
theorem ln_spec_l41Parts : Linked Tryz.prog fn_spec_l41Parts ac_spec_l41Parts := ⟨Tryz.f82, _, Tryz.func82, rfl, by kernel_rfl, by kernel_rfl, by kernel_rfl, by kernel_rfl⟩
def ac_spec_l41Many : AF := ⟨[0, 1, 4], [.t 4],
  .seq (.region [⟨(.g 4), .mv (.c (.int .i64 0)), none⟩])
  (.seq (.region [⟨(.l 5), .mv (.g 0), none⟩, ⟨(.l 6), .lenStr (.l 5), none⟩, ⟨(.l 7), .mv (.g 1), none⟩, ⟨(.l 8), .bin .add (.l 6) (.l 7), none⟩, ⟨(.l 9), .bin .sub (.l 8) (.c (.int .i64 1)), none⟩, ⟨(.l 10), .mv (.g 1), none⟩, ⟨(.l 11), .bin .quo (.l 9) (.l 10), none⟩, ⟨(.g 4), .mv (.l 11), none⟩])
  (.ret))⟩
theorem ln_spec_l41Many : Linked Tryz.prog fn_spec_l41Many ac_spec_l41Many := ⟨Tryz.f83, _, Tryz.func83, rfl, by kernel_rfl, by kernel_rfl, by kernel_rfl, by kernel_rfl⟩
def ac_spec_DataPut : AF := ⟨[0, 1, 2, 3, 4, 7], [.c 2 true 3, .t 3],
  .seq (.region [⟨(.g 1), .box (.g 0), none⟩, ⟨(.g 2), .alloc [(.int .i64 0), (.int .i64 0), (.str [])], none⟩, ⟨(.g 3), .mv (.c (.bool false)), none⟩])
  (.seq (.seq (.region [⟨(.l 5), .load true 7 (.g 1), none⟩, ⟨(.l 6), .call fn_spec_l12Data [(.l 5)], none⟩, ⟨(.g 7), .un .not (.l 6), none⟩])
  (.cond (.g 7) (.seq (.region [⟨(.l 8), .build [(.int .i64 0), (.int .i64 0), (.str [])] [], none⟩, ⟨.no, .store 3 (.g 2) (.l 8), none⟩, ⟨(.g 3), .mv (.c (.bool false)), none⟩])
   (.ret))
  (.skip)))
  (.seq (.drawn [⟨(.l 9), .faddr 4 (.g 1), none⟩, ⟨(.l 10), .load false 1 (.l 9), none⟩, ⟨(.l 11), .call fn_spec_l12Bit [(.l 10), (.c (.int .i64 1))], none⟩, ⟨(.l 12), .faddr 3 (.g 1), none⟩, ⟨(.l 13), .load false 1 (.l 12), none⟩, ⟨(.l 14), .call fn_spec_l12Bit [(.l 13), (.c (.int .i64 2))], none⟩, ⟨(.l 15), .bin .add (.l 11) (.l 14), none⟩, ⟨(.l 16), .faddr 5 (.g 1), none⟩, ⟨(.l 17), .load false 1 (.l 16), none⟩, ⟨(.l 18), .call fn_spec_l12Bit [(.l 17), (.c (.int .i64 4))], none⟩] [[], [], [], [], [2, 1], [], [], [], [5, 4, 2, 1], []] [⟨(.l 19), .bin .add (.l 15) (.l 18), none⟩, ⟨(.g 4), .mv (.l 19), none⟩])
  (.seq (.drawn [⟨(.l 20), .mv (.g 4), none⟩, ⟨(.l 21), .faddr 0 (.g 1), none⟩, ⟨(.l 22), .load false 1 (.l 21), none⟩, ⟨(.l 23), .call fn_spec_l1Word [(.l 22)], none⟩, ⟨(.l 24), .faddr 1 (.g 1), none⟩, ⟨(.l 25), .load false 1 (.l 24), none⟩, ⟨(.l 26), .call fn_spec_l1Word [(.l 25)], none⟩, ⟨(.l 27), .bin .add (.l 23) (.l 26), none⟩, ⟨(.l 28), .faddr 2 (.g 1), none⟩, ⟨(.l 29), .load false 1 (.l 28), none⟩, ⟨(.l 30), .call fn_spec_l1Word [(.l 29)], none⟩, ⟨(.l 31), .bin .add (.l 27) (.l 30), none⟩, ⟨(.l 32), .faddr 6 (.g 1), none⟩, ⟨(.l 33), .load false 1 (.l 32), none⟩, ⟨(.l 34), .bin .add (.l 31) (.l 33), none⟩] [[], [], [], [], [], [3, 2], [], [], [], [6, 5, 3, 2], [], [], [], [10, 9, 6, 5, 3, 2], []] [⟨(.l 35), .build [(.int .i64 0), (.int .i64 0), (.str [])] [(0, 1, (.c (.int .i64 0))), (1, 1, (.l 20)), (2, 1, (.l 34))], none⟩, ⟨.no, .store 3 (.g 2) (.l 35), none⟩, ⟨(.g 3), .mv (.c (.bool true)), none⟩])
  (.ret))))⟩
theorem ln_spec_DataPut : Linked Tryz.prog fn_spec_DataPut ac_spec_DataPut := ⟨Tryz.f84, _, Tryz.func84, rfl, by kernel_rfl, by kernel_rfl, by kernel_rfl, by kernel_rfl⟩
def ac_spec_SackPut : AF := ⟨[0, 1, 2, 3, 4, 5, 8, 17], [.c 2 true 3, .t 3],
  .seq (.region [⟨(.g 1), .box (.g 0), none⟩, ⟨(.g 2), .alloc [(.int .i64 0), (.int .i64 0), (.str [])], none⟩, ⟨(.g 3), .mv (.c (.bool false)), none⟩])
  (.seq (.seq (.region [⟨(.l 6), .load true 2 (.g 1), none⟩, ⟨(.l 7), .call fn_spec_l12Sack [(.l 6)], none⟩, ⟨(.g 8), .un .not (.l 7), none⟩])
  (.cond (.g 8) (.seq (.region [⟨(.l 9), .build [(.int .i64 0), (.int .i64 0), (.str [])] [], none⟩, ⟨.no, .store 3 (.g 2) (.l 9), none⟩, ⟨(.g 3), .mv (.c (.bool false)), none⟩])
   (.ret))
  (.skip)))
  (.seq (.region [⟨(.l 10), .faddr 0 (.g 1), none⟩, ⟨(.l 11), .load false 1 (.l 10), none⟩, ⟨(.l 12), .call fn_spec_l1Word [(.l 11)], none⟩, ⟨(.g 4), .mv (.l 12), none⟩])
  (.seq (.seq (.region [⟨(.g 5), .mv (.c (.int .i64 0)), none⟩])
  (.block 0 (.loop (.seq (.seq (.region [⟨(.l 13), .mv (.g 5), none⟩, ⟨(.l 14), .faddr 1 (.g 1), none⟩, ⟨(.l 15), .load false 1 (.l 14), none⟩, ⟨(.l 16), .len (.l 15), none⟩, ⟨(.g 17), .bin .lss (.l 13) (.l 16), none⟩])
    (.cond (.g 17) (.skip)
    (.exit 0)))
    (.seq (.block 1 (.drawn [⟨(.l 20), .mv (.g 4), none⟩, ⟨(.l 21), .faddr 1 (.g 1), none⟩, ⟨(.l 22), .load false 1 (.l 21), none⟩, ⟨(.l 23), .mv (.g 5), none⟩, ⟨(.l 24), .elS 2 (.l 22) (.l 23), none⟩, ⟨(.l 25), .faddr 0 (.l 24), none⟩, ⟨(.l 26), .load false 1 (.l 25), none⟩, ⟨(.l 27), .call fn_spec_l1Word [(.l 26)], none⟩, ⟨(.l 28), .bin .add (.l 20) (.l 27), none⟩, ⟨(.l 29), .faddr 1 (.g 1), none⟩, ⟨(.l 30), .load false 1 (.l 29), none⟩, ⟨(.l 31), .mv (.g 5), none⟩, ⟨(.l 32), .elS 2 (.l 30) (.l 31), none⟩, ⟨(.l 33), .faddr 1 (.l 32), none⟩, ⟨(.l 34), .load false 1 (.l 33), none⟩, ⟨(.l 35), .call fn_spec_l1Word [(.l 34)], none⟩] [[], [], [], [], [], [], [], [], [], [], [7, 6, 4, 2], [], [7, 6, 4, 2], [], [7, 6, 4, 2], []] [⟨(.l 36), .bin .add (.l 28) (.l 35), none⟩, ⟨(.g 4), .mv (.l 36), none⟩]))
    (.region [⟨(.l 18), .mv (.g 5), none⟩, ⟨(.l 19), .bin .add (.l 18) (.c (.int .i64 1)), none⟩, ⟨(.g 5), .mv (.l 19), none⟩]))))))
  (.seq (.region [⟨(.l 37), .mv (.g 4), none⟩, ⟨(.l 38), .build [(.int .i64 0), (.int .i64 0), (.str [])] [(0, 1, (.c (.int .i64 3))), (2, 1, (.l 37))], none⟩, ⟨.no, .store 3 (.g 2) (.l 38), none⟩, ⟨(.g 3), .mv (.c (.bool true)), none⟩])
  (.ret)))))⟩
theorem ln_spec_SackPut : Linked Tryz.prog fn_spec_SackPut ac_spec_SackPut := ⟨Tryz.f85, _, Tryz.func85, rfl, by kernel_rfl, by kernel_rfl, by kernel_rfl, by kernel_rfl⟩
def ac_spec_l41Packet : AF := ⟨[0, 1, 2, 3, 6, 7], [.c 6 true 4],
  .seq (.region [⟨(.g 3), .box (.g 0), none⟩, ⟨(.g 6), .alloc [(.int .i64 0), (.int .i64 0), (.int .i64 0), .nils], none⟩])
  (.seq (.seq (.region [⟨(.g 7), .mv (.g 1), none⟩])
  (.cond (.g 7) (.seq (.region [⟨(.l 8), .faddr 1 (.g 3), none⟩, ⟨(.l 9), .load false 1 (.l 8), none⟩, ⟨(.l 10), .faddr 0 (.g 3), none⟩, ⟨(.l 11), .load false 1 (.l 10), none⟩, ⟨(.l 12), .faddr 2 (.g 3), none⟩, ⟨(.l 13), .faddr 0 (.l 12), none⟩, ⟨(.l 14), .load false 1 (.l 13), none⟩, ⟨(.l 15), .mv (.g 2), none⟩, ⟨(.l 16), .build [(.int .i64 0), (.int .i64 0), (.int .i64 0), .nils] [(0, 1, (.l 9)), (1, 1, (.l 11)), (2, 1, (.l 14)), (3, 1, (.l 15))], none⟩, ⟨.no, .store 4 (.g 6) (.l 16), none⟩])
   (.ret))
  (.skip)))
  (.seq (.region [⟨(.l 17), .faddr 0 (.g 3), none⟩, ⟨(.l 18), .load false 1 (.l 17), none⟩, ⟨(.l 19), .faddr 1 (.g 3), none⟩, ⟨(.l 20), .load false 1 (.l 19), none⟩, ⟨(.l 21), .faddr 6 (.g 3), none⟩, ⟨(.l 22), .faddr 0 (.l 21), none⟩, ⟨(.l 23), .load false 1 (.l 22), none⟩, ⟨(.l 24), .mv (.g 2), none⟩, ⟨(.l 25), .build [(.int .i64 0), (.int .i64 0), (.int .i64 0), .nils] [(0, 1, (.l 18)), (1, 1, (.l 20)), (2, 1, (.l 23)), (3, 1, (.l 24))], none⟩, ⟨.no, .store 4 (.g 6) (.l 25), none⟩])
  (.ret)))⟩
theorem ln_spec_l41Packet : Linked Tryz.prog fn_spec_l41Packet ac_spec_l41Packet := ⟨Tryz.f86, _, Tryz.func86, rfl, by kernel_rfl, by kernel_rfl, by kernel_rfl, by kernel_rfl⟩
def ac_spec_l41One : AF := ⟨[0, 1, 2, 3, 6], [.c 6 true 4],
  .seq (.region [⟨(.g 3), .box (.g 0), none⟩, ⟨(.g 6), .alloc [(.int .i64 0), (.int .i64 0), (.int .i64 0), .nils], none⟩])
  (.seq (.region [⟨(.l 7), .load true 12 (.g 3), none⟩, ⟨(.l 8), .mv (.g 1), none⟩, ⟨(.l 9), .mv (.g 2), none⟩, ⟨(.l 10), .build [(.int .i64 0), (.int .i64 0), (.str [])] [(0, 1, (.l 9))], none⟩, ⟨(.l 11), .lits 3 [(.l 10)], none⟩, ⟨(.l 12), .call fn_spec_l41Packet [(.l 7), (.l 8), (.l 11)], none⟩, ⟨.no, .store 4 (.g 6) (.l 12), none⟩])
  (.ret))⟩
theorem ln_spec_l41One : Linked Tryz.prog fn_spec_l41One ac_spec_l41One := ⟨Tryz.f87, _, Tryz.func87, rfl, by kernel_rfl, by kernel_rfl, by kernel_rfl, by kernel_rfl⟩
def ac_spec_PacketValid : AF := ⟨[0, 1, 2, 3, 8, 17], [.t 2],
  .seq (.region [⟨(.g 1), .box (.g 0), none⟩, ⟨(.g 2), .mv (.c (.bool false)), none⟩])
  (.seq (.seq (.region [⟨(.g 3), .mv (.c (.int .i64 0)), none⟩])
  (.block 0 (.loop (.seq (.seq (.region [⟨(.l 4), .mv (.g 3), none⟩, ⟨(.l 5), .faddr 3 (.g 1), none⟩, ⟨(.l 6), .load false 1 (.l 5), none⟩, ⟨(.l 7), .len (.l 6), none⟩, ⟨(.g 8), .bin .lss (.l 4) (.l 7), none⟩])
    (.cond (.g 8) (.skip)
    (.exit 0)))
    (.seq (.block 1 (.seq (.region [⟨(.l 11), .faddr 3 (.g 1), none⟩, ⟨(.l 12), .load false 1 (.l 11), none⟩, ⟨(.l 13), .mv (.g 3), none⟩, ⟨(.l 14), .elS 3 (.l 12) (.l 13), none⟩, ⟨(.l 15), .load true 3 (.l 14), none⟩, ⟨(.l 16), .call fn_spec_ChunkValid [(.l 15)], none⟩, ⟨(.g 17), .un .not (.l 16), none⟩])
     (.cond (.g 17) (.seq (.region [⟨(.g 2), .mv (.c (.bool false)), none⟩])
      (.ret))
     (.skip))))
    (.region [⟨(.l 9), .mv (.g 3), none⟩, ⟨(.l 10), .bin .add (.l 9) (.c (.int .i64 1)), none⟩, ⟨(.g 3), .mv (.l 10), none⟩]))))))
  (.seq (.region [⟨(.l 18), .faddr 0 (.g 1), none⟩, ⟨(.l 19), .load false 1 (.l 18), none⟩, ⟨(.l 20), .call fn_spec_l6In [(.l 19), (.c (.int .i64 1)), (.c (.int .i64 65535))], none⟩, ⟨(.l 21), .mv (.l 20), none⟩, ⟨(.l 22), .faddr 1 (.g 1), (some ((.l 21), true))⟩, ⟨(.l 23), .load false 1 (.l 22), (some ((.l 21), true))⟩, ⟨(.l 24), .call fn_spec_l6In [(.l 23), (.c (.int .i64 1)), (.c (.int .i64 65535))], (some ((.l 21), true))⟩, ⟨(.l 25), .pick (.l 21) (.l 24) (.c (.bool false)), none⟩, ⟨(.l 26), .mv (.l 25), none⟩, ⟨(.l 27), .faddr 0 (.g 1), (some ((.l 26), true))⟩, ⟨(.l 28), .load false 1 (.l 27), (some ((.l 26), true))⟩, ⟨(.l 29), .faddr 1 (.g 1), (some ((.l 26), true))⟩, ⟨(.l 30), .load false 1 (.l 29), (some ((.l 26), true))⟩, ⟨(.l 31), .bin .neq (.l 28) (.l 30), (some ((.l 26), true))⟩, ⟨(.l 32), .pick (.l 26) (.l 31) (.c (.bool false)), none⟩, ⟨(.l 33), .mv (.l 32), none⟩, ⟨(.l 34), .faddr 2 (.g 1), (some ((.l 33), true))⟩, ⟨(.l 35), .load false 1 (.l 34), (some ((.l 33), true))⟩, ⟨(.l 36), .call fn_spec_l6In [(.l 35), (.c (.int .i64 0)), (.c (.int .i64 4294967295))], (some ((.l 33), true))⟩, ⟨(.l 37), .pick (.l 33) (.l 36) (.c (.bool false)), none⟩, ⟨(.l 38), .mv (.l 37), none⟩, ⟨(.l 39), .faddr 3 (.g 1), (some ((.l 38), true))⟩, ⟨(.l 40), .load false 1 (.l 39), (some ((.l 38), true))⟩, ⟨(.l 41), .len (.l 40), (some ((.l 38), true))⟩, ⟨(.l 42), .call fn_spec_l6In [(.l 41), (.c (.int .i64 1)), (.c (.int .i64 4))], (some ((.l 38), true))⟩, ⟨(.l 43), .pick (.l 38) (.l 42) (.c (.bool false)), none⟩, ⟨(.g 2), .mv (.l 43), none⟩])
  (.ret)))⟩
theorem ln_spec_PacketValid : Linked Tryz.prog fn_spec_PacketValid ac_spec_PacketValid := ⟨Tryz.f88, _, Tryz.func88, rfl, by kernel_rfl, by kernel_rfl, by kernel_rfl, by kernel_rfl⟩
def ac_spec_l13Put : AF := ⟨[0, 1, 2, 3, 4, 21], [.t 2],
  .seq (.region [⟨(.g 1), .box (.g 0), none⟩, ⟨(.g 2), .mv (.c (.str [])), none⟩])
  (.seq (.drawn [⟨(.l 5), .faddr 0 (.g 1), none⟩, ⟨(.l 6), .load false 1 (.l 5), none⟩, ⟨(.l 7), .call fn_spec_l1Word [(.l 6)], none⟩, ⟨(.l 8), .faddr 1 (.g 1), none⟩, ⟨(.l 9), .load false 1 (.l 8), none⟩, ⟨(.l 10), .call fn_spec_l1Word [(.l 9)], none⟩, ⟨(.l 11), .bin .add (.l 7) (.l 10), none⟩, ⟨(.l 12), .faddr 2 (.g 1), none⟩, ⟨(.l 13), .load false 1 (.l 12), none⟩, ⟨(.l 14), .call fn_spec_l1Long [(.l 13)], none⟩] [[], [], [], [], [2, 1], [], [], [], [5, 4, 2, 1], []] [⟨(.l 15), .bin .add (.l 11) (.l 14), none⟩, ⟨(.l 16), .bin .add (.l 15) (.c (.str [0, 0, 0, 0])), none⟩, ⟨(.g 3), .mv (.l 16), none⟩])
  (.seq (.seq (.region [⟨(.g 4), .mv (.c (.int .i64 0)), none⟩])
  (.block 0 (.loop (.seq (.seq (.region [⟨(.l 17), .mv (.g 4), none⟩, ⟨(.l 18), .faddr 3 (.g 1), none⟩, ⟨(.l 19), .load false 1 (.l 18), none⟩, ⟨(.l 20), .len (.l 19), none⟩, ⟨(.g 21), .bin .lss (.l 17) (.l 20), none⟩])
    (.cond (.g 21) (.skip)
    (.exit 0)))
    (.seq (.block 1 (.region [⟨(.l 24), .mv (.g 3), none⟩, ⟨(.l 25), .faddr 3 (.g 1), none⟩, ⟨(.l 26), .load false 1 (.l 25), none⟩, ⟨(.l 27), .mv (.g 4), none⟩, ⟨(.l 28), .elS 3 (.l 26) (.l 27), none⟩, ⟨(.l 29), .load true 3 (.l 28), none⟩, ⟨(.l 30), .call fn_spec_l11Put [(.l 29)], none⟩, ⟨(.l 31), .bin .add (.l 24) (.l 30), none⟩, ⟨(.g 3), .mv (.l 31), none⟩]))
    (.region [⟨(.l 22), .mv (.g 4), none⟩, ⟨(.l 23), .bin .add (.l 22) (.c (.int .i64 1)), none⟩, ⟨(.g 4), .mv (.l 23), none⟩]))))))
  (.seq (.drawn [⟨(.l 32), .mv (.g 3), none⟩, ⟨(.l 33), .cutStr (.l 32) none (some (.c (.int .i64 8))), none⟩, ⟨(.l 34), .mv (.g 3), none⟩, ⟨(.l 35), .call fn_spec_l13Sum [(.l 34)], none⟩, ⟨(.l 36), .call fn_spec_l1Long [(.l 35)], none⟩, ⟨(.l 37), .bin .add (.l 33) (.l 36), none⟩, ⟨(.l 38), .mv (.g 3), none⟩, ⟨(.l 39), .cutStr (.l 38) (some (.c (.int .i64 12))) none, none⟩] [[], [], [], [], [], [], [], []] [⟨(.l 40), .bin .add (.l 37) (.l 39), none⟩, ⟨(.g 2), .mv (.l 40), none⟩])
  (.ret))))⟩
theorem ln_spec_l13Put : Linked Tryz.prog fn_spec_l13Put ac_spec_l13Put := ⟨Tryz.f89, _, Tryz.func89, rfl, by kernel_rfl, by kernel_rfl, by kernel_rfl, by kernel_rfl⟩
def ac_spec_l14Record : AF := ⟨[0, 1, 2, 4], [.t 4],
  .seq (.region [⟨(.g 2), .box (.g 0), none⟩, ⟨(.g 4), .mv (.c (.bool false)), none⟩])
  (.seq (.region [⟨(.l 5), .faddr 0 (.g 2), none⟩, ⟨(.l 6), .load false 1 (.l 5), none⟩, ⟨(.l 7), .mv (.g 1), none⟩, ⟨(.l 8), .call fn_spec_l6In [(.l 6), (.l 7), (.c (.int .i64 4294967295))], none⟩, ⟨(.l 9), .mv (.l 8), none⟩, ⟨(.l 10), .faddr 1 (.g 2), (some ((.l 9), true))⟩, ⟨(.l 11), .load false 1 (.l 10), (some ((.l 9), true))⟩, ⟨(.l 12), .lenStr (.l 11), (some ((.l 9), true))⟩, ⟨(.l 13), .bin .leq (.l 12) (.c (.int .i64 120)), (some ((.l 9), true))⟩, ⟨(.l 14), .pick (.l 9) (.l 13) (.c (.bool false)), none⟩, ⟨(.g 4), .mv (.l 14), none⟩])
  (.ret))⟩
theorem ln_spec_l14Record : Linked Tryz.prog fn_spec_l14Record ac_spec_l14Record := ⟨Tryz.f90, _, Tryz.func90, rfl, by kernel_rfl, by kernel_rfl, by kernel_rfl, by kernel_rfl⟩
def ac_spec_l12Init : AF := ⟨[0, 1, 2], [.t 2],
  .seq (.region [⟨(.g 1), .box (.g 0), none⟩, ⟨(.g 2), .mv (.c (.bool false)), none⟩])
  (.seq (.region [⟨(.l 3), .faddr 0 (.g 1), none⟩, ⟨(.l 4), .load false 1 (.l 3), none⟩, ⟨(.l 5), .call fn_spec_l6In [(.l 4), (.c (.int .i64 1)), (.c (.int .i64 4294967295))], none⟩, ⟨(.l 6), .mv (.l 5), none⟩, ⟨(.l 7), .faddr 1 (.g 1), (some ((.l 6), true))⟩, ⟨(.l 8), .load false 1 (.l 7), (some ((.l 6), true))⟩, ⟨(.l 9), .call fn_spec_l6In [(.l 8), (.c (.int .i64 0)), (.c (.int .i64 65535))], (some ((.l 6), true))⟩, ⟨(.l 10), .pick (.l 6) (.l 9) (.c (.bool false)), none⟩, ⟨(.l 11), .mv (.l 10), none⟩, ⟨(.l 12), .faddr 2 (.g 1), (some ((.l 11), true))⟩, ⟨(.l 13), .load false 1 (.l 12), (some ((.l 11), true))⟩, ⟨(.l 14), .call fn_spec_l6In [(.l 13), (.c (.int .i64 1)), (.c (.int .i64 4))], (some ((.l 11), true))⟩, ⟨(.l 15), .pick (.l 11) (.l 14) (.c (.bool false)), none⟩, ⟨(.l 16), .mv (.l 15), none⟩, ⟨(.l 17), .faddr 3 (.g 1), (some ((.l 16), true))⟩, ⟨(.l 18), .load false 1 (.l 17), (some ((.l 16), true))⟩, ⟨(.l 19), .call fn_spec_l3Ok [(.l 18)], (some ((.l 16), true))⟩, ⟨(.l 20), .pick (.l 16) (.l 19) (.c (.bool false)), none⟩, ⟨(.g 2), .mv (.l 20), none⟩])
  (.ret))⟩
theorem ln_spec_l12Init : Linked Tryz.prog fn_spec_l12Init ac_spec_l12Init := ⟨Tryz.f91, _, Tryz.func91, rfl, by kernel_rfl, by kernel_rfl, by kernel_rfl, by kernel_rfl⟩
def ac_spec_PacketGet : AF := ⟨[0, 2, 3, 4, 5, 6, 7, 8, 11, 21, 38, 47, 58], [.c 2 true 4, .t 3],
  .seq (.region [⟨(.g 2), .alloc [(.int .i64 0), (.int .i64 0), (.int .i64 0), .nils], none⟩, ⟨(.g 3), .mv (.c (.int .i64 0)), none⟩])
  (.seq (.seq (.region [⟨(.l 9), .mv (.g 0), none⟩, ⟨(.l 10), .lenStr (.l 9), none⟩, ⟨(.g 11), .bin .lss (.l 10) (.c (.int .i64 12)), none⟩])
  (.cond (.g 11) (.seq (.region [⟨(.l 12), .build [(.int .i64 0), (.int .i64 0), (.int .i64 0), .nils] [], none⟩, ⟨.no, .store 4 (.g 2) (.l 12), none⟩, ⟨(.g 3), .mv (.c (.int .i64 1)), none⟩])
   (.ret))
  (.skip)))
  (.seq (.seq (.region [⟨(.l 13), .mv (.g 0), none⟩, ⟨(.l 14), .call fn_spec_l1At [(.l 13), (.c (.int .i64 8))], none⟩, ⟨(.l 15), .bin .mul (.c (.int .i64 65536)) (.l 14), none⟩, ⟨(.l 16), .mv (.g 0), none⟩, ⟨(.l 17), .call fn_spec_l1At [(.l 16), (.c (.int .i64 10))], none⟩, ⟨(.l 18), .bin .add (.l 15) (.l 17), none⟩, ⟨(.l 19), .mv (.g 0), none⟩, ⟨(.l 20), .call fn_spec_l13Sum [(.l 19)], none⟩, ⟨(.g 21), .bin .neq (.l 18) (.l 20), none⟩])
  (.cond (.g 21) (.seq (.region [⟨(.l 22), .build [(.int .i64 0), (.int .i64 0), (.int .i64 0), .nils] [], none⟩, ⟨.no, .store 4 (.g 2) (.l 22), none⟩, ⟨(.g 3), .mv (.c (.int .i64 2)), none⟩])
   (.ret))
  (.skip)))
  (.seq (.region [⟨(.l 23), .mv (.g 0), none⟩, ⟨(.l 24), .call fn_spec_l1At [(.l 23), (.c (.int .i64 0))], none⟩, ⟨(.l 25), .mv (.g 0), none⟩, ⟨(.l 26), .call fn_spec_l1At [(.l 25), (.c (.int .i64 2))], none⟩, ⟨(.l 27), .mv (.g 0), none⟩, ⟨(.l 28), .call fn_spec_l1At [(.l 27), (.c (.int .i64 4))], none⟩, ⟨(.l 29), .bin .mul (.c (.int .i64 65536)) (.l 28), none⟩, ⟨(.l 30), .mv (.g 0), none⟩, ⟨(.l 31), .call fn_spec_l1At [(.l 30), (.c (.int .i64 6))], none⟩, ⟨(.l 32), .bin .add (.l 29) (.l 31), none⟩, ⟨(.l 33), .lits 3 [], none⟩, ⟨(.l 34), .build [(.int .i64 0), (.int .i64 0), (.int .i64 0), .nils] [(0, 1, (.l 24)), (1, 1, (.l 26)), (2, 1, (.l 32)), (3, 1, (.l 33))], none⟩, ⟨(.g 4), .alloc [(.int .i64 0), (.int .i64 0), (.int .i64 0), .nils], none⟩, ⟨.no, .store 4 (.g 4) (.l 34), none⟩])
  (.seq (.region [⟨(.g 5), .mv (.c (.int .i64 12)), none⟩])
  (.seq (.block 0 (.loop (.seq (.seq (.region [⟨(.l 35), .mv (.g 5), none⟩, ⟨(.l 36), .mv (.g 0), none⟩, ⟨(.l 37), .lenStr (.l 36), none⟩, ⟨(.g 38), .bin .lss (.l 35) (.l 37), none⟩])
    (.cond (.g 38) (.skip)
    (.exit 0)))
    (.block 1 (.seq (.region [⟨(.l 40), .mv (.g 0), none⟩, ⟨(.l 41), .mv (.g 5), none⟩, ⟨(.l 42), .call fn_spec_ChunkGet [(.l 40), (.l 41)], none⟩, ⟨(.l 39), .mv (.l 42), none⟩, ⟨(.l 43), .extract (.l 39) 0, none⟩, ⟨(.l 44), .extract (.l 39) 1, none⟩, ⟨(.l 45), .extract (.l 39) 2, none⟩, ⟨(.g 6), .alloc [(.int .i64 0), (.int .i64 0), (.str [])], none⟩, ⟨.no, .store 3 (.g 6) (.l 43), none⟩, ⟨(.g 7), .mv (.l 44), none⟩, ⟨(.g 8), .mv (.l 45), none⟩])
     (.seq (.seq (.region [⟨(.l 46), .mv (.g 8), none⟩, ⟨(.g 47), .un .not (.l 46), none⟩])
     (.cond (.g 47) (.seq (.region [⟨(.l 48), .build [(.int .i64 0), (.int .i64 0), (.int .i64 0), .nils] [], none⟩, ⟨.no, .store 4 (.g 2) (.l 48), none⟩, ⟨(.g 3), .mv (.c (.int .i64 3)), none⟩])
      (.ret))
     (.skip)))
     (.seq (.region [⟨(.l 49), .faddr 3 (.g 4), none⟩, ⟨(.l 50), .load false 1 (.l 49), none⟩, ⟨(.l 51), .load true 3 (.g 6), none⟩, ⟨(.l 52), .lits 3 [(.l 51)], none⟩, ⟨(.l 53), .append 3 32 (.l 50) (.l 52), none⟩, ⟨(.l 54), .faddr 3 (.g 4), none⟩, ⟨.no, .store 1 (.l 54) (.l 53), none⟩])
     (.region [⟨(.l 55), .mv (.g 7), none⟩, ⟨(.g 5), .mv (.l 55), none⟩]))))))))
  (.seq (.seq (.region [⟨(.l 56), .load true 4 (.g 4), none⟩, ⟨(.l 57), .call fn_spec_PacketValid [(.l 56)], none⟩, ⟨(.g 58), .un .not (.l 57), none⟩])
  (.cond (.g 58) (.seq (.region [⟨(.l 59), .build [(.int .i64 0), (.int .i64 0), (.int .i64 0), .nils] [], none⟩, ⟨.no, .store 4 (.g 2) (.l 59), none⟩, ⟨(.g 3), .mv (.c (.int .i64 3)), none⟩])
   (.ret))
  (.skip)))
  (.seq (.region [⟨(.l 60), .load true 4 (.g 4), none⟩, ⟨.no, .store 4 (.g 2) (.l 60), none⟩, ⟨(.g 3), .mv (.c (.int .i64 0)), none⟩])
  (.ret))))))))⟩
theorem ln_spec_PacketGet : Linked Tryz.prog fn_spec_PacketGet ac_spec_PacketGet := ⟨Tryz.f92, _, Tryz.func92, rfl, by kernel_rfl, by kernel_rfl, by kernel_rfl, by kernel_rfl⟩
def ac_spec_l32Note : AF := ⟨[0, 1, 2, 4], [.c 4 true 3],
  .seq (.region [⟨(.g 2), .box (.g 0), none⟩, ⟨(.g 4), .alloc [(.int .i64 0), .nils, .nils], none⟩])
  (.seq (.region [⟨(.l 5), .faddr 2 (.g 2), none⟩, ⟨(.l 6), .load false 1 (.l 5), none⟩, ⟨(.l 7), .faddr 0 (.g 2), none⟩, ⟨(.l 8), .load false 1 (.l 7), none⟩, ⟨(.l 9), .bin .sub (.l 8) (.c (.int .i64 1)), none⟩, ⟨(.l 10), .mv (.g 1), none⟩, ⟨(.l 11), .build [(.int .i64 0), (.int .i64 0)] [(0, 1, (.l 9)), (1, 1, (.l 10))], none⟩, ⟨(.l 12), .lits 2 [(.l 11)], none⟩, ⟨(.l 13), .append 2 16 (.l 6) (.l 12), none⟩, ⟨(.l 14), .faddr 2 (.g 2), none⟩, ⟨.no, .store 1 (.l 14) (.l 13), none⟩])
  (.seq (.region [⟨(.l 15), .load true 3 (.g 2), none⟩, ⟨.no, .store 3 (.g 4) (.l 15), none⟩])
  (.ret)))⟩
theorem ln_spec_l32Note : Linked Tryz.prog fn_spec_l32Note ac_spec_l32Note := ⟨Tryz.f93, _, Tryz.func93, rfl, by kernel_rfl, by kernel_rfl, by kernel_rfl, by kernel_rfl⟩
def ac_spec_l32Find : AF := ⟨[0, 1, 2, 3, 6, 7, 12, 23], [.t 6],
  .seq (.region [⟨(.g 3), .box (.g 0), none⟩, ⟨(.g 6), .mv (.c (.int .i64 0)), none⟩])
  (.seq (.seq (.region [⟨(.g 7), .mv (.c (.int .i64 0)), none⟩])
  (.block 0 (.loop (.seq (.seq (.region [⟨(.l 8), .mv (.g 7), none⟩, ⟨(.l 9), .faddr 1 (.g 3), none⟩, ⟨(.l 10), .load false 1 (.l 9), none⟩, ⟨(.l 11), .len (.l 10), none⟩, ⟨(.g 12), .bin .lss (.l 8) (.l 11), none⟩])
    (.cond (.g 12) (.skip)
    (.exit 0)))
    (.seq (.block 1 (.seq (.region [⟨(.l 15), .faddr 1 (.g 3), none⟩, ⟨(.l 16), .load false 1 (.l 15), none⟩, ⟨(.l 17), .mv (.g 7), none⟩, ⟨(.l 18), .elS 14 (.l 16) (.l 17), none⟩, ⟨(.l 19), .load true 14 (.l 18), none⟩, ⟨(.l 20), .mv (.g 1), none⟩, ⟨(.l 21), .mv (.g 2), none⟩, ⟨(.l 22), .build [(.int .i64 0), (.int .i64 0), (.int .i64 0), (.bool false), (.int .i64 0), (.int .i64 0), (.int .i64 0), .nils, (.int .i64 0), (.int .i64 0), (.int .i64 0), (.int .i64 0), .nils, (.int .i64 0)] [(0, 1, (.l 20)), (1, 1, (.l 21))], none⟩, ⟨(.g 23), .call fn_spec_l32Pair [(.l 19), (.l 22)], none⟩])
     (.cond (.g 23) (.seq (.region [⟨(.l 24), .mv (.g 7), none⟩, ⟨(.g 6), .mv (.l 24), none⟩])
      (.ret))
     (.skip))))
    (.region [⟨(.l 13), .mv (.g 7), none⟩, ⟨(.l 14), .bin .add (.l 13) (.c (.int .i64 1)), none⟩, ⟨(.g 7), .mv (.l 14), none⟩]))))))
  (.seq (.region [⟨(.g 6), .mv (.c (.int .i64 (-1))), none⟩])
  (.ret)))⟩
theorem ln_spec_l32Find : Linked Tryz.prog fn_spec_l32Find ac_spec_l32Find := ⟨Tryz.f94, _, Tryz.func94, rfl, by kernel_rfl, by kernel_rfl, by kernel_rfl, by kernel_rfl⟩
def ac_spec_PacketAlone : AF := ⟨[0, 1, 2, 3, 8, 23], [.t 2],
  .seq (.region [⟨(.g 1), .box (.g 0), none⟩, ⟨(.g 2), .mv (.c (.bool false)), none⟩])
  (.seq (.seq (.region [⟨(.g 3), .mv (.c (.int .i64 0)), none⟩])
  (.block 0 (.loop (.seq (.seq (.region [⟨(.l 4), .mv (.g 3), none⟩, ⟨(.l 5), .faddr 3 (.g 1), none⟩, ⟨(.l 6), .load false 1 (.l 5), none⟩, ⟨(.l 7), .len (.l 6), none⟩, ⟨(.g 8), .bin .lss (.l 4) (.l 7), none⟩])
    (.cond (.g 8) (.skip)
    (.exit 0)))
    (.seq (.block 1 (.seq (.region [⟨(.l 11), .faddr 3 (.g 1), none⟩, ⟨(.l 12), .load false 1 (.l 11), none⟩, ⟨(.l 13), .mv (.g 3), none⟩, ⟨(.l 14), .elS 3 (.l 12) (.l 13), none⟩, ⟨(.l 15), .faddr 0 (.l 14), none⟩, ⟨(.l 16), .load false 1 (.l 15), none⟩, ⟨(.l 17), .call fn_spec_l13Alone [(.l 16)], none⟩, ⟨(.l 18), .mv (.l 17), none⟩, ⟨(.l 19), .faddr 3 (.g 1), (some ((.l 18), true))⟩, ⟨(.l 20), .load false 1 (.l 19), (some ((.l 18), true))⟩, ⟨(.l 21), .len (.l 20), (some ((.l 18), true))⟩, ⟨(.l 22), .bin .gtr (.l 21) (.c (.int .i64 1)), (some ((.l 18), true))⟩, ⟨(.g 23), .pick (.l 18) (.l 22) (.c (.bool false)), none⟩])
     (.cond (.g 23) (.seq (.region [⟨(.g 2), .mv (.c (.bool false)), none⟩])
      (.ret))
     (.skip))))
    (.region [⟨(.l 9), .mv (.g 3), none⟩, ⟨(.l 10), .bin .add (.l 9) (.c (.int .i64 1)), none⟩, ⟨(.g 3), .mv (.l 10), none⟩]))))))
  (.seq (.region [⟨(.l 24), .load true 4 (.g 1), none⟩, ⟨(.l 25), .call fn_spec_PacketValid [(.l 24)], none⟩, ⟨(.g 2), .mv (.l 25), none⟩])
  (.ret)))⟩
theorem ln_spec_PacketAlone : Linked Tryz.prog fn_spec_PacketAlone ac_spec_PacketAlone := ⟨Tryz.f95, _, Tryz.func95, rfl, by kernel_rfl, by kernel_rfl, by kernel_rfl, by kernel_rfl⟩
def ac_spec_InitGet : AF := ⟨[0, 1, 2, 3, 4, 23, 45], [.c 2 true 4, .t 3],
  .seq (.region [⟨(.g 1), .box (.g 0), none⟩, ⟨(.g 2), .alloc [(.int .i64 0), (.int .i64 0), (.int .i64 0), (.int .i64 0)], none⟩, ⟨(.g 3), .mv (.c (.bool false)), none⟩])
  (.seq (.seq (.region [⟨(.l 5), .faddr 0 (.g 1), none⟩, ⟨(.l 6), .load false 1 (.l 5), none⟩, ⟨(.l 7), .bin .neq (.l 6) (.c (.int .i64 1)), none⟩, ⟨(.l 8), .mv (.l 7), none⟩, ⟨(.l 9), .faddr 0 (.g 1), (some ((.l 8), true))⟩, ⟨(.l 10), .load false 1 (.l 9), (some ((.l 8), true))⟩, ⟨(.l 11), .bin .neq (.l 10) (.c (.int .i64 2)), (some ((.l 8), true))⟩, ⟨(.l 12), .pick (.l 8) (.l 11) (.c (.bool false)), none⟩, ⟨(.l 13), .mv (.l 12), none⟩, ⟨(.l 14), .faddr 1 (.g 1), (some ((.l 13), false))⟩, ⟨(.l 15), .load false 1 (.l 14), (some ((.l 13), false))⟩, ⟨(.l 16), .bin .neq (.l 15) (.c (.int .i64 0)), (some ((.l 13), false))⟩, ⟨(.l 17), .pick (.l 13) (.c (.bool true)) (.l 16), none⟩, ⟨(.l 18), .mv (.l 17), none⟩, ⟨(.l 19), .faddr 2 (.g 1), (some ((.l 18), false))⟩, ⟨(.l 20), .load false 1 (.l 19), (some ((.l 18), false))⟩, ⟨(.l 21), .lenStr (.l 20), (some ((.l 18), false))⟩, ⟨(.l 22), .bin .neq (.l 21) (.c (.int .i64 10)), (some ((.l 18), false))⟩, ⟨(.g 23), .pick (.l 18) (.c (.bool true)) (.l 22), none⟩])
  (.cond (.g 23) (.seq (.region [⟨(.l 24), .build [(.int .i64 0), (.int .i64 0), (.int .i64 0), (.int .i64 0)] [], none⟩, ⟨.no, .store 4 (.g 2) (.l 24), none⟩, ⟨(.g 3), .mv (.c (.bool false)), none⟩])
   (.ret))
  (.skip)))
  (.seq (.drawn [⟨(.l 25), .faddr 2 (.g 1), none⟩, ⟨(.l 26), .load false 1 (.l 25), none⟩, ⟨(.l 27), .call fn_spec_l1At [(.l 26), (.c (.int .i64 0))], none⟩, ⟨(.l 28), .bin .mul (.c (.int .i64 65536)) (.l 27), none⟩, ⟨(.l 29), .faddr 2 (.g 1), none⟩, ⟨(.l 30), .load false 1 (.l 29), none⟩, ⟨(.l 31), .call fn_spec_l1At [(.l 30), (.c (.int .i64 2))], none⟩, ⟨(.l 32), .bin .add (.l 28) (.l 31), none⟩, ⟨(.l 33), .faddr 2 (.g 1), none⟩, ⟨(.l 34), .load false 1 (.l 33), none⟩, ⟨(.l 35), .call fn_spec_l1At [(.l 34), (.c (.int .i64 4))], none⟩, ⟨(.l 36), .faddr 2 (.g 1), none⟩, ⟨(.l 37), .load false 1 (.l 36), none⟩, ⟨(.l 38), .call fn_spec_l1At [(.l 37), (.c (.int .i64 6))], none⟩, ⟨(.l 39), .faddr 2 (.g 1), none⟩, ⟨(.l 40), .load false 1 (.l 39), none⟩, ⟨(.l 41), .call fn_spec_l1At [(.l 40), (.c (.int .i64 8))], none⟩, ⟨(.l 42), .build [(.int .i64 0), (.int .i64 0), (.int .i64 0), (.int .i64 0)] [(0, 1, (.l 32)), (1, 1, (.l 35)), (2, 1, (.l 38)), (3, 1, (.l 41))], none⟩, ⟨(.g 4), .alloc [(.int .i64 0), (.int .i64 0), (.int .i64 0), (.int .i64 0)], none⟩] [[], [], [], [], [], [2, 1], [], [], [], [6, 5, 2, 1], [], [], [10, 9, 6, 5, 2, 1], [], [], [13, 12, 10, 9, 6, 5, 2, 1], [], [], [16, 15, 13, 12, 10, 9, 6, 5, 2, 1]] [⟨.no, .store 4 (.g 4) (.l 42), none⟩])
  (.seq (.seq (.region [⟨(.l 43), .load true 4 (.g 4), none⟩, ⟨(.l 44), .call fn_spec_l12Init [(.l 43)], none⟩, ⟨(.g 45), .un .not (.l 44), none⟩])
  (.cond (.g 45) (.seq (.region [⟨(.l 46), .build [(.int .i64 0), (.int .i64 0), (.int .i64 0), (.int .i64 0)] [], none⟩, ⟨.no, .store 4 (.g 2) (.l 46), none⟩, ⟨(.g 3), .mv (.c (.bool false)), none⟩])
   (.ret))
  (.skip)))
  (.seq (.region [⟨(.l 47), .load true 4 (.g 4), none⟩, ⟨.no, .store 4 (.g 2) (.l 47), none⟩, ⟨(.g 3), .mv (.c (.bool true)), none⟩])
  (.ret)))))⟩
theorem ln_spec_InitGet : Linked Tryz.prog fn_spec_InitGet ac_spec_InitGet := ⟨Tryz.f96, _, Tryz.func96, rfl, by kernel_rfl, by kernel_rfl, by kernel_rfl, by kernel_rfl⟩
def ac_spec_l32Begin : AF := ⟨[0, 1, 2, 3, 4, 5, 6, 7, 18, 27, 34, 44], [.c 4 true 3],
  .seq (.region [⟨(.g 2), .box (.g 0), none⟩, ⟨(.g 3), .box (.g 1), none⟩, ⟨(.g 4), .alloc [(.int .i64 0), .nils, .nils], none⟩])
  (.seq (.region [⟨(.l 9), .faddr 0 (.g 3), none⟩, ⟨(.l 10), .load false 1 (.l 9), none⟩, ⟨(.l 11), .faddr 1 (.g 3), none⟩, ⟨(.l 12), .load false 1 (.l 11), none⟩, ⟨(.l 13), .build [(.int .i64 0), (.int .i64 0), (.int .i64 0), (.bool false), (.int .i64 0), (.int .i64 0), (.int .i64 0), .nils, (.int .i64 0), (.int .i64 0), (.int .i64 0), (.int .i64 0), .nils, (.int .i64 0)] [(0, 1, (.l 10)), (1, 1, (.l 12))], none⟩, ⟨(.l 14), .load true 4 (.g 3), none⟩, ⟨(.l 15), .call fn_spec_AssocStep [(.l 13), (.l 14)], none⟩, ⟨(.l 8), .mv (.l 15), none⟩, ⟨(.l 16), .extract (.l 8) 0, none⟩, ⟨(.l 17), .extract (.l 8) 1, none⟩, ⟨(.g 5), .alloc [(.int .i64 0), (.int .i64 0), (.int .i64 0), (.bool false), (.int .i64 0), (.int .i64 0), (.int .i64 0), .nils, (.int .i64 0), (.int .i64 0), (.int .i64 0), (.int .i64 0), .nils, (.int .i64 0)], none⟩, ⟨.no, .store 14 (.g 5) (.l 16), none⟩, ⟨(.g 6), .mv (.l 17), none⟩])
  (.seq (.block 0 (.seq (.region [⟨(.l 19), .faddr 3 (.g 3), none⟩, ⟨(.l 20), .load false 1 (.l 19), none⟩, ⟨(.l 21), .elS 3 (.l 20) (.c (.int .i64 0)), none⟩, ⟨(.l 22), .faddr 0 (.l 21), none⟩, ⟨(.l 23), .load false 1 (.l 22), none⟩, ⟨(.l 24), .bin .neq (.l 23) (.c (.int .i64 1)), none⟩, ⟨(.g 18), .mv (.l 24), none⟩])
   (.cond (.g 18) (.seq (.region [⟨(.l 25), .load true 3 (.g 2), none⟩, ⟨(.l 26), .call fn_spec_l32Note [(.l 25), (.c (.int .i64 104))], none⟩, ⟨.no, .store 3 (.g 4) (.l 26), none⟩])
    (.ret))
   (.seq (.region [⟨(.l 28), .mv (.g 6), none⟩, ⟨(.l 29), .len (.l 28), none⟩, ⟨(.l 30), .bin .gtr (.l 29) (.c (.int .i64 0)), none⟩, ⟨(.g 27), .mv (.l 30), none⟩])
    (.cond (.g 27) (.seq (.seq (.region [⟨(.g 7), .mv (.c (.int .i64 0)), none⟩])
     (.block 1 (.loop (.seq (.seq (.region [⟨(.l 31), .mv (.g 7), none⟩, ⟨(.l 32), .mv (.g 6), none⟩, ⟨(.l 33), .len (.l 32), none⟩, ⟨(.g 34), .bin .lss (.l 31) (.l 33), none⟩])
       (.cond (.g 34) (.skip)
       (.exit 1)))
       (.seq (.block 2 (.drawn [⟨(.l 37), .load true 3 (.g 2), none⟩, ⟨(.l 38), .mv (.g 6), none⟩, ⟨(.l 39), .mv (.g 7), none⟩, ⟨(.l 40), .elS 1 (.l 38) (.l 39), none⟩, ⟨(.l 41), .load false 1 (.l 40), none⟩] [[], [], [], [0], [0]] [⟨(.l 42), .call fn_spec_l32Note [(.l 37), (.l 41)], none⟩, ⟨.no, .store 3 (.g 2) (.l 42), none⟩]))
       (.region [⟨(.l 35), .mv (.g 7), none⟩, ⟨(.l 36), .bin .add (.l 35) (.c (.int .i64 1)), none⟩, ⟨(.g 7), .mv (.l 36), none⟩]))))))
     (.seq (.region [⟨(.l 43), .load true 3 (.g 2), none⟩, ⟨.no, .store 3 (.g 4) (.l 43), none⟩])
     (.ret)))
    (.seq (.region [⟨(.l 45), .faddr 1 (.g 2), none⟩, ⟨(.l 46), .load false 1 (.l 45), none⟩, ⟨(.l 47), .len (.l 46), none⟩, ⟨(.l 48), .bin .geq (.l 47) (.c (.int .i64 3)), none⟩, ⟨(.g 44), .mv (.l 48), none⟩])
     (.cond (.g 44) (.seq (.region [⟨(.l 49), .load true 3 (.g 2), none⟩, ⟨(.l 50), .call fn_spec_l32Note [(.l 49), (.c (.int .i64 105))], none⟩, ⟨.no, .store 3 (.g 4) (.l 50), none⟩])
      (.ret))
     (.skip))))))))
  (.seq (.region [⟨(.l 51), .faddr 1 (.g 2), none⟩, ⟨(.l 52), .load false 1 (.l 51), none⟩, ⟨(.l 53), .load true 14 (.g 5), none⟩, ⟨(.l 54), .lits 14 [(.l 53)], none⟩, ⟨(.l 55), .append 14 144 (.l 52) (.l 54), none⟩, ⟨(.l 56), .faddr 1 (.g 2), none⟩, ⟨.no, .store 1 (.l 56) (.l 55), none⟩])
  (.seq (.region [⟨(.l 57), .load true 3 (.g 2), none⟩, ⟨.no, .store 3 (.g 4) (.l 57), none⟩])
  (.ret)))))⟩
theorem ln_spec_l32Begin : Linked Tryz.prog fn_spec_l32Begin ac_spec_l32Begin := ⟨Tryz.f97, _, Tryz.func97, rfl, by kernel_rfl, by kernel_rfl, by kernel_rfl, by kernel_rfl⟩
def ac_spec_AssocStep : AF := ⟨[0, 1, 2, 3, 4, 5, 6, 7, 8, 9, 10, 48, 62, 68, 75], [.c 4 true 14, .t 5],
  .seq (.region [⟨(.g 2), .box (.g 0), none⟩, ⟨(.g 3), .box (.g 1), none⟩, ⟨(.g 4), .alloc [(.int .i64 0), (.int .i64 0), (.int .i64 0), (.bool false), (.int .i64 0), (.int .i64 0), (.int .i64 0), .nils, (.int .i64 0), (.int .i64 0), (.int .i64 0), (.int .i64 0), .nils, (.int .i64 0)], none⟩, ⟨(.g 5), .mv (.c .nils), none⟩])
  (.seq (.region [⟨(.l 11), .faddr 0 (.g 3), none⟩, ⟨(.l 12), .load false 1 (.l 11), none⟩, ⟨(.l 13), .faddr 1 (.g 2), none⟩, ⟨(.l 14), .load false 1 (.l 13), none⟩, ⟨(.l 15), .bin .eql (.l 12) (.l 14), none⟩, ⟨(.l 16), .mv (.l 15), none⟩, ⟨(.l 17), .faddr 1 (.g 3), (some ((.l 16), true))⟩, ⟨(.l 18), .load false 1 (.l 17), (some ((.l 16), true))⟩, ⟨(.l 19), .faddr 0 (.g 2), (some ((.l 16), true))⟩, ⟨(.l 20), .load false 1 (.l 19), (some ((.l 16), true))⟩, ⟨(.l 21), .bin .eql (.l 18) (.l 20), (some ((.l 16), true))⟩, ⟨(.l 22), .pick (.l 16) (.l 21) (.c (.bool false)), none⟩, ⟨(.g 6), .mv (.l 22), none⟩])
  (.seq (.seq (.region [⟨(.l 23), .load true 14 (.g 2), none⟩, ⟨(.l 24), .call fn_spec_AssocValid [(.l 23)], none⟩, ⟨(.l 25), .un .not (.l 24), none⟩, ⟨(.l 26), .mv (.l 25), none⟩, ⟨(.l 27), .load true 4 (.g 3), (some ((.l 26), false))⟩, ⟨(.l 28), .call fn_spec_PacketValid [(.l 27)], (some ((.l 26), false))⟩, ⟨(.l 29), .un .not (.l 28), (some ((.l 26), false))⟩, ⟨(.l 30), .pick (.l 26) (.c (.bool true)) (.l 29), none⟩, ⟨(.l 31), .mv (.l 30), none⟩, ⟨(.l 32), .mv (.g 6), (some ((.l 31), false))⟩, ⟨(.l 33), .un .not (.l 32), (some ((.l 31), false))⟩, ⟨(.l 34), .mv (.l 33), (some ((.l 31), false))⟩, ⟨(.l 35), .faddr 0 (.g 3), (some ((.l 34), true))⟩, ⟨(.l 36), .load false 1 (.l 35), (some ((.l 34), true))⟩, ⟨(.l 37), .faddr 0 (.g 2), (some ((.l 34), true))⟩, ⟨(.l 38), .load false 1 (.l 37), (some ((.l 34), true))⟩, ⟨(.l 39), .bin .neq (.l 36) (.l 38), (some ((.l 34), true))⟩, ⟨(.l 40), .mv (.l 39), (some ((.l 34), true))⟩, ⟨(.l 41), .faddr 1 (.g 3), (some ((.l 40), false))⟩, ⟨(.l 42), .load false 1 (.l 41), (some ((.l 40), false))⟩, ⟨(.l 43), .faddr 1 (.g 2), (some ((.l 40), false))⟩, ⟨(.l 44), .load false 1 (.l 43), (some ((.l 40), false))⟩, ⟨(.l 45), .bin .neq (.l 42) (.l 44), (some ((.l 40), false))⟩, ⟨(.l 46), .pick (.l 40) (.c (.bool true)) (.l 45), (some ((.l 34), true))⟩, ⟨(.l 47), .pick (.l 34) (.l 46) (.c (.bool false)), (some ((.l 31), false))⟩, ⟨(.g 48), .pick (.l 31) (.c (.bool true)) (.l 47), none⟩])
  (.cond (.g 48) (.seq (.region [⟨(.l 49), .build [(.int .i64 0), (.int .i64 0), (.int .i64 0), (.bool false), (.int .i64 0), (.int .i64 0), (.int .i64 0), .nils, (.int .i64 0), (.int .i64 0), (.int .i64 0), (.int .i64 0), .nils, (.int .i64 0)] [], none⟩, ⟨(.l 50), .lits 1 [], none⟩, ⟨.no, .store 14 (.g 4) (.l 49), none⟩, ⟨(.g 5), .mv (.l 50), none⟩])
   (.ret))
  (.skip)))
  (.seq (.region [⟨(.l 52), .load true 14 (.g 2), none⟩, ⟨(.l 53), .mv (.g 6), none⟩, ⟨(.l 54), .load true 4 (.g 3), none⟩, ⟨(.l 55), .call fn_spec_l31Step [(.l 52), (.l 53), (.l 54)], none⟩, ⟨(.l 51), .mv (.l 55), none⟩, ⟨(.l 56), .extract (.l 51) 0, none⟩, ⟨(.l 57), .extract (.l 51) 1, none⟩, ⟨(.g 7), .alloc [(.int .i64 0), (.int .i64 0), (.int .i64 0), (.bool false), (.int .i64 0), (.int .i64 0), (.int .i64 0), .nils, (.int .i64 0), (.int .i64 0), (.int .i64 0), (.int .i64 0), .nils, (.int .i64 0)], none⟩, ⟨.no, .store 14 (.g 7) (.l 56), none⟩, ⟨(.g 8), .mv (.l 57), none⟩])
  (.seq (.region [⟨(.l 58), .lits 1 [], none⟩, ⟨(.g 9), .mv (.l 58), none⟩])
  (.seq (.seq (.region [⟨(.g 10), .mv (.c (.int .i64 1)), none⟩])
  (.block 0 (.loop (.seq (.seq (.region [⟨(.l 59), .mv (.g 10), none⟩, ⟨(.l 60), .mv (.g 8), none⟩, ⟨(.l 61), .len (.l 60), none⟩, ⟨(.g 62), .bin .lss (.l 59) (.l 61), none⟩])
    (.cond (.g 62) (.skip)
    (.exit 0)))
    (.seq (.block 1 (.seq (.region [⟨(.l 65), .mv (.g 8), none⟩, ⟨(.l 66), .mv (.g 10), none⟩, ⟨(.l 67), .elS 1 (.l 65) (.l 66), none⟩, ⟨(.g 68), .load false 1 (.l 67), none⟩])
     (.cond (.g 68) (.region [⟨(.l 69), .mv (.g 9), none⟩, ⟨(.l 70), .mv (.g 10), none⟩, ⟨(.l 71), .lits 1 [(.l 70)], none⟩, ⟨(.l 72), .append 1 8 (.l 69) (.l 71), none⟩, ⟨(.g 9), .mv (.l 72), none⟩])
     (.skip))))
    (.region [⟨(.l 63), .mv (.g 10), none⟩, ⟨(.l 64), .bin .add (.l 63) (.c (.int .i64 1)), none⟩, ⟨(.g 10), .mv (.l 64), none⟩]))))))
  (.seq (.seq (.region [⟨(.l 73), .mv (.g 9), none⟩, ⟨(.l 74), .len (.l 73), none⟩, ⟨(.g 75), .bin .gtr (.l 74) (.c (.int .i64 0)), none⟩])
  (.cond (.g 75) (.seq (.region [⟨(.l 76), .load true 14 (.g 2), none⟩, ⟨(.l 77), .call fn_spec_l31Copy [(.l 76)], none⟩, ⟨(.l 78), .mv (.g 9), none⟩, ⟨.no, .store 14 (.g 4) (.l 77), none⟩, ⟨(.g 5), .mv (.l 78), none⟩])
   (.ret))
  (.skip)))
  (.seq (.region [⟨(.l 79), .load true 14 (.g 7), none⟩, ⟨(.l 80), .call fn_spec_l31Copy [(.l 79)], none⟩, ⟨(.l 81), .mv (.g 9), none⟩, ⟨.no, .store 14 (.g 4) (.l 80), none⟩, ⟨(.g 5), .mv (.l 81), none⟩])
  (.ret))))))))⟩
theorem ln_spec_AssocStep : Linked Tryz.prog fn_spec_AssocStep ac_spec_AssocStep := ⟨Tryz.f98, _, Tryz.func98, rfl, by kernel_rfl, by kernel_rfl, by kernel_rfl, by kernel_rfl⟩
def ac_spec_l91Bytes : AF := ⟨[0, 1, 4, 5, 6, 7, 15], [.t 4],
  .seq (.region [⟨(.g 4), .mv (.c (.str [])), none⟩])
  (.seq (.region [⟨(.l 8), .lits 1 [], none⟩, ⟨(.g 5), .mv (.l 8), none⟩])
  (.seq (.region [⟨(.l 9), .mv (.g 0), none⟩, ⟨(.l 10), .mv (.g 1), none⟩, ⟨(.l 11), .bin .add (.l 10) (.c (.int .i64 1)), none⟩, ⟨(.l 12), .call fn_spec_l6Rd_pick [(.l 9), (.l 11)], none⟩, ⟨(.g 6), .mv (.l 12), none⟩])
  (.seq (.seq (.region [⟨(.g 7), .mv (.c (.int .i64 0)), none⟩])
  (.block 0 (.loop (.seq (.seq (.region [⟨(.l 13), .mv (.g 7), none⟩, ⟨(.l 14), .mv (.g 6), none⟩, ⟨(.g 15), .bin .lss (.l 13) (.l 14), none⟩])
    (.cond (.g 15) (.skip)
    (.exit 0)))
    (.seq (.block 1 (.region [⟨(.l 18), .mv (.g 5), none⟩, ⟨(.l 19), .mv (.g 0), none⟩, ⟨(.l 20), .call fn_spec_l6Rd_pick [(.l 19), (.c (.int .i64 16))], none⟩, ⟨(.l 21), .mv (.g 0), none⟩, ⟨(.l 22), .call fn_spec_l6Rd_pick [(.l 21), (.c (.int .i64 18))], none⟩, ⟨(.l 23), .bin .mul (.l 20) (.l 22), none⟩, ⟨(.l 24), .conv .u8 (.l 23), none⟩, ⟨(.l 25), .lits 1 [(.l 24)], none⟩, ⟨(.l 26), .append 1 1 (.l 18) (.l 25), none⟩, ⟨(.g 5), .mv (.l 26), none⟩]))
    (.region [⟨(.l 16), .mv (.g 7), none⟩, ⟨(.l 17), .bin .add (.l 16) (.c (.int .i64 1)), none⟩, ⟨(.g 7), .mv (.l 17), none⟩]))))))
  (.seq (.region [⟨(.l 27), .mv (.g 5), none⟩, ⟨(.l 28), .toStr (.l 27), none⟩, ⟨(.g 4), .mv (.l 28), none⟩])
  (.ret)))))⟩
theorem ln_spec_l91Bytes : Linked Tryz.prog fn_spec_l91Bytes ac_spec_l91Bytes := ⟨Tryz.f99, _, Tryz.func99, rfl, by kernel_rfl, by kernel_rfl, by kernel_rfl, by kernel_rfl⟩
def ac_spec_l6Many : AF := ⟨[0, 1, 4, 5, 7, 10], [.t 4],
  .seq (.region [⟨(.g 4), .mv (.c (.str [])), none⟩])
  (.seq (.region [⟨(.g 5), .mv (.c (.str [])), none⟩])
  (.seq (.block 0 (.loop (.seq (.seq (.region [⟨(.l 6), .mv (.g 1), none⟩, ⟨(.g 7), .bin .gtr (.l 6) (.c (.int .i64 0)), none⟩])
    (.cond (.g 7) (.skip)
    (.exit 0)))
    (.block 1 (.seq (.seq (.region [⟨(.l 8), .mv (.g 1), none⟩, ⟨(.l 9), .bin .rem (.l 8) (.c (.int .i64 2)), none⟩, ⟨(.g 10), .bin .eql (.l 9) (.c (.int .i64 1)), none⟩])
     (.cond (.g 10) (.region [⟨(.l 11), .mv (.g 5), none⟩, ⟨(.l 12), .mv (.g 0), none⟩, ⟨(.l 13), .bin .add (.l 11) (.l 12), none⟩, ⟨(.g 5), .mv (.l 13), none⟩])
     (.skip)))
     (.seq (.region [⟨(.l 14), .mv (.g 0), none⟩, ⟨(.l 15), .mv (.g 0), none⟩, ⟨(.l 16), .bin .add (.l 14) (.l 15), none⟩, ⟨(.g 0), .mv (.l 16), none⟩])
     (.region [⟨(.l 17), .mv (.g 1), none⟩, ⟨(.l 18), .bin .quo (.l 17) (.c (.int .i64 2)), none⟩, ⟨(.g 1), .mv (.l 18), none⟩])))))))
  (.seq (.region [⟨(.l 19), .mv (.g 5), none⟩, ⟨(.g 4), .mv (.l 19), none⟩])
  (.ret))))⟩
theorem ln_spec_l6Many : Linked Tryz.prog fn_spec_l6Many ac_spec_l6Many := ⟨Tryz.f100, _, Tryz.func100, rfl, by kernel_rfl, by kernel_rfl, by kernel_rfl, by kernel_rfl⟩
def ac_spec_l22Same : AF := ⟨[0, 1, 2, 3, 4], [.t 4],
  .seq (.region [⟨(.g 2), .box (.g 0), none⟩, ⟨(.g 3), .box (.g 1), none⟩, ⟨(.g 4), .mv (.c (.bool false)), none⟩])
  (.seq (.region [⟨(.l 5), .faddr 1 (.g 2), none⟩, ⟨(.l 6), .load false 1 (.l 5), none⟩, ⟨(.l 7), .faddr 1 (.g 3), none⟩, ⟨(.l 8), .load false 1 (.l 7), none⟩, ⟨(.l 9), .bin .eql (.l 6) (.l 8), none⟩, ⟨(.l 10), .mv (.l 9), none⟩, ⟨(.l 11), .faddr 2 (.g 2), (some ((.l 10), true))⟩, ⟨(.l 12), .load false 1 (.l 11), (some ((.l 10), true))⟩, ⟨(.l 13), .faddr 2 (.g 3), (some ((.l 10), true))⟩, ⟨(.l 14), .load false 1 (.l 13), (some ((.l 10), true))⟩, ⟨(.l 15), .bin .eql (.l 12) (.l 14), (some ((.l 10), true))⟩, ⟨(.l 16), .pick (.l 10) (.l 15) (.c (.bool false)), none⟩, ⟨(.l 17), .mv (.l 16), none⟩, ⟨(.l 18), .faddr 5 (.g 2), (some ((.l 17), true))⟩, ⟨(.l 19), .load false 1 (.l 18), (some ((.l 17), true))⟩, ⟨(.l 20), .faddr 5 (.g 3), (some ((.l 17), true))⟩, ⟨(.l 21), .load false 1 (.l 20), (some ((.l 17), true))⟩, ⟨(.l 22), .beq false (.l 19) (.l 21), (some ((.l 17), true))⟩, ⟨(.l 23), .pick (.l 17) (.l 22) (.c (.bool false)), none⟩, ⟨(.g 4), .mv (.l 23), none⟩])
  (.ret))⟩
theorem ln_spec_l22Same : Linked Tryz.prog fn_spec_l22Same ac_spec_l22Same := ⟨Tryz.f106, _, Tryz.func106, rfl, by kernel_rfl, by kernel_rfl, by kernel_rfl, by kernel_rfl⟩
def ac_spec_l31Ssn : AF := ⟨[0, 1, 4, 5, 6, 10, 34], [.t 4],
  .seq (.region [⟨(.g 4), .mv (.c (.int .i64 0)), none⟩])
  (.seq (.region [⟨(.g 5), .mv (.c (.int .i64 0)), none⟩])
  (.seq (.seq (.region [⟨(.g 6), .mv (.c (.int .i64 0)), none⟩])
  (.block 0 (.loop (.seq (.seq (.region [⟨(.l 7), .mv (.g 6), none⟩, ⟨(.l 8), .mv (.g 0), none⟩, ⟨(.l 9), .len (.l 8), none⟩, ⟨(.g 10), .bin .lss (.l 7) (.l 9), none⟩])
    (.cond (.g 10) (.skip)
    (.exit 0)))
    (.seq (.block 1 (.seq (.region [⟨(.l 13), .mv (.g 0), none⟩, ⟨(.l 14), .mv (.g 6), none⟩, ⟨(.l 15), .elS 7 (.l 13) (.l 14), none⟩, ⟨(.l 16), .faddr 3 (.l 15), none⟩, ⟨(.l 17), .load false 1 (.l 16), none⟩, ⟨(.l 18), .mv (.l 17), none⟩, ⟨(.l 19), .mv (.g 0), (some ((.l 18), true))⟩, ⟨(.l 20), .mv (.g 6), (some ((.l 18), true))⟩, ⟨(.l 21), .elS 7 (.l 19) (.l 20), (some ((.l 18), true))⟩, ⟨(.l 22), .faddr 5 (.l 21), (some ((.l 18), true))⟩, ⟨(.l 23), .load false 1 (.l 22), (some ((.l 18), true))⟩, ⟨(.l 24), .un .not (.l 23), (some ((.l 18), true))⟩, ⟨(.l 25), .pick (.l 18) (.l 24) (.c (.bool false)), none⟩, ⟨(.l 26), .mv (.l 25), none⟩, ⟨(.l 27), .mv (.g 0), (some ((.l 26), true))⟩, ⟨(.l 28), .mv (.g 6), (some ((.l 26), true))⟩, ⟨(.l 29), .elS 7 (.l 27) (.l 28), (some ((.l 26), true))⟩, ⟨(.l 30), .faddr 1 (.l 29), (some ((.l 26), true))⟩, ⟨(.l 31), .load false 1 (.l 30), (some ((.l 26), true))⟩, ⟨(.l 32), .mv (.g 1), (some ((.l 26), true))⟩, ⟨(.l 33), .bin .eql (.l 31) (.l 32), (some ((.l 26), true))⟩, ⟨(.g 34), .pick (.l 26) (.l 33) (.c (.bool false)), none⟩])
     (.cond (.g 34) (.region [⟨(.l 35), .mv (.g 5), none⟩, ⟨(.l 36), .bin .add (.l 35) (.c (.int .i64 1)), none⟩, ⟨(.g 5), .mv (.l 36), none⟩])
     (.skip))))
    (.region [⟨(.l 11), .mv (.g 6), none⟩, ⟨(.l 12), .bin .add (.l 11) (.c (.int .i64 1)), none⟩, ⟨(.g 6), .mv (.l 12), none⟩]))))))
  (.seq (.region [⟨(.l 37), .mv (.g 5), none⟩, ⟨(.g 4), .mv (.l 37), none⟩])
  (.ret))))⟩
theorem ln_spec_l31Ssn : Linked Tryz.prog fn_spec_l31Ssn ac_spec_l31Ssn := ⟨Tryz.f107, _, Tryz.func107, rfl, by kernel_rfl, by kernel_rfl, by kernel_rfl, by kernel_rfl⟩
def ac_spec_InitPut : AF := ⟨[0, 1, 2, 4, 5, 6, 9, 27], [.c 4 true 3, .t 5],
  .seq (.region [⟨(.g 2), .box (.g 0), none⟩, ⟨(.g 4), .alloc [(.int .i64 0), (.int .i64 0), (.str [])], none⟩, ⟨(.g 5), .mv (.c (.bool false)), none⟩])
  (.seq (.seq (.region [⟨(.l 7), .load true 4 (.g 2), none⟩, ⟨(.l 8), .call fn_spec_l12Init [(.l 7)], none⟩, ⟨(.g 9), .un .not (.l 8), none⟩])
  (.cond (.g 9) (.seq (.region [⟨(.l 10), .build [(.int .i64 0), (.int .i64 0), (.str [])] [], none⟩, ⟨.no, .store 3 (.g 4) (.l 10), none⟩, ⟨(.g 5), .mv (.c (.bool false)), none⟩])
   (.ret))
  (.skip)))
  (.seq (.drawn [⟨(.l 11), .faddr 0 (.g 2), none⟩, ⟨(.l 12), .load false 1 (.l 11), none⟩, ⟨(.l 13), .call fn_spec_l1Long [(.l 12)], none⟩, ⟨(.l 14), .faddr 1 (.g 2), none⟩, ⟨(.l 15), .load false 1 (.l 14), none⟩, ⟨(.l 16), .call fn_spec_l1Word [(.l 15)], none⟩, ⟨(.l 17), .bin .add (.l 13) (.l 16), none⟩, ⟨(.l 18), .faddr 2 (.g 2), none⟩, ⟨(.l 19), .load false 1 (.l 18), none⟩, ⟨(.l 20), .call fn_spec_l1Word [(.l 19)], none⟩, ⟨(.l 21), .bin .add (.l 17) (.l 20), none⟩, ⟨(.l 22), .faddr 3 (.g 2), none⟩, ⟨(.l 23), .load false 1 (.l 22), none⟩, ⟨(.l 24), .call fn_spec_l1Word [(.l 23)], none⟩, ⟨(.l 25), .bin .add (.l 21) (.l 24), none⟩, ⟨(.l 26), .build [(.int .i64 0), (.int .i64 0), (.str [])] [(0, 1, (.c (.int .i64 1))), (2, 1, (.l 25))], none⟩, ⟨(.g 6), .alloc [(.int .i64 0), (.int .i64 0), (.str [])], none⟩] [[], [], [], [], [2, 1], [], [], [], [5, 4, 2, 1], [], [], [], [9, 8, 5, 4, 2, 1], [], [], [], [13, 12, 9, 8, 5, 4, 2, 1]] [⟨.no, .store 3 (.g 6) (.l 26), none⟩])
  (.seq (.seq (.region [⟨(.g 27), .mv (.g 1), none⟩])
  (.cond (.g 27) (.region [⟨(.l 28), .faddr 0 (.g 6), none⟩, ⟨.no, .store 1 (.l 28) (.c (.int .i64 2)), none⟩])
  (.skip)))
  (.seq (.region [⟨(.l 29), .load true 3 (.g 6), none⟩, ⟨.no, .store 3 (.g 4) (.l 29), none⟩, ⟨(.g 5), .mv (.c (.bool true)), none⟩])
  (.ret)))))⟩
theorem ln_spec_InitPut : Linked Tryz.prog fn_spec_InitPut ac_spec_InitPut := ⟨Tryz.f108, _, Tryz.func108, rfl, by kernel_rfl, by kernel_rfl, by kernel_rfl, by kernel_rfl⟩
def ac_spec_l12Bit : AF := ⟨[0, 1, 4, 5], [.t 4],
  .seq (.region [⟨(.g 4), .mv (.c (.int .i64 0)), none⟩])
  (.seq (.seq (.region [⟨(.g 5), .mv (.g 0), none⟩])
  (.cond (.g 5) (.seq (.region [⟨(.l 6), .mv (.g 1), none⟩, ⟨(.g 4), .mv (.l 6), none⟩])
   (.ret))
  (.skip)))
  (.seq (.region [⟨(.g 4), .mv (.c (.int .i64 0)), none⟩])
  (.ret)))⟩
theorem ln_spec_l12Bit : Linked Tryz.prog fn_spec_l12Bit ac_spec_l12Bit := ⟨Tryz.f109, _, Tryz.func109, rfl, by kernel_rfl, by kernel_rfl, by kernel_rfl, by kernel_rfl⟩
def ac_spec_l1Word : AF := ⟨[0, 2], [.t 2],
  .seq (.region [⟨(.g 2), .mv (.c (.str [])), none⟩])
  (.seq (.region [⟨(.l 3), .mv (.g 0), none⟩, ⟨(.l 4), .bin .quo (.l 3) (.c (.int .i64 256)), none⟩, ⟨(.l 5), .conv .u8 (.l 4), none⟩, ⟨(.l 6), .mv (.g 0), none⟩, ⟨(.l 7), .bin .rem (.l 6) (.c (.int .i64 256)), none⟩, ⟨(.l 8), .conv .u8 (.l 7), none⟩, ⟨(.l 9), .lits 1 [(.l 5), (.l 8)], none⟩, ⟨(.l 10), .toStr (.l 9), none⟩, ⟨(.g 2), .mv (.l 10), none⟩])
  (.ret))⟩
theorem ln_spec_l1Word : Linked Tryz.prog fn_spec_l1Word ac_spec_l1Word := ⟨Tryz.f110, _, Tryz.func110, rfl, by kernel_rfl, by kernel_rfl, by kernel_rfl, by kernel_rfl⟩
def ac_spec_l12Sack : AF := ⟨[0, 1, 2, 3, 4, 5, 10, 34], [.t 2],
  .seq (.region [⟨(.g 1), .box (.g 0), none⟩, ⟨(.g 2), .mv (.c (.bool false)), none⟩])
  (.seq (.region [⟨(.g 3), .mv (.c (.int .i64 0)), none⟩])
  (.seq (.seq (.region [⟨(.g 4), .mv (.c (.int .i64 0)), none⟩])
  (.block 0 (.loop (.seq (.seq (.region [⟨(.l 6), .mv (.g 4), none⟩, ⟨(.l 7), .faddr 1 (.g 1), none⟩, ⟨(.l 8), .load false 1 (.l 7), none⟩, ⟨(.l 9), .len (.l 8), none⟩, ⟨(.g 10), .bin .lss (.l 6) (.l 9), none⟩])
    (.cond (.g 10) (.skip)
    (.exit 0)))
    (.seq (.block 1 (.seq (.region [⟨(.l 13), .faddr 1 (.g 1), none⟩, ⟨(.l 14), .load false 1 (.l 13), none⟩, ⟨(.l 15), .mv (.g 4), none⟩, ⟨(.l 16), .elS 2 (.l 14) (.l 15), none⟩, ⟨(.l 17), .load true 2 (.l 16), none⟩, ⟨(.g 5), .alloc [(.int .i64 0), (.int .i64 0)], none⟩, ⟨.no, .store 2 (.g 5) (.l 17), none⟩])
     (.seq (.seq (.region [⟨(.l 18), .faddr 0 (.g 5), none⟩, ⟨(.l 19), .load false 1 (.l 18), none⟩, ⟨(.l 20), .mv (.g 3), none⟩, ⟨(.l 21), .bin .add (.l 20) (.c (.int .i64 2)), none⟩, ⟨(.l 22), .bin .lss (.l 19) (.l 21), none⟩, ⟨(.l 23), .mv (.l 22), none⟩, ⟨(.l 24), .faddr 1 (.g 5), (some ((.l 23), false))⟩, ⟨(.l 25), .load false 1 (.l 24), (some ((.l 23), false))⟩, ⟨(.l 26), .faddr 0 (.g 5), (some ((.l 23), false))⟩, ⟨(.l 27), .load false 1 (.l 26), (some ((.l 23), false))⟩, ⟨(.l 28), .bin .lss (.l 25) (.l 27), (some ((.l 23), false))⟩, ⟨(.l 29), .pick (.l 23) (.c (.bool true)) (.l 28), none⟩, ⟨(.l 30), .mv (.l 29), none⟩, ⟨(.l 31), .faddr 1 (.g 5), (some ((.l 30), false))⟩, ⟨(.l 32), .load false 1 (.l 31), (some ((.l 30), false))⟩, ⟨(.l 33), .bin .gtr (.l 32) (.c (.int .i64 16)), (some ((.l 30), false))⟩, ⟨(.g 34), .pick (.l 30) (.c (.bool true)) (.l 33), none⟩])
     (.cond (.g 34) (.seq (.region [⟨(.g 2), .mv (.c (.bool false)), none⟩])
      (.ret))
     (.skip)))
     (.region [⟨(.l 35), .faddr 1 (.g 5), none⟩, ⟨(.l 36), .load false 1 (.l 35), none⟩, ⟨(.g 3), .mv (.l 36), none⟩]))))
    (.region [⟨(.l 11), .mv (.g 4), none⟩, ⟨(.l 12), .bin .add (.l 11) (.c (.int .i64 1)), none⟩, ⟨(.g 4), .mv (.l 12), none⟩]))))))
  (.seq (.region [⟨(.l 37), .faddr 0 (.g 1), none⟩, ⟨(.l 38), .load false 1 (.l 37), none⟩, ⟨(.l 39), .call fn_spec_l3Ok [(.l 38)], none⟩, ⟨(.l 40), .mv (.l 39), none⟩, ⟨(.l 41), .faddr 1 (.g 1), (some ((.l 40), true))⟩, ⟨(.l 42), .load false 1 (.l 41), (some ((.l 40), true))⟩, ⟨(.l 43), .len (.l 42), (some ((.l 40), true))⟩, ⟨(.l 44), .bin .leq (.l 43) (.c (.int .i64 8)), (some ((.l 40), true))⟩, ⟨(.l 45), .pick (.l 40) (.l 44) (.c (.bool false)), none⟩, ⟨(.g 2), .mv (.l 45), none⟩])
  (.ret))))⟩
theorem ln_spec_l12Sack : Linked Tryz.prog fn_spec_l12Sack ac_spec_l12Sack := ⟨Tryz.f111, _, Tryz.func111, rfl, by kernel_rfl, by kernel_rfl, by kernel_rfl, by kernel_rfl⟩
def ac_spec_ChunkValid : AF := ⟨[0, 1, 2], [.t 2],
  .seq (.region [⟨(.g 1), .box (.g 0), none⟩, ⟨(.g 2), .mv (.c (.bool false)), none⟩])
  (.seq (.region [⟨(.l 3), .faddr 0 (.g 1), none⟩, ⟨(.l 4), .load false 1 (.l 3), none⟩, ⟨(.l 5), .call fn_spec_l6In [(.l 4), (.c (.int .i64 0)), (.c (.int .i64 255))], none⟩, ⟨(.l 6), .mv (.l 5), none⟩, ⟨(.l 7), .faddr 1 (.g 1), (some ((.l 6), true))⟩, ⟨(.l 8), .load false 1 (.l 7), (some ((.l 6), true))⟩, ⟨(.l 9), .call fn_spec_l6In [(.l 8), (.c (.int .i64 0)), (.c (.int .i64 255))], (some ((.l 6), true))⟩, ⟨(.l 10), .pick (.l 6) (.l 9) (.c (.bool false)), none⟩, ⟨(.l 11), .mv (.l 10), none⟩, ⟨(.l 12), .faddr 2 (.g 1), (some ((.l 11), true))⟩, ⟨(.l 13), .load false 1 (.l 12), (some ((.l 11), true))⟩, ⟨(.l 14), .lenStr (.l 13), (some ((.l 11), true))⟩, ⟨(.l 15), .bin .leq (.l 14) (.c (.int .i64 60)), (some ((.l 11), true))⟩, ⟨(.l 16), .pick (.l 11) (.l 15) (.c (.bool false)), none⟩, ⟨(.g 2), .mv (.l 16), none⟩])
  (.ret))⟩
theorem ln_spec_ChunkValid : Linked Tryz.prog fn_spec_ChunkValid ac_spec_ChunkValid := ⟨Tryz.f112, _, Tryz.func112, rfl, by kernel_rfl, by kernel_rfl, by kernel_rfl, by kernel_rfl⟩
def ac_spec_l1Long : AF := ⟨[0, 2], [.t 2],
  .seq (.region [⟨(.g 2), .mv (.c (.str [])), none⟩])
  (.seq (.region [⟨(.l 3), .mv (.g 0), none⟩, ⟨(.l 4), .bin .quo (.l 3) (.c (.int .i64 65536)), none⟩, ⟨(.l 5), .call fn_spec_l1Word [(.l 4)], none⟩, ⟨(.l 6), .mv (.g 0), none⟩, ⟨(.l 7), .bin .rem (.l 6) (.c (.int .i64 65536)), none⟩, ⟨(.l 8), .call fn_spec_l1Word [(.l 7)], none⟩, ⟨(.l 9), .bin .add (.l 5) (.l 8), none⟩, ⟨(.g 2), .mv (.l 9), none⟩])
  (.ret))⟩
theorem ln_spec_l1Long : Linked Tryz.prog fn_spec_l1Long ac_spec_l1Long := ⟨Tryz.f113, _, Tryz.func113, rfl, by kernel_rfl, by kernel_rfl, by kernel_rfl, by kernel_rfl⟩
def ac_spec_l11Put : AF := ⟨[0, 1, 2, 3, 24], [.t 2],
  .seq (.region [⟨(.g 1), .box (.g 0), none⟩, ⟨(.g 2), .mv (.c (.str [])), none⟩])
  (.seq (.drawn [⟨(.l 4), .faddr 0 (.g 1), none⟩, ⟨(.l 5), .load false 1 (.l 4), none⟩, ⟨(.l 6), .conv .u8 (.l 5), none⟩, ⟨(.l 7), .faddr 1 (.g 1), none⟩, ⟨(.l 8), .load false 1 (.l 7), none⟩, ⟨(.l 9), .conv .u8 (.l 8), none⟩, ⟨(.l 10), .lits 1 [(.l 6), (.l 9)], none⟩, ⟨(.l 11), .toStr (.l 10), none⟩, ⟨(.l 12), .faddr 2 (.g 1), none⟩, ⟨(.l 13), .load false 1 (.l 12), none⟩, ⟨(.l 14), .lenStr (.l 13), none⟩, ⟨(.l 15), .bin .add (.c (.int .i64 4)) (.l 14), none⟩, ⟨(.l 16), .call fn_spec_l1Word [(.l 15)], none⟩, ⟨(.l 17), .bin .add (.l 11) (.l 16), none⟩, ⟨(.l 18), .faddr 2 (.g 1), none⟩, ⟨(.l 19), .load false 1 (.l 18), none⟩] [[], [], [], [], [1], [], [], [], [], [7, 6, 4, 1], [], [], [7, 6, 4, 1], [], [], [12, 9, 7, 6, 4, 1]] [⟨(.l 20), .bin .add (.l 17) (.l 19), none⟩, ⟨(.g 3), .mv (.l 20), none⟩])
  (.seq (.block 0 (.loop (.seq (.seq (.region [⟨(.l 21), .mv (.g 3), none⟩, ⟨(.l 22), .lenStr (.l 21), none⟩, ⟨(.l 23), .bin .rem (.l 22) (.c (.int .i64 4)), none⟩, ⟨(.g 24), .bin .neq (.l 23) (.c (.int .i64 0)), none⟩])
    (.cond (.g 24) (.skip)
    (.exit 0)))
    (.block 1 (.region [⟨(.l 25), .mv (.g 3), none⟩, ⟨(.l 26), .bin .add (.l 25) (.c (.str [0])), none⟩, ⟨(.g 3), .mv (.l 26), none⟩])))))
  (.seq (.region [⟨(.l 27), .mv (.g 3), none⟩, ⟨(.g 2), .mv (.l 27), none⟩])
  (.ret))))⟩
theorem ln_spec_l11Put : Linked Tryz.prog fn_spec_l11Put ac_spec_l11Put := ⟨Tryz.f114, _, Tryz.func114, rfl, by kernel_rfl, by kernel_rfl, by kernel_rfl, by kernel_rfl⟩
def ac_spec_l13Sum : AF := ⟨[0, 2], [.t 2],
  .seq (.region [⟨(.g 2), .mv (.c (.int .i64 0)), none⟩])
  (.seq (.drawn [⟨(.l 3), .mv (.g 0), none⟩, ⟨(.l 4), .cutStr (.l 3) none (some (.c (.int .i64 8))), none⟩, ⟨(.l 5), .bin .add (.l 4) (.c (.str [0, 0, 0, 0])), none⟩, ⟨(.l 6), .mv (.g 0), none⟩, ⟨(.l 7), .cutStr (.l 6) (some (.c (.int .i64 12))) none, none⟩] [[], [], [], [], []] [⟨(.l 8), .bin .add (.l 5) (.l 7), none⟩, ⟨(.l 9), .call fn_spec_l2Next [(.c (.int .i64 1)), (.l 8)], none⟩, ⟨(.g 2), .mv (.l 9), none⟩])
  (.ret))⟩
theorem ln_spec_l13Sum : Linked Tryz.prog fn_spec_l13Sum ac_spec_l13Sum := ⟨Tryz.f115, _, Tryz.func115, rfl, by kernel_rfl, by kernel_rfl, by kernel_rfl, by kernel_rfl⟩
def ac_spec_l1At : AF := ⟨[0, 1, 4], [.t 4],
  .seq (.region [⟨(.g 4), .mv (.c (.int .i64 0)), none⟩])
  (.seq (.drawn [⟨(.l 5), .mv (.g 0), none⟩, ⟨(.l 6), .mv (.g 1), none⟩, ⟨(.l 7), .idxStr (.l 5) (.l 6), none⟩, ⟨(.l 8), .conv .i64 (.l 7), none⟩, ⟨(.l 9), .bin .mul (.c (.int .i64 256)) (.l 8), none⟩, ⟨(.l 10), .mv (.g 0), none⟩, ⟨(.l 11), .mv (.g 1), none⟩, ⟨(.l 12), .bin .add (.l 11) (.c (.int .i64 1)), none⟩, ⟨(.l 13), .idxStr (.l 10) (.l 12), none⟩, ⟨(.l 14), .conv .i64 (.l 13), none⟩] [[], [], [], [], [], [], [], [], [], []] [⟨(.l 15), .bin .add (.l 9) (.l 14), none⟩, ⟨(.g 4), .mv (.l 15), none⟩])
  (.ret))⟩
theorem ln_spec_l1At : Linked Tryz.prog fn_spec_l1At ac_spec_l1At := ⟨Tryz.f116, _, Tryz.func116, rfl, by kernel_rfl, by kernel_rfl, by kernel_rfl, by kernel_rfl⟩
def ac_spec_ChunkGet : AF := ⟨[0, 1, 4, 5, 6, 7, 8, 9, 18, 34, 72], [.c 4 true 3, .t 5, .t 6],
  .seq (.region [⟨(.g 4), .alloc [(.int .i64 0), (.int .i64 0), (.str [])], none⟩, ⟨(.g 5), .mv (.c (.int .i64 0)), none⟩, ⟨(.g 6), .mv (.c (.bool false)), none⟩])
  (.seq (.seq (.region [⟨(.l 10), .mv (.g 1), none⟩, ⟨(.l 11), .bin .lss (.l 10) (.c (.int .i64 0)), none⟩, ⟨(.l 12), .mv (.l 11), none⟩, ⟨(.l 13), .mv (.g 1), (some ((.l 12), false))⟩, ⟨(.l 14), .mv (.g 0), (some ((.l 12), false))⟩, ⟨(.l 15), .lenStr (.l 14), (some ((.l 12), false))⟩, ⟨(.l 16), .bin .sub (.l 15) (.c (.int .i64 4)), (some ((.l 12), false))⟩, ⟨(.l 17), .bin .gtr (.l 13) (.l 16), (some ((.l 12), false))⟩, ⟨(.g 18), .pick (.l 12) (.c (.bool true)) (.l 17), none⟩])
  (.cond (.g 18) (.seq (.region [⟨(.l 19), .build [(.int .i64 0), (.int .i64 0), (.str [])] [], none⟩, ⟨.no, .store 3 (.g 4) (.l 19), none⟩, ⟨(.g 5), .mv (.c (.int .i64 0)), none⟩, ⟨(.g 6), .mv (.c (.bool false)), none⟩])
   (.ret))
  (.skip)))
  (.seq (.region [⟨(.l 20), .mv (.g 0), none⟩, ⟨(.l 21), .mv (.g 1), none⟩, ⟨(.l 22), .bin .add (.l 21) (.c (.int .i64 2)), none⟩, ⟨(.l 23), .call fn_spec_l1At [(.l 20), (.l 22)], none⟩, ⟨(.g 7), .mv (.l 23), none⟩])
  (.seq (.seq (.region [⟨(.l 24), .mv (.g 7), none⟩, ⟨(.l 25), .call fn_spec_l6In [(.l 24), (.c (.int .i64 4)), (.c (.int .i64 64))], none⟩, ⟨(.l 26), .un .not (.l 25), none⟩, ⟨(.l 27), .mv (.l 26), none⟩, ⟨(.l 28), .mv (.g 1), (some ((.l 27), false))⟩, ⟨(.l 29), .mv (.g 7), (some ((.l 27), false))⟩, ⟨(.l 30), .bin .add (.l 28) (.l 29), (some ((.l 27), false))⟩, ⟨(.l 31), .mv (.g 0), (some ((.l 27), false))⟩, ⟨(.l 32), .lenStr (.l 31), (some ((.l 27), false))⟩, ⟨(.l 33), .bin .gtr (.l 30) (.l 32), (some ((.l 27), false))⟩, ⟨(.g 34), .pick (.l 27) (.c (.bool true)) (.l 33), none⟩])
  (.cond (.g 34) (.seq (.region [⟨(.l 35), .build [(.int .i64 0), (.int .i64 0), (.str [])] [], none⟩, ⟨.no, .store 3 (.g 4) (.l 35), none⟩, ⟨(.g 5), .mv (.c (.int .i64 0)), none⟩, ⟨(.g 6), .mv (.c (.bool false)), none⟩])
   (.ret))
  (.skip)))
  (.seq (.drawn [⟨(.l 36), .mv (.g 0), none⟩, ⟨(.l 37), .mv (.g 1), none⟩, ⟨(.l 38), .idxStr (.l 36) (.l 37), none⟩, ⟨(.l 39), .conv .i64 (.l 38), none⟩, ⟨(.l 40), .mv (.g 0), none⟩, ⟨(.l 41), .mv (.g 1), none⟩, ⟨(.l 42), .bin .add (.l 41) (.c (.int .i64 1)), none⟩, ⟨(.l 43), .idxStr (.l 40) (.l 42), none⟩, ⟨(.l 44), .conv .i64 (.l 43), none⟩, ⟨(.l 45), .mv (.g 0), none⟩, ⟨(.l 46), .mv (.g 1), none⟩, ⟨(.l 47), .bin .add (.l 46) (.c (.int .i64 4)), none⟩, ⟨(.l 48), .mv (.g 1), none⟩, ⟨(.l 49), .mv (.g 7), none⟩, ⟨(.l 50), .bin .add (.l 48) (.l 49), none⟩, ⟨(.l 51), .cutStr (.l 45) (some (.l 47)) (some (.l 50)), none⟩, ⟨(.l 52), .build [(.int .i64 0), (.int .i64 0), (.str [])] [(0, 1, (.l 39)), (1, 1, (.l 44)), (2, 1, (.l 51))], none⟩, ⟨(.g 8), .alloc [(.int .i64 0), (.int .i64 0), (.str [])], none⟩] [[], [], [], [], [], [], [], [], [], [], [], [], [], [], [], [], [], []] [⟨.no, .store 3 (.g 8) (.l 52), none⟩])
  (.seq (.region [⟨(.l 53), .load true 3 (.g 8), none⟩, ⟨(.l 54), .call fn_spec_l11Put [(.l 53)], none⟩, ⟨(.g 9), .mv (.l 54), none⟩])
  (.seq (.seq (.region [⟨(.l 55), .mv (.g 1), none⟩, ⟨(.l 56), .mv (.g 9), none⟩, ⟨(.l 57), .lenStr (.l 56), none⟩, ⟨(.l 58), .bin .add (.l 55) (.l 57), none⟩, ⟨(.l 59), .mv (.g 0), none⟩, ⟨(.l 60), .lenStr (.l 59), none⟩, ⟨(.l 61), .bin .gtr (.l 58) (.l 60), none⟩, ⟨(.l 62), .mv (.l 61), none⟩, ⟨(.l 63), .mv (.g 0), (some ((.l 62), false))⟩, ⟨(.l 64), .mv (.g 1), (some ((.l 62), false))⟩, ⟨(.l 65), .mv (.g 1), (some ((.l 62), false))⟩, ⟨(.l 66), .mv (.g 9), (some ((.l 62), false))⟩, ⟨(.l 67), .lenStr (.l 66), (some ((.l 62), false))⟩, ⟨(.l 68), .bin .add (.l 65) (.l 67), (some ((.l 62), false))⟩, ⟨(.l 69), .cutStr (.l 63) (some (.l 64)) (some (.l 68)), (some ((.l 62), false))⟩, ⟨(.l 70), .mv (.g 9), (some ((.l 62), false))⟩, ⟨(.l 71), .bin .neq (.l 69) (.l 70), (some ((.l 62), false))⟩, ⟨(.g 72), .pick (.l 62) (.c (.bool true)) (.l 71), none⟩])
  (.cond (.g 72) (.seq (.region [⟨(.l 73), .build [(.int .i64 0), (.int .i64 0), (.str [])] [], none⟩, ⟨.no, .store 3 (.g 4) (.l 73), none⟩, ⟨(.g 5), .mv (.c (.int .i64 0)), none⟩, ⟨(.g 6), .mv (.c (.bool false)), none⟩])
   (.ret))
  (.skip)))
  (.seq (.region [⟨(.l 74), .load true 3 (.g 8), none⟩, ⟨(.l 75), .mv (.g 1), none⟩, ⟨(.l 76), .mv (.g 9), none⟩, ⟨(.l 77), .lenStr (.l 76), none⟩, ⟨(.l 78), .bin .add (.l 75) (.l 77), none⟩, ⟨.no, .store 3 (.g 4) (.l 74), none⟩, ⟨(.g 5), .mv (.l 78), none⟩, ⟨(.g 6), .mv (.c (.bool true)), none⟩])
  (.ret))))))))⟩
theorem ln_spec_ChunkGet : Linked Tryz.prog fn_spec_ChunkGet ac_spec_ChunkGet := ⟨Tryz.f117, _, Tryz.func117, rfl, by kernel_rfl, by kernel_rfl, by kernel_rfl, by kernel_rfl⟩
def ac_spec_l13Alone : AF := ⟨[0, 2], [.t 2],
  .seq (.region [⟨(.g 2), .mv (.c (.bool false)), none⟩])
  (.seq (.region [⟨(.l 3), .mv (.g 0), none⟩, ⟨(.l 4), .bin .eql (.l 3) (.c (.int .i64 1)), none⟩, ⟨(.l 5), .mv (.l 4), none⟩, ⟨(.l 6), .mv (.g 0), (some ((.l 5), false))⟩, ⟨(.l 7), .bin .eql (.l 6) (.c (.int .i64 2)), (some ((.l 5), false))⟩, ⟨(.l 8), .pick (.l 5) (.c (.bool true)) (.l 7), none⟩, ⟨(.l 9), .mv (.l 8), none⟩, ⟨(.l 10), .mv (.g 0), (some ((.l 9), false))⟩, ⟨(.l 11), .bin .eql (.l 10) (.c (.int .i64 14)), (some ((.l 9), false))⟩, ⟨(.l 12), .pick (.l 9) (.c (.bool true)) (.l 11), none⟩, ⟨(.g 2), .mv (.l 12), none⟩])
  (.ret))⟩
theorem ln_spec_l13Alone : Linked Tryz.prog fn_spec_l13Alone ac_spec_l13Alone := ⟨Tryz.f118, _, Tryz.func118, rfl, by kernel_rfl, by kernel_rfl, by kernel_rfl, by kernel_rfl⟩
def ac_spec_l31Step : AF := ⟨[0, 1, 2, 3, 5, 6, 7, 8, 9, 10, 11, 12, 33], [.c 6 true 14, .t 7],
  .seq (.region [⟨(.g 3), .box (.g 0), none⟩, ⟨(.g 5), .box (.g 2), none⟩, ⟨(.g 6), .alloc [(.int .i64 0), (.int .i64 0), (.int .i64 0), (.bool false), (.int .i64 0), (.int .i64 0), (.int .i64 0), .nils, (.int .i64 0), (.int .i64 0), (.int .i64 0), (.int .i64 0), .nils, (.int .i64 0)], none⟩, ⟨(.g 7), .mv (.c .nils), none⟩])
  (.seq (.region [⟨(.l 13), .make 1 1 (.bool false) (.c (.int .i64 12)) (.c (.int .i64 12)), none⟩, ⟨(.g 8), .mv (.l 13), none⟩])
  (.seq (.region [⟨(.l 14), .mv (.g 8), none⟩, ⟨(.l 15), .load true 4 (.g 5), none⟩, ⟨(.l 16), .call fn_spec_PacketAlone [(.l 15)], none⟩, ⟨(.l 17), .un .not (.l 16), none⟩, ⟨(.l 18), .elS 1 (.l 14) (.c (.int .i64 1)), none⟩, ⟨.no, .store 1 (.l 18) (.l 17), none⟩])
  (.seq (.drawn [⟨(.l 19), .mv (.g 8), none⟩, ⟨(.l 20), .faddr 2 (.g 5), none⟩, ⟨(.l 21), .load false 1 (.l 20), none⟩, ⟨(.l 22), .load true 14 (.g 3), none⟩, ⟨(.l 23), .mv (.g 1), none⟩, ⟨(.l 24), .load true 4 (.g 5), none⟩, ⟨(.l 25), .call fn_spec_l31Tag [(.l 22), (.l 23), (.l 24)], none⟩, ⟨(.l 26), .bin .neq (.l 21) (.l 25), none⟩] [[], [], [], [2], [], [3, 2], [2], []] [⟨(.l 27), .elS 1 (.l 19) (.c (.int .i64 2)), none⟩, ⟨.no, .store 1 (.l 27) (.l 26), none⟩])
  (.seq (.region [⟨(.l 28), .load true 14 (.g 3), none⟩, ⟨(.g 9), .alloc [(.int .i64 0), (.int .i64 0), (.int .i64 0), (.bool false), (.int .i64 0), (.int .i64 0), (.int .i64 0), .nils, (.int .i64 0), (.int .i64 0), (.int .i64 0), (.int .i64 0), .nils, (.int .i64 0)], none⟩, ⟨.no, .store 14 (.g 9) (.l 28), none⟩])
  (.seq (.seq (.region [⟨(.g 10), .mv (.c (.int .i64 0)), none⟩])
  (.block 0 (.loop (.seq (.seq (.region [⟨(.l 29), .mv (.g 10), none⟩, ⟨(.l 30), .faddr 3 (.g 5), none⟩, ⟨(.l 31), .load false 1 (.l 30), none⟩, ⟨(.l 32), .len (.l 31), none⟩, ⟨(.g 33), .bin .lss (.l 29) (.l 32), none⟩])
    (.cond (.g 33) (.skip)
    (.exit 0)))
    (.seq (.block 1 (.seq (.drawn [⟨(.l 37), .load true 14 (.g 9), none⟩, ⟨(.l 38), .mv (.g 1), none⟩, ⟨(.l 39), .faddr 3 (.g 5), none⟩, ⟨(.l 40), .load false 1 (.l 39), none⟩, ⟨(.l 41), .mv (.g 10), none⟩, ⟨(.l 42), .elS 3 (.l 40) (.l 41), none⟩, ⟨(.l 43), .load true 3 (.l 42), none⟩, ⟨(.l 44), .call fn_spec_l31Chunk [(.l 37), (.l 38), (.l 43)], none⟩, ⟨(.l 36), .mv (.l 44), none⟩, ⟨(.l 45), .extract (.l 36) 0, none⟩, ⟨(.l 46), .extract (.l 36) 1, none⟩, ⟨(.g 11), .alloc [(.int .i64 0), (.int .i64 0), (.int .i64 0), (.bool false), (.int .i64 0), (.int .i64 0), (.int .i64 0), .nils, (.int .i64 0), (.int .i64 0), (.int .i64 0), (.int .i64 0), .nils, (.int .i64 0)], none⟩, ⟨.no, .store 14 (.g 11) (.l 45), none⟩] [[], [], [], [0], [], [0], [0], [], [], [], [], [7, 6, 5, 3, 0], []] [⟨(.g 12), .mv (.l 46), none⟩])
     (.seq (.region [⟨(.l 47), .mv (.g 8), none⟩, ⟨(.l 48), .mv (.g 12), none⟩, ⟨(.l 49), .elS 1 (.l 47) (.l 48), none⟩, ⟨.no, .store 1 (.l 49) (.c (.bool true)), none⟩])
     (.region [⟨(.l 50), .load true 14 (.g 11), none⟩, ⟨.no, .store 14 (.g 9) (.l 50), none⟩]))))
    (.region [⟨(.l 34), .mv (.g 10), none⟩, ⟨(.l 35), .bin .add (.l 34) (.c (.int .i64 1)), none⟩, ⟨(.g 10), .mv (.l 35), none⟩]))))))
  (.seq (.region [⟨(.l 51), .load true 14 (.g 9), none⟩, ⟨(.l 52), .mv (.g 8), none⟩, ⟨.no, .store 14 (.g 6) (.l 51), none⟩, ⟨(.g 7), .mv (.l 52), none⟩])
  (.ret)))))))⟩
theorem ln_spec_l31Step : Linked Tryz.prog fn_spec_l31Step ac_spec_l31Step := ⟨Tryz.f119, _, Tryz.func119, rfl, by kernel_rfl, by kernel_rfl, by kernel_rfl, by kernel_rfl⟩
def ac_spec_l2Next : AF := ⟨[0, 1, 4, 5, 6, 7, 15], [.t 4],
  .seq (.region [⟨(.g 4), .mv (.c (.int .i64 0)), none⟩])
  (.seq (.region [⟨(.l 8), .mv (.g 0), none⟩, ⟨(.l 9), .bin .rem (.l 8) (.c (.int .i64 65536)), none⟩, ⟨(.g 5), .mv (.l 9), none⟩])
  (.seq (.region [⟨(.l 10), .mv (.g 0), none⟩, ⟨(.l 11), .bin .quo (.l 10) (.c (.int .i64 65536)), none⟩, ⟨(.g 6), .mv (.l 11), none⟩])
  (.seq (.seq (.region [⟨(.g 7), .mv (.c (.int .i64 0)), none⟩])
  (.block 0 (.loop (.seq (.seq (.region [⟨(.l 12), .mv (.g 7), none⟩, ⟨(.l 13), .mv (.g 1), none⟩, ⟨(.l 14), .lenStr (.l 13), none⟩, ⟨(.g 15), .bin .lss (.l 12) (.l 14), none⟩])
    (.cond (.g 15) (.skip)
    (.exit 0)))
    (.seq (.block 1 (.seq (.region [⟨(.l 18), .mv (.g 5), none⟩, ⟨(.l 19), .mv (.g 1), none⟩, ⟨(.l 20), .mv (.g 7), none⟩, ⟨(.l 21), .idxStr (.l 19) (.l 20), none⟩, ⟨(.l 22), .conv .i64 (.l 21), none⟩, ⟨(.l 23), .bin .add (.l 18) (.l 22), none⟩, ⟨(.l 24), .bin .rem (.l 23) (.c (.int .i64 65521)), none⟩, ⟨(.g 5), .mv (.l 24), none⟩])
     (.region [⟨(.l 25), .mv (.g 6), none⟩, ⟨(.l 26), .mv (.g 5), none⟩, ⟨(.l 27), .bin .add (.l 25) (.l 26), none⟩, ⟨(.l 28), .bin .rem (.l 27) (.c (.int .i64 65521)), none⟩, ⟨(.g 6), .mv (.l 28), none⟩])))
    (.region [⟨(.l 16), .mv (.g 7), none⟩, ⟨(.l 17), .bin .add (.l 16) (.c (.int .i64 1)), none⟩, ⟨(.g 7), .mv (.l 17), none⟩]))))))
  (.seq (.region [⟨(.l 29), .mv (.g 6), none⟩, ⟨(.l 30), .bin .mul (.c (.int .i64 65536)) (.l 29), none⟩, ⟨(.l 31), .mv (.g 5), none⟩, ⟨(.l 32), .bin .add (.l 30) (.l 31), none⟩, ⟨(.g 4), .mv (.l 32), none⟩])
  (.ret)))))⟩
theorem ln_spec_l2Next : Linked Tryz.prog fn_spec_l2Next ac_spec_l2Next := ⟨Tryz.f122, _, Tryz.func122, rfl, by kernel_rfl, by kernel_rfl, by kernel_rfl, by kernel_rfl⟩
def ac_spec_l31Tag : AF := ⟨[0, 1, 2, 3, 5, 6, 7, 9, 14, 23], [.t 6],
  .seq (.region [⟨(.g 3), .box (.g 0), none⟩, ⟨(.g 5), .box (.g 2), none⟩, ⟨(.g 6), .mv (.c (.int .i64 0)), none⟩])
  (.seq (.seq (.region [⟨(.g 7), .mv (.c (.int .i64 0)), none⟩])
  (.block 0 (.loop (.seq (.seq (.region [⟨(.l 10), .mv (.g 7), none⟩, ⟨(.l 11), .faddr 3 (.g 5), none⟩, ⟨(.l 12), .load false 1 (.l 11), none⟩, ⟨(.l 13), .len (.l 12), none⟩, ⟨(.g 14), .bin .lss (.l 10) (.l 13), none⟩])
    (.cond (.g 14) (.skip)
    (.exit 0)))
    (.seq (.block 1 (.seq (.region [⟨(.l 17), .faddr 3 (.g 5), none⟩, ⟨(.l 18), .load false 1 (.l 17), none⟩, ⟨(.l 19), .mv (.g 7), none⟩, ⟨(.l 20), .elS 3 (.l 18) (.l 19), none⟩, ⟨(.l 21), .faddr 0 (.l 20), none⟩, ⟨(.l 22), .load false 1 (.l 21), none⟩, ⟨(.g 23), .bin .eql (.l 22) (.c (.int .i64 1)), none⟩])
     (.cond (.g 23) (.seq (.region [⟨(.g 6), .mv (.c (.int .i64 0)), none⟩])
      (.ret))
     (.skip))))
    (.region [⟨(.l 15), .mv (.g 7), none⟩, ⟨(.l 16), .bin .add (.l 15) (.c (.int .i64 1)), none⟩, ⟨(.g 7), .mv (.l 16), none⟩]))))))
  (.seq (.region [⟨(.l 25), .load true 14 (.g 3), none⟩, ⟨(.l 26), .mv (.g 1), none⟩, ⟨(.l 27), .call fn_spec_l31Side [(.l 25), (.l 26)], none⟩, ⟨(.l 24), .mv (.l 27), none⟩, ⟨(.l 28), .extract (.l 24) 0, none⟩, ⟨(.l 29), .extract (.l 24) 1, none⟩, ⟨(.l 8), .alloc [(.int .i64 0), (.int .i64 0), (.int .i64 0), .nils, (.int .i64 0)], none⟩, ⟨(.g 9), .alloc [(.int .i64 0), (.int .i64 0), (.int .i64 0), .nils, (.int .i64 0)], none⟩, ⟨.no, .store 5 (.l 8) (.l 28), none⟩, ⟨.no, .store 5 (.g 9) (.l 29), none⟩])
  (.seq (.region [⟨(.l 30), .faddr 0 (.g 9), none⟩, ⟨(.l 31), .load false 1 (.l 30), none⟩, ⟨(.g 6), .mv (.l 31), none⟩])
  (.ret))))⟩
theorem ln_spec_l31Tag : Linked Tryz.prog fn_spec_l31Tag ac_spec_l31Tag := ⟨Tryz.f123, _, Tryz.func123, rfl, by kernel_rfl, by kernel_rfl, by kernel_rfl, by kernel_rfl⟩
def ac_spec_l31Chunk : AF := ⟨[0, 1, 2, 3, 5, 6, 7, 9, 10, 19, 27, 35], [.c 6 true 14, .t 7],
  .seq (.region [⟨(.g 3), .box (.g 0), none⟩, ⟨(.g 5), .box (.g 2), none⟩, ⟨(.g 6), .alloc [(.int .i64 0), (.int .i64 0), (.int .i64 0), (.bool false), (.int .i64 0), (.int .i64 0), (.int .i64 0), .nils, (.int .i64 0), (.int .i64 0), (.int .i64 0), (.int .i64 0), .nils, (.int .i64 0)], none⟩, ⟨(.g 7), .mv (.c (.int .i64 0)), none⟩])
  (.seq (.seq (.region [⟨(.l 8), .faddr 0 (.g 5), none⟩, ⟨(.g 9), .load false 1 (.l 8), none⟩])
  (.block 0 (.seq (.seq (.region [⟨(.l 11), .bin .eql (.g 9) (.c (.int .i64 1)), none⟩, ⟨(.g 10), .mv (.l 11), none⟩])
   (.cond (.g 10) (.skip)
   (.region [⟨(.l 12), .bin .eql (.g 9) (.c (.int .i64 2)), none⟩, ⟨(.g 10), .mv (.l 12), none⟩])))
   (.cond (.g 10) (.seq (.region [⟨(.l 13), .load true 14 (.g 3), none⟩, ⟨(.l 14), .mv (.g 1), none⟩, ⟨(.l 15), .load true 3 (.g 5), none⟩, ⟨(.l 16), .call fn_spec_l31Init [(.l 13), (.l 14), (.l 15)], none⟩, ⟨(.l 17), .extract (.l 16) 0, none⟩, ⟨(.l 18), .extract (.l 16) 1, none⟩, ⟨.no, .store 14 (.g 6) (.l 17), none⟩, ⟨(.g 7), .mv (.l 18), none⟩])
    (.ret))
   (.seq (.region [⟨(.l 20), .bin .eql (.g 9) (.c (.int .i64 0)), none⟩, ⟨(.g 19), .mv (.l 20), none⟩])
    (.cond (.g 19) (.seq (.region [⟨(.l 21), .load true 14 (.g 3), none⟩, ⟨(.l 22), .mv (.g 1), none⟩, ⟨(.l 23), .load true 3 (.g 5), none⟩, ⟨(.l 24), .call fn_spec_l31Data [(.l 21), (.l 22), (.l 23)], none⟩, ⟨(.l 25), .extract (.l 24) 0, none⟩, ⟨(.l 26), .extract (.l 24) 1, none⟩, ⟨.no, .store 14 (.g 6) (.l 25), none⟩, ⟨(.g 7), .mv (.l 26), none⟩])
     (.ret))
    (.seq (.region [⟨(.l 28), .bin .eql (.g 9) (.c (.int .i64 3)), none⟩, ⟨(.g 27), .mv (.l 28), none⟩])
     (.cond (.g 27) (.seq (.region [⟨(.l 29), .load true 14 (.g 3), none⟩, ⟨(.l 30), .mv (.g 1), none⟩, ⟨(.l 31), .load true 3 (.g 5), none⟩, ⟨(.l 32), .call fn_spec_l31Sack [(.l 29), (.l 30), (.l 31)], none⟩, ⟨(.l 33), .extract (.l 32) 0, none⟩, ⟨(.l 34), .extract (.l 32) 1, none⟩, ⟨.no, .store 14 (.g 6) (.l 33), none⟩, ⟨(.g 7), .mv (.l 34), none⟩])
      (.ret))
     (.seq (.seq (.region [⟨(.l 36), .bin .eql (.g 9) (.c (.int .i64 6)), none⟩, ⟨(.g 35), .mv (.l 36), none⟩])
      (.cond (.g 35) (.skip)
      (.seq (.region [⟨(.l 37), .bin .eql (.g 9) (.c (.int .i64 7)), none⟩, ⟨(.g 35), .mv (.l 37), none⟩])
       (.cond (.g 35) (.skip)
       (.seq (.region [⟨(.l 38), .bin .eql (.g 9) (.c (.int .i64 8)), none⟩, ⟨(.g 35), .mv (.l 38), none⟩])
        (.cond (.g 35) (.skip)
        (.region [⟨(.l 39), .bin .eql (.g 9) (.c (.int .i64 14)), none⟩, ⟨(.g 35), .mv (.l 39), none⟩])))))))
      (.cond (.g 35) (.seq (.region [⟨(.l 40), .load true 14 (.g 3), none⟩, ⟨(.l 41), .mv (.g 1), none⟩, ⟨(.l 42), .faddr 0 (.g 5), none⟩, ⟨(.l 43), .load false 1 (.l 42), none⟩, ⟨(.l 44), .call fn_spec_l31End [(.l 40), (.l 41), (.l 43)], none⟩, ⟨(.l 45), .extract (.l 44) 0, none⟩, ⟨(.l 46), .extract (.l 44) 1, none⟩, ⟨.no, .store 14 (.g 6) (.l 45), none⟩, ⟨(.g 7), .mv (.l 46), none⟩])
       (.ret))
      (.skip)))))))))))
  (.seq (.region [⟨(.l 47), .load true 14 (.g 3), none⟩, ⟨(.l 48), .mv (.g 1), none⟩, ⟨(.l 49), .faddr 0 (.g 5), none⟩, ⟨(.l 50), .load false 1 (.l 49), none⟩, ⟨(.l 51), .call fn_spec_l31Cookie [(.l 47), (.l 48), (.l 50)], none⟩, ⟨(.l 52), .extract (.l 51) 0, none⟩, ⟨(.l 53), .extract (.l 51) 1, none⟩, ⟨.no, .store 14 (.g 6) (.l 52), none⟩, ⟨(.g 7), .mv (.l 53), none⟩])
  (.ret)))⟩
theorem ln_spec_l31Chunk : Linked Tryz.prog fn_spec_l31Chunk ac_spec_l31Chunk := ⟨Tryz.f124, _, Tryz.func124, rfl, by kernel_rfl, by kernel_rfl, by kernel_rfl, by kernel_rfl⟩
def ac_spec_l31Side : AF := ⟨[0, 1, 2, 4, 5, 6], [.c 4 true 5, .c 5 true 5],
  .seq (.region [⟨(.g 2), .box (.g 0), none⟩, ⟨(.g 4), .alloc [(.int .i64 0), (.int .i64 0), (.int .i64 0), .nils, (.int .i64 0)], none⟩, ⟨(.g 5), .alloc [(.int .i64 0), (.int .i64 0), (.int .i64 0), .nils, (.int .i64 0)], none⟩])
  (.seq (.seq (.region [⟨(.g 6), .mv (.g 1), none⟩])
  (.cond (.g 6) (.seq (.drawn [⟨(.l 7), .faddr 9 (.g 2), none⟩, ⟨(.l 8), .load true 5 (.l 7), none⟩, ⟨(.l 9), .faddr 4 (.g 2), none⟩, ⟨(.l 10), .load true 5 (.l 9), none⟩, ⟨.no, .store 5 (.g 4) (.l 8), none⟩] [[], [], [], [1], [3]] [⟨.no, .store 5 (.g 5) (.l 10), none⟩])
   (.ret))
  (.skip)))
  (.seq (.drawn [⟨(.l 11), .faddr 4 (.g 2), none⟩, ⟨(.l 12), .load true 5 (.l 11), none⟩, ⟨(.l 13), .faddr 9 (.g 2), none⟩, ⟨(.l 14), .load true 5 (.l 13), none⟩, ⟨.no, .store 5 (.g 4) (.l 12), none⟩] [[], [], [], [1], [3]] [⟨.no, .store 5 (.g 5) (.l 14), none⟩])
  (.ret)))⟩
theorem ln_spec_l31Side : Linked Tryz.prog fn_spec_l31Side ac_spec_l31Side := ⟨Tryz.f125, _, Tryz.func125, rfl, by kernel_rfl, by kernel_rfl, by kernel_rfl, by kernel_rfl⟩
def ac_spec_l31Init : AF := ⟨[0, 1, 2, 3, 5, 6, 7, 8, 9, 10, 11, 12, 75, 83, 87, 111], [.c 6 true 14, .t 7],
  .seq (.region [⟨(.g 3), .box (.g 0), none⟩, ⟨(.g 5), .box (.g 2), none⟩, ⟨(.g 6), .alloc [(.int .i64 0), (.int .i64 0), (.int .i64 0), (.bool false), (.int .i64 0), (.int .i64 0), (.int .i64 0), .nils, (.int .i64 0), (.int .i64 0), (.int .i64 0), (.int .i64 0), .nils, (.int .i64 0)], none⟩, ⟨(.g 7), .mv (.c (.int .i64 0)), none⟩])
  (.seq (.region [⟨(.l 15), .load true 3 (.g 5), none⟩, ⟨(.l 16), .call fn_spec_InitGet [(.l 15)], none⟩, ⟨(.l 14), .mv (.l 16), none⟩, ⟨(.l 17), .extract (.l 14) 0, none⟩, ⟨(.l 18), .extract (.l 14) 1, none⟩, ⟨(.g 8), .alloc [(.int .i64 0), (.int .i64 0), (.int .i64 0), (.int .i64 0)], none⟩, ⟨.no, .store 4 (.g 8) (.l 17), none⟩, ⟨(.g 9), .mv (.l 18), none⟩])
  (.seq (.region [⟨(.l 19), .faddr 2 (.g 3), none⟩, ⟨(.l 20), .load false 1 (.l 19), none⟩, ⟨(.l 21), .bin .eql (.l 20) (.c (.int .i64 0)), none⟩, ⟨(.l 22), .mv (.l 21), none⟩, ⟨(.l 23), .mv (.g 1), (some ((.l 22), true))⟩, ⟨(.l 24), .un .not (.l 23), (some ((.l 22), true))⟩, ⟨(.l 25), .pick (.l 22) (.l 24) (.c (.bool false)), none⟩, ⟨(.l 26), .mv (.l 25), none⟩, ⟨(.l 27), .faddr 0 (.g 5), (some ((.l 26), true))⟩, ⟨(.l 28), .load false 1 (.l 27), (some ((.l 26), true))⟩, ⟨(.l 29), .bin .eql (.l 28) (.c (.int .i64 1)), (some ((.l 26), true))⟩, ⟨(.l 30), .pick (.l 26) (.l 29) (.c (.bool false)), none⟩, ⟨(.l 31), .mv (.l 30), none⟩, ⟨(.l 32), .faddr 2 (.g 3), (some ((.l 31), false))⟩, ⟨(.l 33), .load false 1 (.l 32), (some ((.l 31), false))⟩, ⟨(.l 34), .bin .eql (.l 33) (.c (.int .i64 1)), (some ((.l 31), false))⟩, ⟨(.l 35), .mv (.l 34), (some ((.l 31), false))⟩, ⟨(.l 36), .mv (.g 1), (some ((.l 35), true))⟩, ⟨(.l 37), .pick (.l 35) (.l 36) (.c (.bool false)), (some ((.l 31), false))⟩, ⟨(.l 38), .mv (.l 37), (some ((.l 31), false))⟩, ⟨(.l 39), .faddr 0 (.g 5), (some ((.l 38), true))⟩, ⟨(.l 40), .load false 1 (.l 39), (some ((.l 38), true))⟩, ⟨(.l 41), .bin .eql (.l 40) (.c (.int .i64 2)), (some ((.l 38), true))⟩, ⟨(.l 42), .pick (.l 38) (.l 41) (.c (.bool false)), (some ((.l 31), false))⟩, ⟨(.l 43), .pick (.l 31) (.c (.bool true)) (.l 42), none⟩, ⟨(.g 10), .mv (.l 43), none⟩])
  (.seq (.region [⟨(.l 44), .faddr 2 (.g 3), none⟩, ⟨(.l 45), .load false 1 (.l 44), none⟩, ⟨(.l 46), .call fn_spec_l6In [(.l 45), (.c (.int .i64 1)), (.c (.int .i64 2))], none⟩, ⟨(.l 47), .mv (.l 46), none⟩, ⟨(.l 48), .mv (.g 1), (some ((.l 47), true))⟩, ⟨(.l 49), .un .not (.l 48), (some ((.l 47), true))⟩, ⟨(.l 50), .pick (.l 47) (.l 49) (.c (.bool false)), none⟩, ⟨(.l 51), .mv (.l 50), none⟩, ⟨(.l 52), .faddr 0 (.g 5), (some ((.l 51), true))⟩, ⟨(.l 53), .load false 1 (.l 52), (some ((.l 51), true))⟩, ⟨(.l 54), .bin .eql (.l 53) (.c (.int .i64 1)), (some ((.l 51), true))⟩, ⟨(.l 55), .pick (.l 51) (.l 54) (.c (.bool false)), none⟩, ⟨(.l 56), .mv (.l 55), none⟩, ⟨(.l 57), .faddr 2 (.g 3), (some ((.l 56), false))⟩, ⟨(.l 58), .load false 1 (.l 57), (some ((.l 56), false))⟩, ⟨(.l 59), .bin .eql (.l 58) (.c (.int .i64 2)), (some ((.l 56), false))⟩, ⟨(.l 60), .mv (.l 59), (some ((.l 56), false))⟩, ⟨(.l 61), .mv (.g 1), (some ((.l 60), true))⟩, ⟨(.l 62), .pick (.l 60) (.l 61) (.c (.bool false)), (some ((.l 56), false))⟩, ⟨(.l 63), .mv (.l 62), (some ((.l 56), false))⟩, ⟨(.l 64), .faddr 0 (.g 5), (some ((.l 63), true))⟩, ⟨(.l 65), .load false 1 (.l 64), (some ((.l 63), true))⟩, ⟨(.l 66), .bin .eql (.l 65) (.c (.int .i64 2)), (some ((.l 63), true))⟩, ⟨(.l 67), .pick (.l 63) (.l 66) (.c (.bool false)), (some ((.l 56), false))⟩, ⟨(.l 68), .pick (.l 56) (.c (.bool true)) (.l 67), none⟩, ⟨(.g 11), .mv (.l 68), none⟩])
  (.seq (.region [⟨(.l 70), .load true 14 (.g 3), none⟩, ⟨(.l 71), .mv (.g 1), none⟩, ⟨(.l 72), .call fn_spec_l31Side [(.l 70), (.l 71)], none⟩, ⟨(.l 69), .mv (.l 72), none⟩, ⟨(.l 73), .extract (.l 69) 0, none⟩, ⟨(.l 74), .extract (.l 69) 1, none⟩, ⟨(.g 12), .alloc [(.int .i64 0), (.int .i64 0), (.int .i64 0), .nils, (.int .i64 0)], none⟩, ⟨(.l 13), .alloc [(.int .i64 0), (.int .i64 0), (.int .i64 0), .nils, (.int .i64 0)], none⟩, ⟨.no, .store 5 (.g 12) (.l 73), none⟩, ⟨.no, .store 5 (.l 13) (.l 74), none⟩])
  (.seq (.block 0 (.seq (.region [⟨(.l 76), .mv (.g 10), none⟩, ⟨(.l 77), .un .not (.l 76), none⟩, ⟨(.l 78), .mv (.l 77), none⟩, ⟨(.l 79), .mv (.g 11), (some ((.l 78), true))⟩, ⟨(.l 80), .un .not (.l 79), (some ((.l 78), true))⟩, ⟨(.l 81), .pick (.l 78) (.l 80) (.c (.bool false)), none⟩, ⟨(.g 75), .mv (.l 81), none⟩])
   (.cond (.g 75) (.seq (.region [⟨(.l 82), .load true 14 (.g 3), none⟩, ⟨.no, .store 14 (.g 6) (.l 82), none⟩, ⟨(.g 7), .mv (.c (.int .i64 3)), none⟩])
    (.ret))
   (.seq (.region [⟨(.l 84), .mv (.g 9), none⟩, ⟨(.l 85), .un .not (.l 84), none⟩, ⟨(.g 83), .mv (.l 85), none⟩])
    (.cond (.g 83) (.seq (.region [⟨(.l 86), .load true 14 (.g 3), none⟩, ⟨.no, .store 14 (.g 6) (.l 86), none⟩, ⟨(.g 7), .mv (.c (.int .i64 4)), none⟩])
     (.ret))
    (.seq (.region [⟨(.l 88), .mv (.g 11), none⟩, ⟨(.l 89), .mv (.l 88), none⟩, ⟨(.l 90), .faddr 0 (.g 8), (some ((.l 89), true))⟩, ⟨(.l 91), .load false 1 (.l 90), (some ((.l 89), true))⟩, ⟨(.l 92), .faddr 0 (.g 12), (some ((.l 89), true))⟩, ⟨(.l 93), .load false 1 (.l 92), (some ((.l 89), true))⟩, ⟨(.l 94), .bin .neq (.l 91) (.l 93), (some ((.l 89), true))⟩, ⟨(.l 95), .mv (.l 94), (some ((.l 89), true))⟩, ⟨(.l 96), .faddr 2 (.g 8), (some ((.l 95), false))⟩, ⟨(.l 97), .load false 1 (.l 96), (some ((.l 95), false))⟩, ⟨(.l 98), .faddr 1 (.g 12), (some ((.l 95), false))⟩, ⟨(.l 99), .load false 1 (.l 98), (some ((.l 95), false))⟩, ⟨(.l 100), .bin .neq (.l 97) (.l 99), (some ((.l 95), false))⟩, ⟨(.l 101), .pick (.l 95) (.c (.bool true)) (.l 100), (some ((.l 89), true))⟩, ⟨(.l 102), .mv (.l 101), (some ((.l 89), true))⟩, ⟨(.l 103), .faddr 3 (.g 8), (some ((.l 102), false))⟩, ⟨(.l 104), .load false 1 (.l 103), (some ((.l 102), false))⟩, ⟨(.l 105), .faddr 2 (.g 12), (some ((.l 102), false))⟩, ⟨(.l 106), .load false 1 (.l 105), (some ((.l 102), false))⟩, ⟨(.l 107), .bin .neq (.l 104) (.l 106), (some ((.l 102), false))⟩, ⟨(.l 108), .pick (.l 102) (.c (.bool true)) (.l 107), (some ((.l 89), true))⟩, ⟨(.l 109), .pick (.l 89) (.l 108) (.c (.bool false)), none⟩, ⟨(.g 87), .mv (.l 109), none⟩])
     (.cond (.g 87) (.seq (.region [⟨(.l 110), .load true 14 (.g 3), none⟩, ⟨.no, .store 14 (.g 6) (.l 110), none⟩, ⟨(.g 7), .mv (.c (.int .i64 7)), none⟩])
      (.ret))
     (.seq (.region [⟨(.l 112), .mv (.g 11), none⟩, ⟨(.g 111), .mv (.l 112), none⟩])
      (.cond (.g 111) (.seq (.region [⟨(.l 113), .load true 14 (.g 3), none⟩, ⟨.no, .store 14 (.g 6) (.l 113), none⟩, ⟨(.g 7), .mv (.c (.int .i64 0)), none⟩])
       (.ret))
      (.skip))))))))))
  (.seq (.region [⟨(.l 114), .faddr 2 (.g 3), none⟩, ⟨(.l 115), .load false 1 (.l 114), none⟩, ⟨(.l 116), .bin .add (.l 115) (.c (.int .i64 1)), none⟩, ⟨(.l 117), .faddr 2 (.g 3), none⟩, ⟨.no, .store 1 (.l 117) (.l 116), none⟩])
  (.seq (.region [⟨(.l 118), .load true 14 (.g 3), none⟩, ⟨(.l 119), .mv (.g 1), none⟩, ⟨(.l 120), .faddr 0 (.g 8), none⟩, ⟨(.l 121), .load false 1 (.l 120), none⟩, ⟨(.l 122), .faddr 2 (.g 8), none⟩, ⟨(.l 123), .load false 1 (.l 122), none⟩, ⟨(.l 124), .faddr 3 (.g 8), none⟩, ⟨(.l 125), .load false 1 (.l 124), none⟩, ⟨(.l 126), .lits 7 [], none⟩, ⟨(.l 127), .build [(.int .i64 0), (.int .i64 0), (.int .i64 0), .nils, (.int .i64 0)] [(0, 1, (.l 121)), (1, 1, (.l 123)), (2, 1, (.l 125)), (3, 1, (.l 126))], none⟩, ⟨(.l 128), .call fn_spec_l31With [(.l 118), (.l 119), (.l 127)], none⟩, ⟨.no, .store 14 (.g 6) (.l 128), none⟩, ⟨(.g 7), .mv (.c (.int .i64 0)), none⟩])
  (.ret))))))))⟩
theorem ln_spec_l31Init : Linked Tryz.prog fn_spec_l31Init ac_spec_l31Init := ⟨Tryz.f126, _, Tryz.func126, rfl, by kernel_rfl, by kernel_rfl, by kernel_rfl, by kernel_rfl⟩
def ac_spec_l31Data : AF := ⟨[0, 1, 2, 3, 5, 6, 7, 8, 9, 10, 12, 13, 14, 15, 30, 61, 65, 69, 83, 88, 92, 99, 104, 111], [.c 6 true 14, .t 7],
  .seq (.region [⟨(.g 3), .box (.g 0), none⟩, ⟨(.g 5), .box (.g 2), none⟩, ⟨(.g 6), .alloc [(.int .i64 0), (.int .i64 0), (.int .i64 0), (.bool false), (.int .i64 0), (.int .i64 0), (.int .i64 0), .nils, (.int .i64 0), (.int .i64 0), (.int .i64 0), (.int .i64 0), .nils, (.int .i64 0)], none⟩, ⟨(.g 7), .mv (.c (.int .i64 0)), none⟩])
  (.seq (.region [⟨(.l 17), .load true 3 (.g 5), none⟩, ⟨(.l 18), .call fn_spec_DataGet [(.l 17)], none⟩, ⟨(.l 16), .mv (.l 18), none⟩, ⟨(.l 19), .extract (.l 16) 0, none⟩, ⟨(.l 20), .extract (.l 16) 1, none⟩, ⟨(.g 8), .alloc [(.int .i64 0), (.int .i64 0), (.int .i64 0), (.bool false), (.bool false), (.bool false), (.str [])], none⟩, ⟨.no, .store 7 (.g 8) (.l 19), none⟩, ⟨(.g 9), .mv (.l 20), none⟩])
  (.seq (.region [⟨(.l 22), .load true 14 (.g 3), none⟩, ⟨(.l 23), .mv (.g 1), none⟩, ⟨(.l 24), .call fn_spec_l31Side [(.l 22), (.l 23)], none⟩, ⟨(.l 21), .mv (.l 24), none⟩, ⟨(.l 25), .extract (.l 21) 0, none⟩, ⟨(.l 26), .extract (.l 21) 1, none⟩, ⟨(.g 10), .alloc [(.int .i64 0), (.int .i64 0), (.int .i64 0), .nils, (.int .i64 0)], none⟩, ⟨(.l 11), .alloc [(.int .i64 0), (.int .i64 0), (.int .i64 0), .nils, (.int .i64 0)], none⟩, ⟨.no, .store 5 (.g 10) (.l 25), none⟩, ⟨.no, .store 5 (.l 11) (.l 26), none⟩])
  (.seq (.region [⟨(.l 27), .faddr 3 (.g 10), none⟩, ⟨(.l 28), .load false 1 (.l 27), none⟩, ⟨(.l 29), .len (.l 28), none⟩, ⟨(.g 12), .mv (.l 29), none⟩])
  (.seq (.region [⟨(.g 13), .mv (.c (.int .i64 0)), none⟩])
  (.seq (.seq (.region [⟨(.g 30), .mv (.g 9), none⟩])
  (.cond (.g 30) (.region [⟨(.l 31), .faddr 0 (.g 8), none⟩, ⟨(.l 32), .load false 1 (.l 31), none⟩, ⟨(.l 33), .faddr 2 (.g 10), none⟩, ⟨(.l 34), .load false 1 (.l 33), none⟩, ⟨(.l 35), .un .neg (.l 34), none⟩, ⟨(.l 36), .call fn_spec_l3Add [(.l 32), (.l 35)], none⟩, ⟨(.g 13), .mv (.l 36), none⟩])
  (.skip)))
  (.seq (.region [⟨(.l 37), .faddr 2 (.g 3), none⟩, ⟨(.l 38), .load false 1 (.l 37), none⟩, ⟨(.l 39), .bin .eql (.l 38) (.c (.int .i64 4)), none⟩, ⟨(.l 40), .mv (.l 39), none⟩, ⟨(.l 41), .faddr 2 (.g 3), (some ((.l 40), false))⟩, ⟨(.l 42), .load false 1 (.l 41), (some ((.l 40), false))⟩, ⟨(.l 43), .bin .eql (.l 42) (.c (.int .i64 3)), (some ((.l 40), false))⟩, ⟨(.l 44), .mv (.l 43), (some ((.l 40), false))⟩, ⟨(.l 45), .mv (.g 1), (some ((.l 44), true))⟩, ⟨(.l 46), .un .not (.l 45), (some ((.l 44), true))⟩, ⟨(.l 47), .pick (.l 44) (.l 46) (.c (.bool false)), (some ((.l 40), false))⟩, ⟨(.l 48), .pick (.l 40) (.c (.bool true)) (.l 47), none⟩, ⟨(.g 14), .mv (.l 48), none⟩])
  (.seq (.region [⟨(.l 49), .mv (.g 14), none⟩, ⟨(.l 50), .mv (.l 49), none⟩, ⟨(.l 51), .faddr 2 (.g 3), (some ((.l 50), false))⟩, ⟨(.l 52), .load false 1 (.l 51), (some ((.l 50), false))⟩, ⟨(.l 53), .bin .eql (.l 52) (.c (.int .i64 5)), (some ((.l 50), false))⟩, ⟨(.l 54), .mv (.l 53), (some ((.l 50), false))⟩, ⟨(.l 55), .mv (.g 1), (some ((.l 54), true))⟩, ⟨(.l 56), .faddr 3 (.g 3), (some ((.l 54), true))⟩, ⟨(.l 57), .load false 1 (.l 56), (some ((.l 54), true))⟩, ⟨(.l 58), .beq true (.l 55) (.l 57), (some ((.l 54), true))⟩, ⟨(.l 59), .pick (.l 54) (.l 58) (.c (.bool false)), (some ((.l 50), false))⟩, ⟨(.l 60), .pick (.l 50) (.c (.bool true)) (.l 59), none⟩, ⟨(.g 15), .mv (.l 60), none⟩])
  (.seq (.block 0 (.seq (.region [⟨(.l 62), .mv (.g 15), none⟩, ⟨(.l 63), .un .not (.l 62), none⟩, ⟨(.g 61), .mv (.l 63), none⟩])
   (.cond (.g 61) (.seq (.region [⟨(.l 64), .load true 14 (.g 3), none⟩, ⟨.no, .store 14 (.g 6) (.l 64), none⟩, ⟨(.g 7), .mv (.c (.int .i64 3)), none⟩])
    (.ret))
   (.seq (.region [⟨(.l 66), .mv (.g 9), none⟩, ⟨(.l 67), .un .not (.l 66), none⟩, ⟨(.g 65), .mv (.l 67), none⟩])
    (.cond (.g 65) (.seq (.region [⟨(.l 68), .load true 14 (.g 3), none⟩, ⟨.no, .store 14 (.g 6) (.l 68), none⟩, ⟨(.g 7), .mv (.c (.int .i64 4)), none⟩])
     (.ret))
    (.seq (.drawn [⟨(.l 70), .mv (.g 13), none⟩, ⟨(.l 71), .mv (.g 12), none⟩, ⟨(.l 72), .bin .lss (.l 70) (.l 71), none⟩, ⟨(.l 73), .mv (.l 72), none⟩, ⟨(.l 74), .faddr 3 (.g 10), (some ((.l 73), true))⟩, ⟨(.l 75), .load false 1 (.l 74), (some ((.l 73), true))⟩, ⟨(.l 76), .mv (.g 13), (some ((.l 73), true))⟩, ⟨(.l 77), .elS 7 (.l 75) (.l 76), (some ((.l 73), true))⟩, ⟨(.l 78), .load true 7 (.l 77), (some ((.l 73), true))⟩, ⟨(.l 79), .load true 7 (.g 8), (some ((.l 73), true))⟩] [[], [], [], [], [], [], [], [], [], [8, 7, 5]] [⟨(.l 80), .eqs true [0, 0, 0, 1, 1, 1, 2] (.l 78) (.l 79), (some ((.l 73), true))⟩, ⟨(.l 81), .pick (.l 73) (.l 80) (.c (.bool false)), none⟩, ⟨(.g 69), .mv (.l 81), none⟩])
     (.cond (.g 69) (.seq (.region [⟨(.l 82), .load true 14 (.g 3), none⟩, ⟨.no, .store 14 (.g 6) (.l 82), none⟩, ⟨(.g 7), .mv (.c (.int .i64 7)), none⟩])
      (.ret))
     (.seq (.region [⟨(.l 84), .mv (.g 13), none⟩, ⟨(.l 85), .mv (.g 12), none⟩, ⟨(.l 86), .bin .lss (.l 84) (.l 85), none⟩, ⟨(.g 83), .mv (.l 86), none⟩])
      (.cond (.g 83) (.seq (.region [⟨(.l 87), .load true 14 (.g 3), none⟩, ⟨.no, .store 14 (.g 6) (.l 87), none⟩, ⟨(.g 7), .mv (.c (.int .i64 0)), none⟩])
       (.ret))
      (.seq (.region [⟨(.l 89), .mv (.g 14), none⟩, ⟨(.l 90), .un .not (.l 89), none⟩, ⟨(.g 88), .mv (.l 90), none⟩])
       (.cond (.g 88) (.seq (.region [⟨(.l 91), .load true 14 (.g 3), none⟩, ⟨.no, .store 14 (.g 6) (.l 91), none⟩, ⟨(.g 7), .mv (.c (.int .i64 3)), none⟩])
        (.ret))
       (.seq (.region [⟨(.l 93), .faddr 1 (.g 8), none⟩, ⟨(.l 94), .load false 1 (.l 93), none⟩, ⟨(.l 95), .faddr 1 (.g 10), none⟩, ⟨(.l 96), .load false 1 (.l 95), none⟩, ⟨(.l 97), .bin .geq (.l 94) (.l 96), none⟩, ⟨(.g 92), .mv (.l 97), none⟩])
        (.cond (.g 92) (.seq (.region [⟨(.l 98), .load true 14 (.g 3), none⟩, ⟨.no, .store 14 (.g 6) (.l 98), none⟩, ⟨(.g 7), .mv (.c (.int .i64 5)), none⟩])
         (.ret))
        (.seq (.region [⟨(.l 100), .mv (.g 13), none⟩, ⟨(.l 101), .mv (.g 12), none⟩, ⟨(.l 102), .bin .gtr (.l 100) (.l 101), none⟩, ⟨(.g 99), .mv (.l 102), none⟩])
         (.cond (.g 99) (.seq (.region [⟨(.l 103), .load true 14 (.g 3), none⟩, ⟨.no, .store 14 (.g 6) (.l 103), none⟩, ⟨(.g 7), .mv (.c (.int .i64 6)), none⟩])
          (.ret))
         (.seq (.region [⟨(.l 105), .faddr 3 (.g 10), none⟩, ⟨(.l 106), .load false 1 (.l 105), none⟩, ⟨(.l 107), .load true 7 (.g 8), none⟩, ⟨(.l 108), .call fn_spec_l31Follows [(.l 106), (.l 107)], none⟩, ⟨(.l 109), .un .not (.l 108), none⟩, ⟨(.g 104), .mv (.l 109), none⟩])
          (.cond (.g 104) (.seq (.region [⟨(.l 110), .load true 14 (.g 3), none⟩, ⟨.no, .store 14 (.g 6) (.l 110), none⟩, ⟨(.g 7), .mv (.c (.int .i64 8)), none⟩])
           (.ret))
          (.seq (.region [⟨(.l 112), .mv (.g 12), none⟩, ⟨(.l 113), .bin .geq (.l 112) (.c (.int .i64 12)), none⟩, ⟨(.g 111), .mv (.l 113), none⟩])
           (.cond (.g 111) (.seq (.region [⟨(.l 114), .load true 14 (.g 3), none⟩, ⟨.no, .store 14 (.g 6) (.l 114), none⟩, ⟨(.g 7), .mv (.c (.int .i64 11)), none⟩])
            (.ret))
           (.skip))))))))))))))))))))
  (.seq (.drawn [⟨(.l 115), .lits 7 [], none⟩, ⟨(.l 116), .faddr 3 (.g 10), none⟩, ⟨(.l 117), .load false 1 (.l 116), none⟩, ⟨(.l 118), .append 7 48 (.l 115) (.l 117), none⟩, ⟨(.l 119), .load true 7 (.g 8), none⟩, ⟨(.l 120), .lits 7 [(.l 119)], none⟩] [[], [], [0], [], [3, 2, 0], [3, 2, 0]] [⟨(.l 121), .append 7 48 (.l 118) (.l 120), none⟩, ⟨(.l 122), .faddr 3 (.g 10), none⟩, ⟨.no, .store 1 (.l 122) (.l 121), none⟩])
  (.seq (.region [⟨(.l 123), .load true 14 (.g 3), none⟩, ⟨(.l 124), .mv (.g 1), none⟩, ⟨(.l 125), .load true 5 (.g 10), none⟩, ⟨(.l 126), .call fn_spec_l31With [(.l 123), (.l 124), (.l 125)], none⟩, ⟨.no, .store 14 (.g 6) (.l 126), none⟩, ⟨(.g 7), .mv (.c (.int .i64 0)), none⟩])
  (.ret)))))))))))⟩
theorem ln_spec_l31Data : Linked Tryz.prog fn_spec_l31Data ac_spec_l31Data := ⟨Tryz.f127, _, Tryz.func127, rfl, by kernel_rfl, by kernel_rfl, by kernel_rfl, by kernel_rfl⟩
def ac_spec_l31Sack : AF := ⟨[0, 1, 2, 3, 5, 6, 7, 8, 9, 11, 12, 13, 25, 31, 45, 69], [.c 6 true 14, .t 7],
  .seq (.region [⟨(.g 3), .box (.g 0), none⟩, ⟨(.g 5), .box (.g 2), none⟩, ⟨(.g 6), .alloc [(.int .i64 0), (.int .i64 0), (.int .i64 0), (.bool false), (.int .i64 0), (.int .i64 0), (.int .i64 0), .nils, (.int .i64 0), (.int .i64 0), (.int .i64 0), (.int .i64 0), .nils, (.int .i64 0)], none⟩, ⟨(.g 7), .mv (.c (.int .i64 0)), none⟩])
  (.seq (.region [⟨(.l 15), .load true 3 (.g 5), none⟩, ⟨(.l 16), .call fn_spec_SackGet [(.l 15)], none⟩, ⟨(.l 14), .mv (.l 16), none⟩, ⟨(.l 17), .extract (.l 14) 0, none⟩, ⟨(.l 18), .extract (.l 14) 1, none⟩, ⟨(.g 8), .alloc [(.int .i64 0), .nils], none⟩, ⟨.no, .store 2 (.g 8) (.l 17), none⟩, ⟨(.g 9), .mv (.l 18), none⟩])
  (.seq (.region [⟨(.l 20), .load true 14 (.g 3), none⟩, ⟨(.l 21), .mv (.g 1), none⟩, ⟨(.l 22), .call fn_spec_l31Side [(.l 20), (.l 21)], none⟩, ⟨(.l 19), .mv (.l 22), none⟩, ⟨(.l 23), .extract (.l 19) 0, none⟩, ⟨(.l 24), .extract (.l 19) 1, none⟩, ⟨(.l 10), .alloc [(.int .i64 0), (.int .i64 0), (.int .i64 0), .nils, (.int .i64 0)], none⟩, ⟨(.g 11), .alloc [(.int .i64 0), (.int .i64 0), (.int .i64 0), .nils, (.int .i64 0)], none⟩, ⟨.no, .store 5 (.l 10) (.l 23), none⟩, ⟨.no, .store 5 (.g 11) (.l 24), none⟩])
  (.seq (.block 0 (.seq (.region [⟨(.l 26), .faddr 2 (.g 3), none⟩, ⟨(.l 27), .load false 1 (.l 26), none⟩, ⟨(.l 28), .call fn_spec_l6In [(.l 27), (.c (.int .i64 4)), (.c (.int .i64 5))], none⟩, ⟨(.l 29), .un .not (.l 28), none⟩, ⟨(.g 25), .mv (.l 29), none⟩])
   (.cond (.g 25) (.seq (.region [⟨(.l 30), .load true 14 (.g 3), none⟩, ⟨.no, .store 14 (.g 6) (.l 30), none⟩, ⟨(.g 7), .mv (.c (.int .i64 3)), none⟩])
    (.ret))
   (.seq (.region [⟨(.l 32), .mv (.g 9), none⟩, ⟨(.l 33), .un .not (.l 32), none⟩, ⟨(.g 31), .mv (.l 33), none⟩])
    (.cond (.g 31) (.seq (.region [⟨(.l 34), .load true 14 (.g 3), none⟩, ⟨.no, .store 14 (.g 6) (.l 34), none⟩, ⟨(.g 7), .mv (.c (.int .i64 4)), none⟩])
     (.ret))
    (.skip))))))
  (.seq (.drawn [⟨(.l 35), .faddr 2 (.g 11), none⟩, ⟨(.l 36), .load false 1 (.l 35), none⟩, ⟨(.l 37), .call fn_spec_l3Add [(.l 36), (.c (.int .i64 (-1)))], none⟩, ⟨(.l 38), .faddr 0 (.g 8), none⟩, ⟨(.l 39), .load false 1 (.l 38), none⟩] [[], [], [], [], [2, 1]] [⟨(.l 40), .call fn_spec_l3Diff [(.l 37), (.l 39)], none⟩, ⟨(.g 12), .mv (.l 40), none⟩])
  (.seq (.region [⟨(.l 41), .mv (.g 12), none⟩, ⟨(.g 13), .mv (.l 41), none⟩])
  (.seq (.seq (.region [⟨(.l 42), .faddr 1 (.g 8), none⟩, ⟨(.l 43), .load false 1 (.l 42), none⟩, ⟨(.l 44), .len (.l 43), none⟩, ⟨(.g 45), .bin .gtr (.l 44) (.c (.int .i64 0)), none⟩])
  (.cond (.g 45) (.region [⟨(.l 46), .mv (.g 12), none⟩, ⟨(.l 47), .faddr 1 (.g 8), none⟩, ⟨(.l 48), .load false 1 (.l 47), none⟩, ⟨(.l 49), .faddr 1 (.g 8), none⟩, ⟨(.l 50), .load false 1 (.l 49), none⟩, ⟨(.l 51), .len (.l 50), none⟩, ⟨(.l 52), .bin .sub (.l 51) (.c (.int .i64 1)), none⟩, ⟨(.l 53), .elS 2 (.l 48) (.l 52), none⟩, ⟨(.l 54), .faddr 1 (.l 53), none⟩, ⟨(.l 55), .load false 1 (.l 54), none⟩, ⟨(.l 56), .bin .add (.l 46) (.l 55), none⟩, ⟨(.g 13), .mv (.l 56), none⟩])
  (.skip)))
  (.seq (.seq (.region [⟨(.l 57), .mv (.g 12), none⟩, ⟨(.l 58), .faddr 3 (.g 11), none⟩, ⟨(.l 59), .load false 1 (.l 58), none⟩, ⟨(.l 60), .len (.l 59), none⟩, ⟨(.l 61), .call fn_spec_l6In [(.l 57), (.c (.int .i64 0)), (.l 60)], none⟩, ⟨(.l 62), .un .not (.l 61), none⟩, ⟨(.l 63), .mv (.l 62), none⟩, ⟨(.l 64), .mv (.g 13), (some ((.l 63), false))⟩, ⟨(.l 65), .faddr 3 (.g 11), (some ((.l 63), false))⟩, ⟨(.l 66), .load false 1 (.l 65), (some ((.l 63), false))⟩, ⟨(.l 67), .len (.l 66), (some ((.l 63), false))⟩, ⟨(.l 68), .bin .gtr (.l 64) (.l 67), (some ((.l 63), false))⟩, ⟨(.g 69), .pick (.l 63) (.c (.bool true)) (.l 68), none⟩])
  (.cond (.g 69) (.seq (.region [⟨(.l 70), .load true 14 (.g 3), none⟩, ⟨.no, .store 14 (.g 6) (.l 70), none⟩, ⟨(.g 7), .mv (.c (.int .i64 9)), none⟩])
   (.ret))
  (.skip)))
  (.seq (.region [⟨(.l 71), .faddr 4 (.g 11), none⟩, ⟨(.l 72), .load false 1 (.l 71), none⟩, ⟨(.l 73), .mv (.g 12), none⟩, ⟨(.l 74), .max (.l 72) (.l 73), none⟩, ⟨(.l 75), .faddr 4 (.g 11), none⟩, ⟨.no, .store 1 (.l 75) (.l 74), none⟩])
  (.seq (.region [⟨(.l 76), .load true 14 (.g 3), none⟩, ⟨(.l 77), .mv (.g 1), none⟩, ⟨(.l 78), .un .not (.l 77), none⟩, ⟨(.l 79), .load true 5 (.g 11), none⟩, ⟨(.l 80), .call fn_spec_l31With [(.l 76), (.l 78), (.l 79)], none⟩, ⟨.no, .store 14 (.g 6) (.l 80), none⟩, ⟨(.g 7), .mv (.c (.int .i64 0)), none⟩])
  (.ret))))))))))⟩
theorem ln_spec_l31Sack : Linked Tryz.prog fn_spec_l31Sack ac_spec_l31Sack := ⟨Tryz.f128, _, Tryz.func128, rfl, by kernel_rfl, by kernel_rfl, by kernel_rfl, by kernel_rfl⟩
def ac_spec_l31End : AF := ⟨[0, 1, 2, 3, 6, 7, 8, 10, 24, 33, 46, 57, 71, 90, 105], [.c 6 true 14, .t 7],
  .seq (.region [⟨(.g 3), .box (.g 0), none⟩, ⟨(.g 6), .alloc [(.int .i64 0), (.int .i64 0), (.int .i64 0), (.bool false), (.int .i64 0), (.int .i64 0), (.int .i64 0), .nils, (.int .i64 0), (.int .i64 0), (.int .i64 0), (.int .i64 0), .nils, (.int .i64 0)], none⟩, ⟨(.g 7), .mv (.c (.int .i64 0)), none⟩])
  (.seq (.region [⟨(.l 12), .load true 14 (.g 3), none⟩, ⟨(.l 13), .mv (.g 1), none⟩, ⟨(.l 14), .call fn_spec_l31Side [(.l 12), (.l 13)], none⟩, ⟨(.l 11), .mv (.l 14), none⟩, ⟨(.l 15), .extract (.l 11) 0, none⟩, ⟨(.l 16), .extract (.l 11) 1, none⟩, ⟨(.g 8), .alloc [(.int .i64 0), (.int .i64 0), (.int .i64 0), .nils, (.int .i64 0)], none⟩, ⟨(.l 9), .alloc [(.int .i64 0), (.int .i64 0), (.int .i64 0), .nils, (.int .i64 0)], none⟩, ⟨.no, .store 5 (.g 8) (.l 15), none⟩, ⟨.no, .store 5 (.l 9) (.l 16), none⟩])
  (.seq (.region [⟨(.l 17), .faddr 4 (.g 8), none⟩, ⟨(.l 18), .load false 1 (.l 17), none⟩, ⟨(.l 19), .faddr 3 (.g 8), none⟩, ⟨(.l 20), .load false 1 (.l 19), none⟩, ⟨(.l 21), .len (.l 20), none⟩, ⟨(.l 22), .bin .eql (.l 18) (.l 21), none⟩, ⟨(.g 10), .mv (.l 22), none⟩])
  (.seq (.block 0 (.seq (.region [⟨(.l 25), .mv (.g 2), none⟩, ⟨(.l 26), .bin .eql (.l 25) (.c (.int .i64 6)), none⟩, ⟨(.l 27), .mv (.l 26), none⟩, ⟨(.l 28), .faddr 2 (.g 3), (some ((.l 27), true))⟩, ⟨(.l 29), .load false 1 (.l 28), (some ((.l 27), true))⟩, ⟨(.l 30), .call fn_spec_l6In [(.l 29), (.c (.int .i64 1)), (.c (.int .i64 6))], (some ((.l 27), true))⟩, ⟨(.l 31), .pick (.l 27) (.l 30) (.c (.bool false)), none⟩, ⟨(.g 24), .mv (.l 31), none⟩])
   (.cond (.g 24) (.region [⟨(.l 32), .faddr 2 (.g 3), none⟩, ⟨.no, .store 1 (.l 32) (.c (.int .i64 7)), none⟩])
   (.seq (.region [⟨(.l 34), .mv (.g 2), none⟩, ⟨(.l 35), .bin .eql (.l 34) (.c (.int .i64 7)), none⟩, ⟨(.l 36), .mv (.l 35), none⟩, ⟨(.l 37), .faddr 2 (.g 3), (some ((.l 36), true))⟩, ⟨(.l 38), .load false 1 (.l 37), (some ((.l 36), true))⟩, ⟨(.l 39), .bin .eql (.l 38) (.c (.int .i64 4)), (some ((.l 36), true))⟩, ⟨(.l 40), .pick (.l 36) (.l 39) (.c (.bool false)), none⟩, ⟨(.l 41), .mv (.l 40), none⟩, ⟨(.l 42), .mv (.g 10), (some ((.l 41), true))⟩, ⟨(.l 43), .un .not (.l 42), (some ((.l 41), true))⟩, ⟨(.l 44), .pick (.l 41) (.l 43) (.c (.bool false)), none⟩, ⟨(.g 33), .mv (.l 44), none⟩])
    (.cond (.g 33) (.seq (.region [⟨(.l 45), .load true 14 (.g 3), none⟩, ⟨.no, .store 14 (.g 6) (.l 45), none⟩, ⟨(.g 7), .mv (.c (.int .i64 10)), none⟩])
     (.ret))
    (.seq (.region [⟨(.l 47), .mv (.g 2), none⟩, ⟨(.l 48), .bin .eql (.l 47) (.c (.int .i64 7)), none⟩, ⟨(.l 49), .mv (.l 48), none⟩, ⟨(.l 50), .faddr 2 (.g 3), (some ((.l 49), true))⟩, ⟨(.l 51), .load false 1 (.l 50), (some ((.l 49), true))⟩, ⟨(.l 52), .bin .eql (.l 51) (.c (.int .i64 4)), (some ((.l 49), true))⟩, ⟨(.l 53), .pick (.l 49) (.l 52) (.c (.bool false)), none⟩, ⟨(.g 46), .mv (.l 53), none⟩])
     (.cond (.g 46) (.seq (.region [⟨(.l 54), .faddr 2 (.g 3), none⟩, ⟨.no, .store 1 (.l 54) (.c (.int .i64 5)), none⟩])
      (.region [⟨(.l 55), .mv (.g 1), none⟩, ⟨(.l 56), .faddr 3 (.g 3), none⟩, ⟨.no, .store 1 (.l 56) (.l 55), none⟩]))
     (.seq (.region [⟨(.l 58), .mv (.g 2), none⟩, ⟨(.l 59), .bin .eql (.l 58) (.c (.int .i64 7)), none⟩, ⟨(.l 60), .mv (.l 59), none⟩, ⟨(.l 61), .faddr 2 (.g 3), (some ((.l 60), true))⟩, ⟨(.l 62), .load false 1 (.l 61), (some ((.l 60), true))⟩, ⟨(.l 63), .call fn_spec_l6In [(.l 62), (.c (.int .i64 5)), (.c (.int .i64 6))], (some ((.l 60), true))⟩, ⟨(.l 64), .pick (.l 60) (.l 63) (.c (.bool false)), none⟩, ⟨(.l 65), .mv (.l 64), none⟩, ⟨(.l 66), .mv (.g 1), (some ((.l 65), true))⟩, ⟨(.l 67), .faddr 3 (.g 3), (some ((.l 65), true))⟩, ⟨(.l 68), .load false 1 (.l 67), (some ((.l 65), true))⟩, ⟨(.l 69), .beq false (.l 66) (.l 68), (some ((.l 65), true))⟩, ⟨(.l 70), .pick (.l 65) (.l 69) (.c (.bool false)), none⟩, ⟨(.g 57), .mv (.l 70), none⟩])
      (.cond (.g 57) (.skip)
      (.seq (.region [⟨(.l 72), .mv (.g 2), none⟩, ⟨(.l 73), .bin .eql (.l 72) (.c (.int .i64 8)), none⟩, ⟨(.l 74), .mv (.l 73), none⟩, ⟨(.l 75), .faddr 2 (.g 3), (some ((.l 74), true))⟩, ⟨(.l 76), .load false 1 (.l 75), (some ((.l 74), true))⟩, ⟨(.l 77), .bin .eql (.l 76) (.c (.int .i64 5)), (some ((.l 74), true))⟩, ⟨(.l 78), .pick (.l 74) (.l 77) (.c (.bool false)), none⟩, ⟨(.l 79), .mv (.l 78), none⟩, ⟨(.l 80), .mv (.g 1), (some ((.l 79), true))⟩, ⟨(.l 81), .faddr 3 (.g 3), (some ((.l 79), true))⟩, ⟨(.l 82), .load false 1 (.l 81), (some ((.l 79), true))⟩, ⟨(.l 83), .beq true (.l 80) (.l 82), (some ((.l 79), true))⟩, ⟨(.l 84), .pick (.l 79) (.l 83) (.c (.bool false)), none⟩, ⟨(.l 85), .mv (.l 84), none⟩, ⟨(.l 86), .mv (.g 10), (some ((.l 85), true))⟩, ⟨(.l 87), .un .not (.l 86), (some ((.l 85), true))⟩, ⟨(.l 88), .pick (.l 85) (.l 87) (.c (.bool false)), none⟩, ⟨(.g 71), .mv (.l 88), none⟩])
       (.cond (.g 71) (.seq (.region [⟨(.l 89), .load true 14 (.g 3), none⟩, ⟨.no, .store 14 (.g 6) (.l 89), none⟩, ⟨(.g 7), .mv (.c (.int .i64 10)), none⟩])
        (.ret))
       (.seq (.region [⟨(.l 91), .mv (.g 2), none⟩, ⟨(.l 92), .bin .eql (.l 91) (.c (.int .i64 8)), none⟩, ⟨(.l 93), .mv (.l 92), none⟩, ⟨(.l 94), .faddr 2 (.g 3), (some ((.l 93), true))⟩, ⟨(.l 95), .load false 1 (.l 94), (some ((.l 93), true))⟩, ⟨(.l 96), .call fn_spec_l6In [(.l 95), (.c (.int .i64 5)), (.c (.int .i64 6))], (some ((.l 93), true))⟩, ⟨(.l 97), .pick (.l 93) (.l 96) (.c (.bool false)), none⟩, ⟨(.l 98), .mv (.l 97), none⟩, ⟨(.l 99), .mv (.g 1), (some ((.l 98), true))⟩, ⟨(.l 100), .faddr 3 (.g 3), (some ((.l 98), true))⟩, ⟨(.l 101), .load false 1 (.l 100), (some ((.l 98), true))⟩, ⟨(.l 102), .beq true (.l 99) (.l 101), (some ((.l 98), true))⟩, ⟨(.l 103), .pick (.l 98) (.l 102) (.c (.bool false)), none⟩, ⟨(.g 90), .mv (.l 103), none⟩])
        (.cond (.g 90) (.region [⟨(.l 104), .faddr 2 (.g 3), none⟩, ⟨.no, .store 1 (.l 104) (.c (.int .i64 6)), none⟩])
        (.seq (.region [⟨(.l 106), .mv (.g 2), none⟩, ⟨(.l 107), .bin .eql (.l 106) (.c (.int .i64 14)), none⟩, ⟨(.l 108), .mv (.l 107), none⟩, ⟨(.l 109), .faddr 2 (.g 3), (some ((.l 108), true))⟩, ⟨(.l 110), .load false 1 (.l 109), (some ((.l 108), true))⟩, ⟨(.l 111), .bin .eql (.l 110) (.c (.int .i64 6)), (some ((.l 108), true))⟩, ⟨(.l 112), .pick (.l 108) (.l 111) (.c (.bool false)), none⟩, ⟨(.l 113), .mv (.l 112), none⟩, ⟨(.l 114), .mv (.g 1), (some ((.l 113), true))⟩, ⟨(.l 115), .faddr 3 (.g 3), (some ((.l 113), true))⟩, ⟨(.l 116), .load false 1 (.l 115), (some ((.l 113), true))⟩, ⟨(.l 117), .beq false (.l 114) (.l 116), (some ((.l 113), true))⟩, ⟨(.l 118), .pick (.l 113) (.l 117) (.c (.bool false)), none⟩, ⟨(.g 105), .mv (.l 118), none⟩])
         (.cond (.g 105) (.region [⟨(.l 119), .faddr 2 (.g 3), none⟩, ⟨.no, .store 1 (.l 119) (.c (.int .i64 7)), none⟩])
         (.seq (.region [⟨(.l 23), .load true 14 (.g 3), none⟩, ⟨.no, .store 14 (.g 6) (.l 23), none⟩, ⟨(.g 7), .mv (.c (.int .i64 3)), none⟩])
          (.ret)))))))))))))))))
  (.seq (.region [⟨(.l 120), .load true 14 (.g 3), none⟩, ⟨.no, .store 14 (.g 6) (.l 120), none⟩, ⟨(.g 7), .mv (.c (.int .i64 0)), none⟩])
  (.ret)))))⟩
theorem ln_spec_l31End : Linked Tryz.prog fn_spec_l31End ac_spec_l31End := ⟨Tryz.f129, _, Tryz.func129, rfl, by kernel_rfl, by kernel_rfl, by kernel_rfl, by kernel_rfl⟩
def ac_spec_l31Cookie : AF := ⟨[0, 1, 2, 3, 6, 7, 9, 25, 37], [.c 6 true 14, .t 7],
  .seq (.region [⟨(.g 3), .box (.g 0), none⟩, ⟨(.g 6), .alloc [(.int .i64 0), (.int .i64 0), (.int .i64 0), (.bool false), (.int .i64 0), (.int .i64 0), (.int .i64 0), .nils, (.int .i64 0), (.int .i64 0), (.int .i64 0), (.int .i64 0), .nils, (.int .i64 0)], none⟩, ⟨(.g 7), .mv (.c (.int .i64 0)), none⟩])
  (.seq (.block 0 (.seq (.region [⟨(.l 10), .mv (.g 2), none⟩, ⟨(.l 11), .bin .eql (.l 10) (.c (.int .i64 10)), none⟩, ⟨(.l 12), .mv (.l 11), none⟩, ⟨(.l 13), .mv (.g 1), (some ((.l 12), true))⟩, ⟨(.l 14), .un .not (.l 13), (some ((.l 12), true))⟩, ⟨(.l 15), .pick (.l 12) (.l 14) (.c (.bool false)), none⟩, ⟨(.l 16), .mv (.l 15), none⟩, ⟨(.l 17), .faddr 2 (.g 3), (some ((.l 16), true))⟩, ⟨(.l 18), .load false 1 (.l 17), (some ((.l 16), true))⟩, ⟨(.l 19), .call fn_spec_l6In [(.l 18), (.c (.int .i64 2)), (.c (.int .i64 4))], (some ((.l 16), true))⟩, ⟨(.l 20), .pick (.l 16) (.l 19) (.c (.bool false)), none⟩, ⟨(.g 9), .mv (.l 20), none⟩])
   (.cond (.g 9) (.region [⟨(.l 21), .faddr 2 (.g 3), none⟩, ⟨(.l 22), .load false 1 (.l 21), none⟩, ⟨(.l 23), .max (.l 22) (.c (.int .i64 3)), none⟩, ⟨(.l 24), .faddr 2 (.g 3), none⟩, ⟨.no, .store 1 (.l 24) (.l 23), none⟩])
   (.seq (.region [⟨(.l 26), .mv (.g 2), none⟩, ⟨(.l 27), .bin .eql (.l 26) (.c (.int .i64 11)), none⟩, ⟨(.l 28), .mv (.l 27), none⟩, ⟨(.l 29), .mv (.g 1), (some ((.l 28), true))⟩, ⟨(.l 30), .pick (.l 28) (.l 29) (.c (.bool false)), none⟩, ⟨(.l 31), .mv (.l 30), none⟩, ⟨(.l 32), .faddr 2 (.g 3), (some ((.l 31), true))⟩, ⟨(.l 33), .load false 1 (.l 32), (some ((.l 31), true))⟩, ⟨(.l 34), .call fn_spec_l6In [(.l 33), (.c (.int .i64 3)), (.c (.int .i64 4))], (some ((.l 31), true))⟩, ⟨(.l 35), .pick (.l 31) (.l 34) (.c (.bool false)), none⟩, ⟨(.g 25), .mv (.l 35), none⟩])
    (.cond (.g 25) (.region [⟨(.l 36), .faddr 2 (.g 3), none⟩, ⟨.no, .store 1 (.l 36) (.c (.int .i64 4)), none⟩])
    (.seq (.region [⟨(.l 38), .mv (.g 2), none⟩, ⟨(.l 39), .bin .eql (.l 38) (.c (.int .i64 4)), none⟩, ⟨(.l 40), .mv (.l 39), none⟩, ⟨(.l 41), .mv (.g 2), (some ((.l 40), false))⟩, ⟨(.l 42), .bin .eql (.l 41) (.c (.int .i64 5)), (some ((.l 40), false))⟩, ⟨(.l 43), .pick (.l 40) (.c (.bool true)) (.l 42), none⟩, ⟨(.l 44), .mv (.l 43), none⟩, ⟨(.l 45), .mv (.g 2), (some ((.l 44), false))⟩, ⟨(.l 46), .bin .eql (.l 45) (.c (.int .i64 9)), (some ((.l 44), false))⟩, ⟨(.l 47), .pick (.l 44) (.c (.bool true)) (.l 46), none⟩, ⟨(.l 48), .mv (.l 47), none⟩, ⟨(.l 49), .faddr 2 (.g 3), (some ((.l 48), true))⟩, ⟨(.l 50), .load false 1 (.l 49), (some ((.l 48), true))⟩, ⟨(.l 51), .call fn_spec_l6In [(.l 50), (.c (.int .i64 3)), (.c (.int .i64 6))], (some ((.l 48), true))⟩, ⟨(.l 52), .pick (.l 48) (.l 51) (.c (.bool false)), none⟩, ⟨(.g 37), .mv (.l 52), none⟩])
     (.cond (.g 37) (.skip)
     (.seq (.region [⟨(.l 8), .load true 14 (.g 3), none⟩, ⟨.no, .store 14 (.g 6) (.l 8), none⟩, ⟨(.g 7), .mv (.c (.int .i64 3)), none⟩])
      (.ret)))))))))
  (.seq (.region [⟨(.l 53), .load true 14 (.g 3), none⟩, ⟨.no, .store 14 (.g 6) (.l 53), none⟩, ⟨(.g 7), .mv (.c (.int .i64 0)), none⟩])
  (.ret)))⟩
theorem ln_spec_l31Cookie : Linked Tryz.prog fn_spec_l31Cookie ac_spec_l31Cookie := ⟨Tryz.f130, _, Tryz.func130, rfl, by kernel_rfl, by kernel_rfl, by kernel_rfl, by kernel_rfl⟩
def ac_spec_l31With : AF := ⟨[0, 1, 2, 3, 5, 6, 7], [.c 6 true 14],
  .seq (.region [⟨(.g 3), .box (.g 0), none⟩, ⟨(.g 5), .box (.g 2), none⟩, ⟨(.g 6), .alloc [(.int .i64 0), (.int .i64 0), (.int .i64 0), (.bool false), (.int .i64 0), (.int .i64 0), (.int .i64 0), .nils, (.int .i64 0), (.int .i64 0), (.int .i64 0), (.int .i64 0), .nils, (.int .i64 0)], none⟩])
  (.seq (.seq (.region [⟨(.g 7), .mv (.g 1), none⟩])
  (.cond (.g 7) (.region [⟨(.l 8), .load true 5 (.g 5), none⟩, ⟨(.l 9), .faddr 9 (.g 3), none⟩, ⟨.no, .store 5 (.l 9) (.l 8), none⟩])
  (.region [⟨(.l 10), .load true 5 (.g 5), none⟩, ⟨(.l 11), .faddr 4 (.g 3), none⟩, ⟨.no, .store 5 (.l 11) (.l 10), none⟩])))
  (.seq (.region [⟨(.l 12), .load true 14 (.g 3), none⟩, ⟨.no, .store 14 (.g 6) (.l 12), none⟩])
  (.ret)))⟩
theorem ln_spec_l31With : Linked Tryz.prog fn_spec_l31With ac_spec_l31With := ⟨Tryz.f131, _, Tryz.func131, rfl, by kernel_rfl, by kernel_rfl, by kernel_rfl, by kernel_rfl⟩
def ac_spec_DataGet : AF := ⟨[0, 1, 2, 3, 4, 19, 52], [.c 2 true 7, .t 3],
  .seq (.region [⟨(.g 1), .box (.g 0), none⟩, ⟨(.g 2), .alloc [(.int .i64 0), (.int .i64 0), (.int .i64 0), (.bool false), (.bool false), (.bool false), (.str [])], none⟩, ⟨(.g 3), .mv (.c (.bool false)), none⟩])
  (.seq (.seq (.region [⟨(.l 5), .faddr 0 (.g 1), none⟩, ⟨(.l 6), .load false 1 (.l 5), none⟩, ⟨(.l 7), .bin .neq (.l 6) (.c (.int .i64 0)), none⟩, ⟨(.l 8), .mv (.l 7), none⟩, ⟨(.l 9), .faddr 1 (.g 1), (some ((.l 8), false))⟩, ⟨(.l 10), .load false 1 (.l 9), (some ((.l 8), false))⟩, ⟨(.l 11), .call fn_spec_l6In [(.l 10), (.c (.int .i64 0)), (.c (.int .i64 7))], (some ((.l 8), false))⟩, ⟨(.l 12), .un .not (.l 11), (some ((.l 8), false))⟩, ⟨(.l 13), .pick (.l 8) (.c (.bool true)) (.l 12), none⟩, ⟨(.l 14), .mv (.l 13), none⟩, ⟨(.l 15), .faddr 2 (.g 1), (some ((.l 14), false))⟩, ⟨(.l 16), .load false 1 (.l 15), (some ((.l 14), false))⟩, ⟨(.l 17), .lenStr (.l 16), (some ((.l 14), false))⟩, ⟨(.l 18), .bin .lss (.l 17) (.c (.int .i64 6)), (some ((.l 14), false))⟩, ⟨(.g 19), .pick (.l 14) (.c (.bool true)) (.l 18), none⟩])
  (.cond (.g 19) (.seq (.region [⟨(.l 20), .build [(.int .i64 0), (.int .i64 0), (.int .i64 0), (.bool false), (.bool false), (.bool false), (.str [])] [], none⟩, ⟨.no, .store 7 (.g 2) (.l 20), none⟩, ⟨(.g 3), .mv (.c (.bool false)), none⟩])
   (.ret))
  (.skip)))
  (.seq (.drawn [⟨(.l 21), .faddr 2 (.g 1), none⟩, ⟨(.l 22), .load false 1 (.l 21), none⟩, ⟨(.l 23), .call fn_spec_l1At [(.l 22), (.c (.int .i64 0))], none⟩, ⟨(.l 24), .faddr 2 (.g 1), none⟩, ⟨(.l 25), .load false 1 (.l 24), none⟩, ⟨(.l 26), .call fn_spec_l1At [(.l 25), (.c (.int .i64 2))], none⟩, ⟨(.l 27), .faddr 2 (.g 1), none⟩, ⟨(.l 28), .load false 1 (.l 27), none⟩, ⟨(.l 29), .call fn_spec_l1At [(.l 28), (.c (.int .i64 4))], none⟩, ⟨(.l 30), .faddr 2 (.g 1), none⟩, ⟨(.l 31), .load false 1 (.l 30), none⟩, ⟨(.l 32), .cutStr (.l 31) (some (.c (.int .i64 6))) none, none⟩, ⟨(.l 33), .build [(.int .i64 0), (.int .i64 0), (.int .i64 0), (.bool false), (.bool false), (.bool false), (.str [])] [(0, 1, (.l 23)), (1, 1, (.l 26)), (2, 1, (.l 29)), (6, 1, (.l 32))], none⟩, ⟨(.g 4), .alloc [(.int .i64 0), (.int .i64 0), (.int .i64 0), (.bool false), (.bool false), (.bool false), (.str [])], none⟩] [[], [], [], [], [2, 1], [], [], [5, 4, 2, 1], [], [], [8, 7, 5, 4, 2, 1], [], [], [10, 8, 7, 5, 4, 2, 1]] [⟨.no, .store 7 (.g 4) (.l 33), none⟩])
  (.seq (.region [⟨(.l 34), .faddr 1 (.g 1), none⟩, ⟨(.l 35), .load false 1 (.l 34), none⟩, ⟨(.l 36), .bin .rem (.l 35) (.c (.int .i64 2)), none⟩, ⟨(.l 37), .bin .eql (.l 36) (.c (.int .i64 1)), none⟩, ⟨(.l 38), .faddr 4 (.g 4), none⟩, ⟨.no, .store 1 (.l 38) (.l 37), none⟩])
  (.seq (.region [⟨(.l 39), .faddr 1 (.g 1), none⟩, ⟨(.l 40), .load false 1 (.l 39), none⟩, ⟨(.l 41), .bin .quo (.l 40) (.c (.int .i64 2)), none⟩, ⟨(.l 42), .bin .rem (.l 41) (.c (.int .i64 2)), none⟩, ⟨(.l 43), .bin .eql (.l 42) (.c (.int .i64 1)), none⟩, ⟨(.l 44), .faddr 3 (.g 4), none⟩, ⟨.no, .store 1 (.l 44) (.l 43), none⟩])
  (.seq (.region [⟨(.l 45), .faddr 1 (.g 1), none⟩, ⟨(.l 46), .load false 1 (.l 45), none⟩, ⟨(.l 47), .bin .quo (.l 46) (.c (.int .i64 4)), none⟩, ⟨(.l 48), .bin .eql (.l 47) (.c (.int .i64 1)), none⟩, ⟨(.l 49), .faddr 5 (.g 4), none⟩, ⟨.no, .store 1 (.l 49) (.l 48), none⟩])
  (.seq (.seq (.region [⟨(.l 50), .load true 7 (.g 4), none⟩, ⟨(.l 51), .call fn_spec_l12Data [(.l 50)], none⟩, ⟨(.g 52), .un .not (.l 51), none⟩])
  (.cond (.g 52) (.seq (.region [⟨(.l 53), .build [(.int .i64 0), (.int .i64 0), (.int .i64 0), (.bool false), (.bool false), (.bool false), (.str [])] [], none⟩, ⟨.no, .store 7 (.g 2) (.l 53), none⟩, ⟨(.g 3), .mv (.c (.bool false)), none⟩])
   (.ret))
  (.skip)))
  (.seq (.region [⟨(.l 54), .load true 7 (.g 4), none⟩, ⟨.no, .store 7 (.g 2) (.l 54), none⟩, ⟨(.g 3), .mv (.c (.bool true)), none⟩])
  (.ret))))))))⟩
theorem ln_spec_DataGet : Linked Tryz.prog fn_spec_DataGet ac_spec_DataGet := ⟨Tryz.f132, _, Tryz.func132, rfl, by kernel_rfl, by kernel_rfl, by kernel_rfl, by kernel_rfl⟩
def ac_spec_SackGet : AF := ⟨[0, 1, 2, 3, 4, 5, 20, 31, 51], [.c 2 true 2, .t 3],
  .seq (.region [⟨(.g 1), .box (.g 0), none⟩, ⟨(.g 2), .alloc [(.int .i64 0), .nils], none⟩, ⟨(.g 3), .mv (.c (.bool false)), none⟩])
  (.seq (.seq (.region [⟨(.l 6), .faddr 0 (.g 1), none⟩, ⟨(.l 7), .load false 1 (.l 6), none⟩, ⟨(.l 8), .bin .neq (.l 7) (.c (.int .i64 3)), none⟩, ⟨(.l 9), .mv (.l 8), none⟩, ⟨(.l 10), .faddr 1 (.g 1), (some ((.l 9), false))⟩, ⟨(.l 11), .load false 1 (.l 10), (some ((.l 9), false))⟩, ⟨(.l 12), .bin .neq (.l 11) (.c (.int .i64 0)), (some ((.l 9), false))⟩, ⟨(.l 13), .pick (.l 9) (.c (.bool true)) (.l 12), none⟩, ⟨(.l 14), .mv (.l 13), none⟩, ⟨(.l 15), .faddr 2 (.g 1), (some ((.l 14), false))⟩, ⟨(.l 16), .load false 1 (.l 15), (some ((.l 14), false))⟩, ⟨(.l 17), .lenStr (.l 16), (some ((.l 14), false))⟩, ⟨(.l 18), .bin .rem (.l 17) (.c (.int .i64 4)), (some ((.l 14), false))⟩, ⟨(.l 19), .bin .neq (.l 18) (.c (.int .i64 2)), (some ((.l 14), false))⟩, ⟨(.g 20), .pick (.l 14) (.c (.bool true)) (.l 19), none⟩])
  (.cond (.g 20) (.seq (.region [⟨(.l 21), .build [(.int .i64 0), .nils] [], none⟩, ⟨.no, .store 2 (.g 2) (.l 21), none⟩, ⟨(.g 3), .mv (.c (.bool false)), none⟩])
   (.ret))
  (.skip)))
  (.seq (.region [⟨(.l 22), .faddr 2 (.g 1), none⟩, ⟨(.l 23), .load false 1 (.l 22), none⟩, ⟨(.l 24), .call fn_spec_l1At [(.l 23), (.c (.int .i64 0))], none⟩, ⟨(.l 25), .lits 2 [], none⟩, ⟨(.l 26), .build [(.int .i64 0), .nils] [(0, 1, (.l 24)), (1, 1, (.l 25))], none⟩, ⟨(.g 4), .alloc [(.int .i64 0), .nils], none⟩, ⟨.no, .store 2 (.g 4) (.l 26), none⟩])
  (.seq (.seq (.region [⟨(.g 5), .mv (.c (.int .i64 2)), none⟩])
  (.block 0 (.loop (.seq (.seq (.region [⟨(.l 27), .mv (.g 5), none⟩, ⟨(.l 28), .faddr 2 (.g 1), none⟩, ⟨(.l 29), .load false 1 (.l 28), none⟩, ⟨(.l 30), .lenStr (.l 29), none⟩, ⟨(.g 31), .bin .lss (.l 27) (.l 30), none⟩])
    (.cond (.g 31) (.skip)
    (.exit 0)))
    (.seq (.block 1 (.drawn [⟨(.l 34), .faddr 1 (.g 4), none⟩, ⟨(.l 35), .load false 1 (.l 34), none⟩, ⟨(.l 36), .faddr 2 (.g 1), none⟩, ⟨(.l 37), .load false 1 (.l 36), none⟩, ⟨(.l 38), .mv (.g 5), none⟩, ⟨(.l 39), .call fn_spec_l1At [(.l 37), (.l 38)], none⟩, ⟨(.l 40), .faddr 2 (.g 1), none⟩, ⟨(.l 41), .load false 1 (.l 40), none⟩, ⟨(.l 42), .mv (.g 5), none⟩, ⟨(.l 43), .bin .add (.l 42) (.c (.int .i64 2)), none⟩, ⟨(.l 44), .call fn_spec_l1At [(.l 41), (.l 43)], none⟩, ⟨(.l 45), .build [(.int .i64 0), (.int .i64 0)] [(0, 1, (.l 39)), (1, 1, (.l 44))], none⟩, ⟨(.l 46), .lits 2 [(.l 45)], none⟩] [[], [], [], [1], [], [1], [], [5, 3, 1], [], [], [1], [], [1]] [⟨(.l 47), .append 2 16 (.l 35) (.l 46), none⟩, ⟨(.l 48), .faddr 1 (.g 4), none⟩, ⟨.no, .store 1 (.l 48) (.l 47), none⟩]))
    (.region [⟨(.l 32), .mv (.g 5), none⟩, ⟨(.l 33), .bin .add (.l 32) (.c (.int .i64 4)), none⟩, ⟨(.g 5), .mv (.l 33), none⟩]))))))
  (.seq (.seq (.region [⟨(.l 49), .load true 2 (.g 4), none⟩, ⟨(.l 50), .call fn_spec_l12Sack [(.l 49)], none⟩, ⟨(.g 51), .un .not (.l 50), none⟩])
  (.cond (.g 51) (.seq (.region [⟨(.l 52), .build [(.int .i64 0), .nils] [], none⟩, ⟨.no, .store 2 (.g 2) (.l 52), none⟩, ⟨(.g 3), .mv (.c (.bool false)), none⟩])
   (.ret))
  (.skip)))
  (.seq (.region [⟨(.l 53), .load true 2 (.g 4), none⟩, ⟨.no, .store 2 (.g 2) (.l 53), none⟩, ⟨(.g 3), .mv (.c (.bool true)), none⟩])
  (.ret))))))⟩
theorem ln_spec_SackGet : Linked Tryz.prog fn_spec_SackGet ac_spec_SackGet := ⟨Tryz.f133, _, Tryz.func133, rfl, by kernel_rfl, by kernel_rfl, by kernel_rfl, by kernel_rfl⟩
def ac_spec_l3Diff : AF := ⟨[0, 1, 4, 5, 11], [.t 4],
  .seq (.region [⟨(.g 4), .mv (.c (.int .i64 0)), none⟩])
  (.seq (.region [⟨(.l 6), .mv (.g 1), none⟩, ⟨(.l 7), .mv (.g 0), none⟩, ⟨(.l 8), .un .neg (.l 7), none⟩, ⟨(.l 9), .call fn_spec_l3Add [(.l 6), (.l 8)], none⟩, ⟨(.g 5), .mv (.l 9), none⟩])
  (.seq (.seq (.region [⟨(.l 10), .mv (.g 5), none⟩, ⟨(.g 11), .bin .gtr (.l 10) (.c (.int .i64 32768)), none⟩])
  (.cond (.g 11) (.region [⟨(.l 12), .mv (.g 5), none⟩, ⟨(.l 13), .bin .sub (.l 12) (.c (.int .i64 65536)), none⟩, ⟨(.g 5), .mv (.l 13), none⟩])
  (.skip)))
  (.seq (.region [⟨(.l 14), .mv (.g 5), none⟩, ⟨(.g 4), .mv (.l 14), none⟩])
  (.ret))))⟩
theorem ln_spec_l3Diff : Linked Tryz.prog fn_spec_l3Diff ac_spec_l3Diff := ⟨Tryz.f134, _, Tryz.func134, rfl, by kernel_rfl, by kernel_rfl, by kernel_rfl, by kernel_rfl⟩
end Go.Proofs.YtnhhcfbigjpfeaaGreatDoor
