/-
  The abstract code of the program's functions: written by a program, and compared by the kernel with what the model's code comes to.
-/
import Derived.Test.YtpcfbgeabehmbaaGreatV14
import Derived.Test.YtpcfbgeabehmbaaGreatProg
import Derived.KernelRfl
namespace Go.Proofs.YtpcfbgeabehmbaaGreat
set_option maxRecDepth 100000
set_option linter.all false
def fn_laws_FnMonitorNoise : Nat := 3
def fn_laws_FnMonitorPart : Nat := 4
def fn_laws_FnMonitorRun : Nat := 5
def fn_laws_FnMonitorTimes : Nat := 6
def fn_spec_DrawMonitorRun : Nat := 15
def fn_impl_MonitorRun : Nat := 16
def fn_spec_MonitorRun : Nat := 17
def fn_laws_sameMonitor : Nat := 18
def fn_spec_CaptureValid : Nat := 19
def fn_laws_sameAssocs : Nat := 20
def fn_laws_sameFound : Nat := 21
def fn_impl_MonitorStep : Nat := 22
def fn_impl_MonitorValid : Nat := 23
def fn_impl_PacketGet : Nat := 26
def fn_impl_AssocStep : Nat := 28
def fn_laws_sameAssoc : Nat := 29
def fn_spec_l6Open : Nat := 30
def fn_spec_l6Rd_pick : Nat := 31
def fn_spec_l91Records : Nat := 32
def fn_spec_l92Tape : Nat := 33
def fn_impl_CaptureValid : Nat := 34
def fn_spec_l32Step : Nat := 35
def fn_spec_l14Record : Nat := 36
def fn_impl_copyAssoc : Nat := 37
def fn_impl_samePorts : Nat := 38
def fn_impl_InitGet : Nat := 39
def fn_impl_AssocValid : Nat := 40
def fn_impl_foundOk : Nat := 41
def fn_spec_l91Spoil : Nat := 44
def fn_spec_PacketPut : Nat := 45
def fn_spec_TalkRecords : Nat := 47
def fn_spec_l92Talk : Nat := 48
def fn_spec_l91Bytes : Nat := 49
def fn_impl_LongGet : Nat := 51
def fn_impl_SumText : Nat := 52
def fn_impl_WordGet : Nat := 53
def fn_impl_ChunkGet : Nat := 54
def fn_impl_PacketValid : Nat := 55
def fn_impl_PacketAlone : Nat := 56
def fn_impl_Assoc_handle : Nat := 57
def fn_laws_sameSide : Nat := 58
def fn_spec_l91Long : Nat := 59
def fn_spec_l6Many : Nat := 60
def fn_spec_l32Copy : Nat := 61
def fn_spec_PacketGet : Nat := 62
def fn_spec_l32Note : Nat := 63
def fn_spec_l32Find : Nat := 64
def fn_spec_PacketAlone : Nat := 65
def fn_spec_InitGet : Nat := 66
def fn_spec_l32Begin : Nat := 67
def fn_spec_AssocStep : Nat := 68
def fn_spec_l6In : Nat := 69
def fn_impl_initOk : Nat := 70
def fn_impl_SideValid : Nat := 71
def fn_spec_PacketValid : Nat := 73
def fn_spec_l13Put : Nat := 74
def fn_spec_TalkPackets : Nat := 77
def fn_spec_l91Good : Nat := 78
def fn_spec_l6Rd_of : Nat := 79
def fn_spec_TalkValid : Nat := 80
def fn_spec_AssocValid : Nat := 81
def fn_spec_l32Pair : Nat := 82
def fn_impl_sumOn : Nat := 85
def fn_impl_ChunkValid : Nat := 86
def fn_impl_Assoc_greet : Nat := 87
def fn_impl_Assoc_take : Nat := 88
def fn_impl_acknowledge : Nat := 89
def fn_laws_sameParts : Nat := 90
def fn_spec_l31Copy : Nat := 91
def fn_spec_l1At : Nat := 92
def fn_spec_l13Sum : Nat := 93
def fn_spec_ChunkGet : Nat := 94
def fn_spec_l13Alone : Nat := 95
def fn_spec_l12Init : Nat := 96
def fn_spec_l31Step : Nat := 97
def fn_impl_serialOk : Nat := 98
def fn_impl_dataOk : Nat := 99
def fn_impl_SerialAdd : Nat := 100
def fn_impl_mayFollow : Nat := 101
def fn_spec_l91Word : Nat := 104
def fn_spec_ChunkValid : Nat := 105
def fn_spec_l1Word : Nat := 106
def fn_spec_l1Long : Nat := 107
def fn_spec_l11Put : Nat := 108
def fn_spec_l31Side : Nat := 109
def fn_spec_DataPut : Nat := 110
def fn_spec_l3Add : Nat := 112
def fn_spec_SackPut : Nat := 113
def fn_spec_InitPut : Nat := 114
def fn_spec_l41Hello : Nat := 116
def fn_spec_l41Parts : Nat := 117
def fn_spec_l41Many : Nat := 118
def fn_spec_l41Packet : Nat := 119
def fn_spec_l41One : Nat := 120
def fn_spec_SideValid : Nat := 121
def fn_spec_l31Open : Nat := 122
def fn_impl_DataGet : Nat := 123
def fn_impl_SackGet : Nat := 124
def fn_impl_SerialDiff : Nat := 125
def fn_spec_l31Side2 : Nat := 126
def fn_spec_l2Next : Nat := 127
def fn_spec_l3Ok : Nat := 128
def fn_spec_l31Tag : Nat := 129
def fn_spec_l31Chunk : Nat := 130
def fn_impl_likeParts : Nat := 131
def fn_spec_l12Data : Nat := 133
def fn_spec_l12Bit : Nat := 134
def fn_spec_l31Ssn : Nat := 135
def fn_spec_l12Sack : Nat := 136
def fn_spec_l31Follows : Nat := 137
def fn_impl_sackOk : Nat := 138
def fn_spec_l31Init : Nat := 139
def fn_spec_l31Data : Nat := 140
def fn_spec_l31Sack : Nat := 141
def fn_spec_l31End : Nat := 142
def fn_spec_l31Cookie : Nat := 143
def fn_spec_l22Same : Nat := 144
def fn_spec_l31With : Nat := 145
def fn_spec_DataGet : Nat := 146
def fn_spec_SackGet : Nat := 147
def fn_spec_l3Diff : Nat := 148
def ac_spec_DrawMonitorRun : AF := ⟨[0, 2, 3, 8], [.t 2],
  .seq (.region [⟨(.g 2), .mv (.c .nils), none⟩])
  (.seq (.region [⟨(.l 4), .mv (.g 0), none⟩, ⟨(.l 5), .call fn_spec_l6Open [(.l 4)], none⟩, ⟨(.g 3), .mv (.l 5), none⟩])
  (.seq (.seq (.region [⟨(.l 6), .mv (.g 3), none⟩, ⟨(.l 7), .call fn_spec_l6Rd_pick [(.l 6), (.c (.int .i64 16))], none⟩, ⟨(.g 8), .bin .eql (.l 7) (.c (.int .i64 0)), none⟩])
  (.cond (.g 8) (.seq (.region [⟨(.l 9), .mv (.g 3), none⟩, ⟨(.l 10), .call fn_spec_l91Records [(.l 9)], none⟩, ⟨(.g 2), .mv (.l 10), none⟩])
   (.ret))
  (.skip)))
  (.seq (.region [⟨(.l 11), .mv (.g 3), none⟩, ⟨(.l 12), .call fn_spec_l92Tape [(.l 11)], none⟩, ⟨(.g 2), .mv (.l 12), none⟩])
  (.ret))))⟩
theorem ln_spec_DrawMonitorRun : Linked Tryz.prog fn_spec_DrawMonitorRun ac_spec_DrawMonitorRun := ⟨Tryz.f15, _, Tryz.func15, rfl, by kernel_rfl, by kernel_rfl, by kernel_rfl, by kernel_rfl⟩
def ac_impl_MonitorRun : AF := ⟨[0, 2, 3, 5, 9, 11, 12, 13, 14], [.c 2 true 3],
  .seq (.region [⟨(.g 2), .alloc [(.int .i64 0), .nils, .nils], none⟩])
  (.seq (.region [⟨(.l 6), .build [(.int .i64 0), .nils, .nils] [], none⟩, ⟨(.g 3), .alloc [(.int .i64 0), .nils, .nils], none⟩, ⟨.no, .store 3 (.g 3) (.l 6), none⟩])
  (.seq (.seq (.region [⟨(.l 7), .mv (.g 0), none⟩, ⟨(.l 8), .call fn_impl_CaptureValid [(.l 7)], none⟩, ⟨(.g 9), .un .not (.l 8), none⟩])
  (.cond (.g 9) (.seq (.region [⟨(.l 10), .load true 3 (.g 3), none⟩, ⟨.no, .store 3 (.g 2) (.l 10), none⟩])
   (.ret))
  (.skip)))
  (.seq (.seq (.region [⟨(.g 11), .mv (.g 0), none⟩, ⟨(.g 12), .len (.g 11), none⟩, ⟨(.g 13), .mv (.c (.int .i64 0)), none⟩])
  (.block 0 (.loop (.seq (.region [⟨(.g 14), .bin .lss (.g 13) (.g 12), none⟩])
    (.seq (.cond (.g 14) (.skip)
    (.exit 0))
    (.seq (.block 1 (.seq (.region [⟨(.l 15), .elS 2 (.g 11) (.g 13), none⟩, ⟨(.l 16), .load true 2 (.l 15), none⟩, ⟨(.g 5), .alloc [(.int .i64 0), (.str [])], none⟩, ⟨.no, .store 2 (.g 5) (.l 16), none⟩])
     (.region [⟨(.l 17), .load true 3 (.g 3), none⟩, ⟨(.l 18), .faddr 1 (.g 5), none⟩, ⟨(.l 19), .load false 1 (.l 18), none⟩, ⟨(.l 20), .call fn_impl_MonitorStep [(.l 17), (.l 19)], none⟩, ⟨.no, .store 3 (.g 3) (.l 20), none⟩])))
    (.region [⟨(.l 21), .bin .add (.g 13) (.c (.int .i64 1)), none⟩, ⟨(.g 13), .mv (.l 21), none⟩])))))))
  (.seq (.region [⟨(.l 22), .load true 3 (.g 3), none⟩, ⟨.no, .store 3 (.g 2) (.l 22), none⟩])
  (.ret)))))⟩
theorem ln_impl_MonitorRun : Linked Tryz.prog fn_impl_MonitorRun ac_impl_MonitorRun := ⟨Tryz.f16, _, Tryz.func16, rfl, by kernel_rfl, by kernel_rfl, by kernel_rfl, by kernel_rfl⟩
def ac_spec_MonitorRun : AF := ⟨[0, 2, 3, 4, 15], [.c 2 true 3],
  .seq (.region [⟨(.g 2), .alloc [(.int .i64 0), .nils, .nils], none⟩])
  (.seq (.region [⟨(.l 5), .lits 14 [], none⟩, ⟨(.l 6), .lits 2 [], none⟩, ⟨(.l 7), .build [(.int .i64 0), .nils, .nils] [(1, 1, (.l 5)), (2, 1, (.l 6))], none⟩, ⟨(.g 3), .alloc [(.int .i64 0), .nils, .nils], none⟩, ⟨.no, .store 3 (.g 3) (.l 7), none⟩])
  (.seq (.seq (.region [⟨(.g 4), .mv (.c (.int .i64 0)), none⟩])
  (.block 0 (.loop (.seq (.seq (.region [⟨(.l 8), .mv (.g 4), none⟩, ⟨(.l 9), .mv (.g 0), none⟩, ⟨(.l 10), .len (.l 9), none⟩, ⟨(.l 11), .bin .lss (.l 8) (.l 10), none⟩, ⟨(.l 12), .mv (.l 11), none⟩, ⟨(.l 13), .mv (.g 0), (some ((.l 12), true))⟩, ⟨(.l 14), .call fn_spec_CaptureValid [(.l 13)], (some ((.l 12), true))⟩, ⟨(.g 15), .pick (.l 12) (.l 14) (.c (.bool false)), none⟩])
    (.cond (.g 15) (.skip)
    (.exit 0)))
    (.seq (.block 1 (.drawn [⟨(.l 18), .load true 3 (.g 3), none⟩, ⟨(.l 19), .mv (.g 0), none⟩, ⟨(.l 20), .mv (.g 4), none⟩, ⟨(.l 21), .elS 2 (.l 19) (.l 20), none⟩, ⟨(.l 22), .faddr 1 (.l 21), none⟩, ⟨(.l 23), .load false 1 (.l 22), none⟩] [[], [], [], [0], [], [0]] [⟨(.l 24), .call fn_spec_l32Step [(.l 18), (.l 23)], none⟩, ⟨.no, .store 3 (.g 3) (.l 24), none⟩]))
    (.region [⟨(.l 16), .mv (.g 4), none⟩, ⟨(.l 17), .bin .add (.l 16) (.c (.int .i64 1)), none⟩, ⟨(.g 4), .mv (.l 17), none⟩]))))))
  (.seq (.region [⟨(.l 25), .load true 3 (.g 3), none⟩, ⟨.no, .store 3 (.g 2) (.l 25), none⟩])
  (.ret))))⟩
theorem ln_spec_MonitorRun : Linked Tryz.prog fn_spec_MonitorRun ac_spec_MonitorRun := ⟨Tryz.f17, _, Tryz.func17, rfl, by kernel_rfl, by kernel_rfl, by kernel_rfl, by kernel_rfl⟩
def ac_laws_sameMonitor : AF := ⟨[0, 1, 2, 3, 4], [.t 4],
  .seq (.region [⟨(.g 2), .box (.g 0), none⟩, ⟨(.g 3), .box (.g 1), none⟩, ⟨(.g 4), .mv (.c (.bool false)), none⟩])
  (.seq (.region [⟨(.l 5), .faddr 0 (.g 2), none⟩, ⟨(.l 6), .load false 1 (.l 5), none⟩, ⟨(.l 7), .faddr 0 (.g 3), none⟩, ⟨(.l 8), .load false 1 (.l 7), none⟩, ⟨(.l 9), .bin .eql (.l 6) (.l 8), none⟩, ⟨(.l 10), .mv (.l 9), none⟩, ⟨(.l 11), .faddr 1 (.g 2), (some ((.l 10), true))⟩, ⟨(.l 12), .load false 1 (.l 11), (some ((.l 10), true))⟩, ⟨(.l 13), .faddr 1 (.g 3), (some ((.l 10), true))⟩, ⟨(.l 14), .load false 1 (.l 13), (some ((.l 10), true))⟩, ⟨(.l 15), .call fn_laws_sameAssocs [(.l 12), (.l 14)], (some ((.l 10), true))⟩, ⟨(.l 16), .pick (.l 10) (.l 15) (.c (.bool false)), none⟩, ⟨(.l 17), .mv (.l 16), none⟩, ⟨(.l 18), .faddr 2 (.g 2), (some ((.l 17), true))⟩, ⟨(.l 19), .load false 1 (.l 18), (some ((.l 17), true))⟩, ⟨(.l 20), .faddr 2 (.g 3), (some ((.l 17), true))⟩, ⟨(.l 21), .load false 1 (.l 20), (some ((.l 17), true))⟩, ⟨(.l 22), .call fn_laws_sameFound [(.l 19), (.l 21)], (some ((.l 17), true))⟩, ⟨(.l 23), .pick (.l 17) (.l 22) (.c (.bool false)), none⟩, ⟨(.g 4), .mv (.l 23), none⟩])
  (.ret))⟩
theorem ln_laws_sameMonitor : Linked Tryz.prog fn_laws_sameMonitor ac_laws_sameMonitor := ⟨Tryz.f18, _, Tryz.func18, rfl, by kernel_rfl, by kernel_rfl, by kernel_rfl, by kernel_rfl⟩
def ac_spec_CaptureValid : AF := ⟨[0, 2, 3, 4, 8, 17], [.t 2],
  .seq (.region [⟨(.g 2), .mv (.c (.bool false)), none⟩])
  (.seq (.region [⟨(.g 3), .mv (.c (.int .i64 0)), none⟩])
  (.seq (.seq (.region [⟨(.g 4), .mv (.c (.int .i64 0)), none⟩])
  (.block 0 (.loop (.seq (.seq (.region [⟨(.l 5), .mv (.g 4), none⟩, ⟨(.l 6), .mv (.g 0), none⟩, ⟨(.l 7), .len (.l 6), none⟩, ⟨(.g 8), .bin .lss (.l 5) (.l 7), none⟩])
    (.cond (.g 8) (.skip)
    (.exit 0)))
    (.seq (.block 1 (.seq (.seq (.region [⟨(.l 11), .mv (.g 0), none⟩, ⟨(.l 12), .mv (.g 4), none⟩, ⟨(.l 13), .elS 2 (.l 11) (.l 12), none⟩, ⟨(.l 14), .load true 2 (.l 13), none⟩, ⟨(.l 15), .mv (.g 3), none⟩, ⟨(.l 16), .call fn_spec_l14Record [(.l 14), (.l 15)], none⟩, ⟨(.g 17), .un .not (.l 16), none⟩])
     (.cond (.g 17) (.seq (.region [⟨(.g 2), .mv (.c (.bool false)), none⟩])
      (.ret))
     (.skip)))
     (.region [⟨(.l 18), .mv (.g 0), none⟩, ⟨(.l 19), .mv (.g 4), none⟩, ⟨(.l 20), .elS 2 (.l 18) (.l 19), none⟩, ⟨(.l 21), .faddr 0 (.l 20), none⟩, ⟨(.l 22), .load false 1 (.l 21), none⟩, ⟨(.g 3), .mv (.l 22), none⟩])))
    (.region [⟨(.l 9), .mv (.g 4), none⟩, ⟨(.l 10), .bin .add (.l 9) (.c (.int .i64 1)), none⟩, ⟨(.g 4), .mv (.l 10), none⟩]))))))
  (.seq (.region [⟨(.l 23), .mv (.g 0), none⟩, ⟨(.l 24), .len (.l 23), none⟩, ⟨(.l 25), .bin .leq (.l 24) (.c (.int .i64 60)), none⟩, ⟨(.g 2), .mv (.l 25), none⟩])
  (.ret))))⟩
theorem ln_spec_CaptureValid : Linked Tryz.prog fn_spec_CaptureValid ac_spec_CaptureValid := ⟨Tryz.f19, _, Tryz.func19, rfl, by kernel_rfl, by kernel_rfl, by kernel_rfl, by kernel_rfl⟩
def ac_laws_sameAssocs : AF := ⟨[0, 1, 4, 5, 10, 14, 26], [.t 4],
  .seq (.region [⟨(.g 4), .mv (.c (.bool false)), none⟩])
  (.seq (.seq (.region [⟨(.l 6), .mv (.g 0), none⟩, ⟨(.l 7), .len (.l 6), none⟩, ⟨(.l 8), .mv (.g 1), none⟩, ⟨(.l 9), .len (.l 8), none⟩, ⟨(.g 10), .bin .neq (.l 7) (.l 9), none⟩])
  (.cond (.g 10) (.seq (.region [⟨(.g 4), .mv (.c (.bool false)), none⟩])
   (.ret))
  (.skip)))
  (.seq (.seq (.region [⟨(.g 5), .mv (.c (.int .i64 0)), none⟩])
  (.block 0 (.loop (.seq (.seq (.region [⟨(.l 11), .mv (.g 5), none⟩, ⟨(.l 12), .mv (.g 0), none⟩, ⟨(.l 13), .len (.l 12), none⟩, ⟨(.g 14), .bin .lss (.l 11) (.l 13), none⟩])
    (.cond (.g 14) (.skip)
    (.exit 0)))
    (.seq (.block 1 (.seq (.drawn [⟨(.l 17), .mv (.g 0), none⟩, ⟨(.l 18), .mv (.g 5), none⟩, ⟨(.l 19), .elS 14 (.l 17) (.l 18), none⟩, ⟨(.l 20), .load true 14 (.l 19), none⟩, ⟨(.l 21), .mv (.g 1), none⟩, ⟨(.l 22), .mv (.g 5), none⟩, ⟨(.l 23), .elS 14 (.l 21) (.l 22), none⟩, ⟨(.l 24), .load true 14 (.l 23), none⟩] [[], [], [], [], [], [], [3, 2], [3, 2]] [⟨(.l 25), .call fn_laws_sameAssoc [(.l 20), (.l 24)], none⟩, ⟨(.g 26), .un .not (.l 25), none⟩])
     (.cond (.g 26) (.seq (.region [⟨(.g 4), .mv (.c (.bool false)), none⟩])
      (.ret))
     (.skip))))
    (.region [⟨(.l 15), .mv (.g 5), none⟩, ⟨(.l 16), .bin .add (.l 15) (.c (.int .i64 1)), none⟩, ⟨(.g 5), .mv (.l 16), none⟩]))))))
  (.seq (.region [⟨(.g 4), .mv (.c (.bool true)), none⟩])
  (.ret))))⟩
theorem ln_laws_sameAssocs : Linked Tryz.prog fn_laws_sameAssocs ac_laws_sameAssocs := ⟨Tryz.f20, _, Tryz.func20, rfl, by kernel_rfl, by kernel_rfl, by kernel_rfl, by kernel_rfl⟩
def ac_laws_sameFound : AF := ⟨[0, 1, 4, 5, 10, 14, 25], [.t 4],
  .seq (.region [⟨(.g 4), .mv (.c (.bool false)), none⟩])
  (.seq (.seq (.region [⟨(.l 6), .mv (.g 0), none⟩, ⟨(.l 7), .len (.l 6), none⟩, ⟨(.l 8), .mv (.g 1), none⟩, ⟨(.l 9), .len (.l 8), none⟩, ⟨(.g 10), .bin .neq (.l 7) (.l 9), none⟩])
  (.cond (.g 10) (.seq (.region [⟨(.g 4), .mv (.c (.bool false)), none⟩])
   (.ret))
  (.skip)))
  (.seq (.seq (.region [⟨(.g 5), .mv (.c (.int .i64 0)), none⟩])
  (.block 0 (.loop (.seq (.seq (.region [⟨(.l 11), .mv (.g 5), none⟩, ⟨(.l 12), .mv (.g 0), none⟩, ⟨(.l 13), .len (.l 12), none⟩, ⟨(.g 14), .bin .lss (.l 11) (.l 13), none⟩])
    (.cond (.g 14) (.skip)
    (.exit 0)))
    (.seq (.block 1 (.seq (.drawn [⟨(.l 17), .mv (.g 0), none⟩, ⟨(.l 18), .mv (.g 5), none⟩, ⟨(.l 19), .elS 2 (.l 17) (.l 18), none⟩, ⟨(.l 20), .load true 2 (.l 19), none⟩, ⟨(.l 21), .mv (.g 1), none⟩, ⟨(.l 22), .mv (.g 5), none⟩, ⟨(.l 23), .elS 2 (.l 21) (.l 22), none⟩, ⟨(.l 24), .load true 2 (.l 23), none⟩] [[], [], [], [], [], [], [3, 2], [3, 2]] [⟨(.g 25), .eqs true [0, 0] (.l 20) (.l 24), none⟩])
     (.cond (.g 25) (.seq (.region [⟨(.g 4), .mv (.c (.bool false)), none⟩])
      (.ret))
     (.skip))))
    (.region [⟨(.l 15), .mv (.g 5), none⟩, ⟨(.l 16), .bin .add (.l 15) (.c (.int .i64 1)), none⟩, ⟨(.g 5), .mv (.l 16), none⟩]))))))
  (.seq (.region [⟨(.g 4), .mv (.c (.bool true)), none⟩])
  (.ret))))⟩
theorem ln_laws_sameFound : Linked Tryz.prog fn_laws_sameFound ac_laws_sameFound := ⟨Tryz.f21, _, Tryz.func21, rfl, by kernel_rfl, by kernel_rfl, by kernel_rfl, by kernel_rfl⟩
def ac_impl_MonitorStep : AF := ⟨[0, 1, 2, 4, 5, 7, 8, 9, 10, 11, 12, 14, 15, 16, 18, 26, 37, 38, 39, 40, 57, 71, 72, 73, 74, 83, 115, 124, 149, 153, 163, 180, 190, 191, 192, 193], [.c 4 true 3],
  .seq (.region [⟨(.g 2), .box (.g 0), none⟩, ⟨(.g 4), .alloc [(.int .i64 0), .nils, .nils], none⟩])
  (.seq (.seq (.region [⟨(.l 19), .load true 3 (.g 2), none⟩, ⟨(.l 20), .call fn_impl_MonitorValid [(.l 19)], none⟩, ⟨(.l 21), .un .not (.l 20), none⟩, ⟨(.l 22), .mv (.l 21), none⟩, ⟨(.l 23), .faddr 0 (.g 2), (some ((.l 22), false))⟩, ⟨(.l 24), .load false 1 (.l 23), (some ((.l 22), false))⟩, ⟨(.l 25), .bin .geq (.l 24) (.c (.int .i64 60)), (some ((.l 22), false))⟩, ⟨(.g 26), .pick (.l 22) (.c (.bool true)) (.l 25), none⟩])
  (.cond (.g 26) (.seq (.region [⟨(.l 27), .build [(.int .i64 0), .nils, .nils] [], none⟩, ⟨.no, .store 3 (.g 4) (.l 27), none⟩])
   (.ret))
  (.skip)))
  (.seq (.drawn [⟨(.l 28), .faddr 0 (.g 2), none⟩, ⟨(.l 29), .load false 1 (.l 28), none⟩, ⟨(.l 30), .bin .add (.l 29) (.c (.int .i64 1)), none⟩, ⟨(.l 31), .lits 2 [], none⟩, ⟨(.l 32), .faddr 2 (.g 2), none⟩, ⟨(.l 33), .load false 1 (.l 32), none⟩, ⟨(.l 34), .append 2 16 (.l 31) (.l 33), none⟩, ⟨(.l 35), .build [(.int .i64 0), .nils, .nils] [(0, 1, (.l 30)), (2, 1, (.l 34))], none⟩, ⟨(.g 5), .alloc [(.int .i64 0), .nils, .nils], none⟩] [[], [], [], [1], [], [3, 1], [1], [], [6, 5, 3, 1]] [⟨.no, .store 3 (.g 5) (.l 35), none⟩])
  (.seq (.seq (.region [⟨(.l 36), .faddr 1 (.g 2), none⟩, ⟨(.g 37), .load false 1 (.l 36), none⟩, ⟨(.g 38), .len (.g 37), none⟩, ⟨(.g 39), .mv (.c (.int .i64 0)), none⟩])
  (.block 0 (.loop (.seq (.region [⟨(.g 40), .bin .lss (.g 39) (.g 38), none⟩])
    (.seq (.cond (.g 40) (.skip)
    (.exit 0))
    (.seq (.block 1 (.seq (.region [⟨(.l 41), .elS 14 (.g 37) (.g 39), none⟩, ⟨(.l 42), .load true 14 (.l 41), none⟩, ⟨(.g 7), .alloc [(.int .i64 0), (.int .i64 0), (.int .i64 0), (.bool false), (.int .i64 0), (.int .i64 0), (.int .i64 0), .nils, (.int .i64 0), (.int .i64 0), (.int .i64 0), (.int .i64 0), .nils, (.int .i64 0)], none⟩, ⟨.no, .store 14 (.g 7) (.l 42), none⟩])
     (.drawn [⟨(.l 43), .faddr 1 (.g 5), none⟩, ⟨(.l 44), .load false 1 (.l 43), none⟩, ⟨(.l 45), .load true 14 (.g 7), none⟩, ⟨(.l 46), .call fn_impl_copyAssoc [(.l 45)], none⟩, ⟨(.l 47), .lits 14 [(.l 46)], none⟩] [[], [], [1], [1], [1]] [⟨(.l 48), .append 14 144 (.l 44) (.l 47), none⟩, ⟨(.l 49), .faddr 1 (.g 5), none⟩, ⟨.no, .store 1 (.l 49) (.l 48), none⟩])))
    (.region [⟨(.l 50), .bin .add (.g 39) (.c (.int .i64 1)), none⟩, ⟨(.g 39), .mv (.l 50), none⟩])))))))
  (.seq (.region [⟨(.l 52), .mv (.g 1), none⟩, ⟨(.l 53), .call fn_impl_PacketGet [(.l 52)], none⟩, ⟨(.l 51), .mv (.l 53), none⟩, ⟨(.l 54), .extract (.l 51) 0, none⟩, ⟨(.l 55), .extract (.l 51) 1, none⟩, ⟨(.g 8), .alloc [(.int .i64 0), (.int .i64 0), (.int .i64 0), .nils], none⟩, ⟨.no, .store 4 (.g 8) (.l 54), none⟩, ⟨(.g 9), .mv (.l 55), none⟩])
  (.seq (.seq (.region [⟨(.l 56), .mv (.g 9), none⟩, ⟨(.g 57), .bin .neq (.l 56) (.c (.int .i64 0)), none⟩])
  (.cond (.g 57) (.seq (.region [⟨(.l 58), .faddr 2 (.g 5), none⟩, ⟨(.l 59), .load false 1 (.l 58), none⟩, ⟨(.l 60), .faddr 0 (.g 2), none⟩, ⟨(.l 61), .load false 1 (.l 60), none⟩, ⟨(.l 62), .mv (.g 9), none⟩, ⟨(.l 63), .bin .add (.c (.int .i64 101)) (.l 62), none⟩, ⟨(.l 64), .bin .sub (.l 63) (.c (.int .i64 1)), none⟩, ⟨(.l 65), .build [(.int .i64 0), (.int .i64 0)] [(0, 1, (.l 61)), (1, 1, (.l 64))], none⟩, ⟨(.l 66), .lits 2 [(.l 65)], none⟩, ⟨(.l 67), .append 2 16 (.l 59) (.l 66), none⟩, ⟨(.l 68), .faddr 2 (.g 5), none⟩, ⟨.no, .store 1 (.l 68) (.l 67), none⟩])
   (.seq (.region [⟨(.l 69), .load true 3 (.g 5), none⟩, ⟨.no, .store 3 (.g 4) (.l 69), none⟩])
   (.ret)))
  (.skip)))
  (.seq (.region [⟨(.g 10), .mv (.c (.int .i64 (-1))), none⟩])
  (.seq (.seq (.region [⟨(.l 70), .faddr 1 (.g 5), none⟩, ⟨(.g 71), .load false 1 (.l 70), none⟩, ⟨(.g 72), .len (.g 71), none⟩, ⟨(.g 73), .mv (.c (.int .i64 0)), none⟩])
  (.block 2 (.loop (.seq (.region [⟨(.g 74), .bin .lss (.g 73) (.g 72), none⟩])
    (.seq (.cond (.g 74) (.skip)
    (.exit 2))
    (.seq (.block 3 (.seq (.region [⟨(.l 75), .mv (.g 73), none⟩, ⟨(.l 76), .elS 14 (.g 71) (.g 73), none⟩, ⟨(.l 77), .load true 14 (.l 76), none⟩, ⟨(.g 12), .alloc [(.int .i64 0), (.int .i64 0), (.int .i64 0), (.bool false), (.int .i64 0), (.int .i64 0), (.int .i64 0), .nils, (.int .i64 0), (.int .i64 0), (.int .i64 0), (.int .i64 0), .nils, (.int .i64 0)], none⟩, ⟨(.g 11), .mv (.l 75), none⟩, ⟨.no, .store 14 (.g 12) (.l 77), none⟩])
     (.seq (.region [⟨(.l 78), .load true 14 (.g 12), none⟩, ⟨(.l 79), .faddr 0 (.g 8), none⟩, ⟨(.l 80), .load false 1 (.l 79), none⟩, ⟨(.l 81), .faddr 1 (.g 8), none⟩, ⟨(.l 82), .load false 1 (.l 81), none⟩, ⟨(.g 83), .call fn_impl_samePorts [(.l 78), (.l 80), (.l 82)], none⟩])
     (.cond (.g 83) (.region [⟨(.l 84), .mv (.g 11), none⟩, ⟨(.g 10), .mv (.l 84), none⟩])
     (.skip)))))
    (.region [⟨(.l 85), .bin .add (.g 73) (.c (.int .i64 1)), none⟩, ⟨(.g 73), .mv (.l 85), none⟩])))))))
  (.seq (.seq (.region [⟨(.l 86), .mv (.g 10), none⟩, ⟨(.l 87), .bin .geq (.l 86) (.c (.int .i64 0)), none⟩, ⟨(.l 88), .mv (.l 87), none⟩, ⟨(.l 89), .faddr 1 (.g 5), (some ((.l 88), true))⟩, ⟨(.l 90), .load false 1 (.l 89), (some ((.l 88), true))⟩, ⟨(.l 91), .mv (.g 10), (some ((.l 88), true))⟩, ⟨(.l 92), .elS 14 (.l 90) (.l 91), (some ((.l 88), true))⟩, ⟨(.l 93), .faddr 2 (.l 92), (some ((.l 88), true))⟩, ⟨(.l 94), .load false 1 (.l 93), (some ((.l 88), true))⟩, ⟨(.l 95), .bin .eql (.l 94) (.c (.int .i64 7)), (some ((.l 88), true))⟩, ⟨(.l 96), .pick (.l 88) (.l 95) (.c (.bool false)), none⟩, ⟨(.l 97), .mv (.l 96), none⟩, ⟨(.l 98), .faddr 2 (.g 8), (some ((.l 97), true))⟩, ⟨(.l 99), .load false 1 (.l 98), (some ((.l 97), true))⟩, ⟨(.l 100), .bin .eql (.l 99) (.c (.int .i64 0)), (some ((.l 97), true))⟩, ⟨(.l 101), .pick (.l 97) (.l 100) (.c (.bool false)), none⟩, ⟨(.l 102), .mv (.l 101), none⟩, ⟨(.l 103), .faddr 3 (.g 8), (some ((.l 102), true))⟩, ⟨(.l 104), .load false 1 (.l 103), (some ((.l 102), true))⟩, ⟨(.l 105), .len (.l 104), (some ((.l 102), true))⟩, ⟨(.l 106), .bin .eql (.l 105) (.c (.int .i64 1)), (some ((.l 102), true))⟩, ⟨(.l 107), .pick (.l 102) (.l 106) (.c (.bool false)), none⟩, ⟨(.l 108), .mv (.l 107), none⟩, ⟨(.l 109), .faddr 3 (.g 8), (some ((.l 108), true))⟩, ⟨(.l 110), .load false 1 (.l 109), (some ((.l 108), true))⟩, ⟨(.l 111), .elS 3 (.l 110) (.c (.int .i64 0)), (some ((.l 108), true))⟩, ⟨(.l 112), .faddr 0 (.l 111), (some ((.l 108), true))⟩, ⟨(.l 113), .load false 1 (.l 112), (some ((.l 108), true))⟩, ⟨(.l 114), .bin .eql (.l 113) (.c (.int .i64 1)), (some ((.l 108), true))⟩, ⟨(.g 115), .pick (.l 108) (.l 114) (.c (.bool false)), none⟩])
  (.cond (.g 115) (.seq (.region [⟨(.l 117), .faddr 3 (.g 8), none⟩, ⟨(.l 118), .load false 1 (.l 117), none⟩, ⟨(.l 119), .elS 3 (.l 118) (.c (.int .i64 0)), none⟩, ⟨(.l 120), .load true 3 (.l 119), none⟩, ⟨(.l 121), .call fn_impl_InitGet [(.l 120)], none⟩, ⟨(.l 116), .mv (.l 121), none⟩, ⟨(.l 122), .extract (.l 116) 0, none⟩, ⟨(.l 123), .extract (.l 116) 1, none⟩, ⟨(.l 13), .alloc [(.int .i64 0), (.int .i64 0), (.int .i64 0), (.int .i64 0)], none⟩, ⟨.no, .store 4 (.l 13) (.l 122), none⟩, ⟨(.g 14), .mv (.l 123), none⟩])
   (.seq (.region [⟨(.g 124), .mv (.g 14), none⟩])
   (.cond (.g 124) (.seq (.drawn [⟨(.l 125), .faddr 1 (.g 5), none⟩, ⟨(.l 126), .load false 1 (.l 125), none⟩, ⟨(.l 127), .mv (.g 10), none⟩, ⟨(.l 128), .cutSl 14 (.l 126) none (some (.l 127)), none⟩, ⟨(.l 129), .faddr 1 (.g 5), none⟩, ⟨(.l 130), .load false 1 (.l 129), none⟩, ⟨(.l 131), .mv (.g 10), none⟩, ⟨(.l 132), .bin .add (.l 131) (.c (.int .i64 1)), none⟩, ⟨(.l 133), .cutSl 14 (.l 130) (some (.l 132)) none, none⟩] [[], [], [], [], [], [3, 1], [], [], [3, 1]] [⟨(.l 134), .append 14 144 (.l 128) (.l 133), none⟩, ⟨(.l 135), .faddr 1 (.g 5), none⟩, ⟨.no, .store 1 (.l 135) (.l 134), none⟩])
    (.region [⟨(.g 10), .mv (.c (.int .i64 (-1))), none⟩]))
   (.skip))))
  (.skip)))
  (.seq (.region [⟨(.l 136), .lits 1 [], none⟩, ⟨(.g 15), .mv (.l 136), none⟩])
  (.seq (.block 4 (.seq (.region [⟨(.l 164), .mv (.g 10), none⟩, ⟨(.l 165), .bin .geq (.l 164) (.c (.int .i64 0)), none⟩, ⟨(.g 163), .mv (.l 165), none⟩])
   (.cond (.g 163) (.drawn [⟨(.l 167), .faddr 1 (.g 5), none⟩, ⟨(.l 168), .load false 1 (.l 167), none⟩, ⟨(.l 169), .mv (.g 10), none⟩, ⟨(.l 170), .faddr 1 (.g 5), none⟩, ⟨(.l 171), .load false 1 (.l 170), none⟩, ⟨(.l 172), .mv (.g 10), none⟩, ⟨(.l 173), .elS 14 (.l 171) (.l 172), none⟩, ⟨(.l 174), .load true 14 (.l 173), none⟩, ⟨(.l 175), .load true 4 (.g 8), none⟩, ⟨(.l 176), .call fn_impl_AssocStep [(.l 174), (.l 175)], none⟩, ⟨(.l 166), .mv (.l 176), none⟩, ⟨(.l 177), .extract (.l 166) 0, none⟩, ⟨(.l 178), .extract (.l 166) 1, none⟩, ⟨(.l 179), .elS 14 (.l 168) (.l 169), none⟩, ⟨.no, .store 14 (.l 179) (.l 177), none⟩] [[], [], [], [], [1], [], [1], [1], [7, 6, 4, 1], [1], [], [], [], [], []] [⟨(.g 15), .mv (.l 178), none⟩])
   (.seq (.region [⟨(.l 181), .faddr 3 (.g 8), none⟩, ⟨(.l 182), .load false 1 (.l 181), none⟩, ⟨(.l 183), .elS 3 (.l 182) (.c (.int .i64 0)), none⟩, ⟨(.l 184), .faddr 0 (.l 183), none⟩, ⟨(.l 185), .load false 1 (.l 184), none⟩, ⟨(.l 186), .bin .neq (.l 185) (.c (.int .i64 1)), none⟩, ⟨(.g 180), .mv (.l 186), none⟩])
    (.cond (.g 180) (.region [⟨(.l 187), .mv (.g 15), none⟩, ⟨(.l 188), .lits 1 [(.c (.int .i64 104))], none⟩, ⟨(.l 189), .append 1 8 (.l 187) (.l 188), none⟩, ⟨(.g 15), .mv (.l 189), none⟩])
    (.seq (.region [⟨(.g 16), .alloc [(.int .i64 0), (.int .i64 0), (.int .i64 0), (.bool false), (.int .i64 0), (.int .i64 0), (.int .i64 0), .nils, (.int .i64 0), (.int .i64 0), (.int .i64 0), (.int .i64 0), .nils, (.int .i64 0)], none⟩])
     (.seq (.region [⟨(.l 138), .faddr 0 (.g 8), none⟩, ⟨(.l 139), .load false 1 (.l 138), none⟩, ⟨(.l 140), .faddr 1 (.g 8), none⟩, ⟨(.l 141), .load false 1 (.l 140), none⟩, ⟨(.l 142), .build [(.int .i64 0), (.int .i64 0), (.int .i64 0), (.bool false), (.int .i64 0), (.int .i64 0), (.int .i64 0), .nils, (.int .i64 0), (.int .i64 0), (.int .i64 0), (.int .i64 0), .nils, (.int .i64 0)] [(0, 1, (.l 139)), (1, 1, (.l 141)), (2, 1, (.c (.int .i64 0)))], none⟩, ⟨(.l 143), .load true 4 (.g 8), none⟩, ⟨(.l 144), .call fn_impl_AssocStep [(.l 142), (.l 143)], none⟩, ⟨(.l 137), .mv (.l 144), none⟩, ⟨(.l 145), .extract (.l 137) 0, none⟩, ⟨(.l 146), .extract (.l 137) 1, none⟩, ⟨.no, .store 14 (.g 16) (.l 145), none⟩, ⟨(.g 15), .mv (.l 146), none⟩])
     (.seq (.region [⟨(.l 147), .mv (.g 15), none⟩, ⟨(.l 148), .len (.l 147), none⟩, ⟨(.g 149), .bin .eql (.l 148) (.c (.int .i64 0)), none⟩])
     (.cond (.g 149) (.seq (.region [⟨(.l 150), .faddr 1 (.g 5), none⟩, ⟨(.l 151), .load false 1 (.l 150), none⟩, ⟨(.l 152), .len (.l 151), none⟩, ⟨(.g 153), .bin .geq (.l 152) (.c (.int .i64 3)), none⟩])
      (.cond (.g 153) (.region [⟨(.l 154), .mv (.g 15), none⟩, ⟨(.l 155), .lits 1 [(.c (.int .i64 105))], none⟩, ⟨(.l 156), .append 1 8 (.l 154) (.l 155), none⟩, ⟨(.g 15), .mv (.l 156), none⟩])
      (.region [⟨(.l 157), .faddr 1 (.g 5), none⟩, ⟨(.l 158), .load false 1 (.l 157), none⟩, ⟨(.l 159), .load true 14 (.g 16), none⟩, ⟨(.l 160), .lits 14 [(.l 159)], none⟩, ⟨(.l 161), .append 14 144 (.l 158) (.l 160), none⟩, ⟨(.l 162), .faddr 1 (.g 5), none⟩, ⟨.no, .store 1 (.l 162) (.l 161), none⟩])))
     (.skip))))))))))
  (.seq (.seq (.region [⟨(.g 190), .mv (.g 15), none⟩, ⟨(.g 191), .len (.g 190), none⟩, ⟨(.g 192), .mv (.c (.int .i64 0)), none⟩])
  (.block 5 (.loop (.seq (.region [⟨(.g 193), .bin .lss (.g 192) (.g 191), none⟩])
    (.seq (.cond (.g 193) (.skip)
    (.exit 5))
    (.seq (.block 6 (.seq (.region [⟨(.l 194), .elS 1 (.g 190) (.g 192), none⟩, ⟨(.l 195), .load false 1 (.l 194), none⟩, ⟨(.g 18), .mv (.l 195), none⟩])
     (.region [⟨(.l 196), .faddr 2 (.g 5), none⟩, ⟨(.l 197), .load false 1 (.l 196), none⟩, ⟨(.l 198), .faddr 0 (.g 2), none⟩, ⟨(.l 199), .load false 1 (.l 198), none⟩, ⟨(.l 200), .mv (.g 18), none⟩, ⟨(.l 201), .build [(.int .i64 0), (.int .i64 0)] [(0, 1, (.l 199)), (1, 1, (.l 200))], none⟩, ⟨(.l 202), .lits 2 [(.l 201)], none⟩, ⟨(.l 203), .append 2 16 (.l 197) (.l 202), none⟩, ⟨(.l 204), .faddr 2 (.g 5), none⟩, ⟨.no, .store 1 (.l 204) (.l 203), none⟩])))
    (.region [⟨(.l 205), .bin .add (.g 192) (.c (.int .i64 1)), none⟩, ⟨(.g 192), .mv (.l 205), none⟩])))))))
  (.seq (.region [⟨(.l 206), .load true 3 (.g 5), none⟩, ⟨.no, .store 3 (.g 4) (.l 206), none⟩])
  (.ret)))))))))))))⟩
theorem ln_impl_MonitorStep : Linked Tryz.prog fn_impl_MonitorStep ac_impl_MonitorStep := ⟨Tryz.f22, _, Tryz.func22, rfl, by kernel_rfl, by kernel_rfl, by kernel_rfl, by kernel_rfl⟩
def ac_impl_MonitorValid : AF := ⟨[0, 1, 2, 3, 4, 6, 20, 22, 23, 24, 25, 36, 40, 41, 42, 43, 51], [.t 2],
  .seq (.region [⟨(.g 1), .box (.g 0), none⟩, ⟨(.g 2), .mv (.c (.bool false)), none⟩])
  (.seq (.seq (.region [⟨(.l 7), .faddr 0 (.g 1), none⟩, ⟨(.l 8), .load false 1 (.l 7), none⟩, ⟨(.l 9), .bin .lss (.l 8) (.c (.int .i64 0)), none⟩, ⟨(.l 10), .mv (.l 9), none⟩, ⟨(.l 11), .faddr 0 (.g 1), (some ((.l 10), false))⟩, ⟨(.l 12), .load false 1 (.l 11), (some ((.l 10), false))⟩, ⟨(.l 13), .bin .gtr (.l 12) (.c (.int .i64 60)), (some ((.l 10), false))⟩, ⟨(.l 14), .pick (.l 10) (.c (.bool true)) (.l 13), none⟩, ⟨(.l 15), .mv (.l 14), none⟩, ⟨(.l 16), .faddr 1 (.g 1), (some ((.l 15), false))⟩, ⟨(.l 17), .load false 1 (.l 16), (some ((.l 15), false))⟩, ⟨(.l 18), .len (.l 17), (some ((.l 15), false))⟩, ⟨(.l 19), .bin .gtr (.l 18) (.c (.int .i64 3)), (some ((.l 15), false))⟩, ⟨(.g 20), .pick (.l 15) (.c (.bool true)) (.l 19), none⟩])
  (.cond (.g 20) (.seq (.region [⟨(.g 2), .mv (.c (.bool false)), none⟩])
   (.ret))
  (.skip)))
  (.seq (.seq (.region [⟨(.l 21), .faddr 1 (.g 1), none⟩, ⟨(.g 22), .load false 1 (.l 21), none⟩, ⟨(.g 23), .len (.g 22), none⟩, ⟨(.g 24), .mv (.c (.int .i64 0)), none⟩])
  (.block 0 (.loop (.seq (.region [⟨(.g 25), .bin .lss (.g 24) (.g 23), none⟩])
    (.seq (.cond (.g 25) (.skip)
    (.exit 0))
    (.seq (.block 1 (.seq (.region [⟨(.l 26), .mv (.g 24), none⟩, ⟨(.l 27), .elS 14 (.g 22) (.g 24), none⟩, ⟨(.l 28), .load true 14 (.l 27), none⟩, ⟨(.g 4), .alloc [(.int .i64 0), (.int .i64 0), (.int .i64 0), (.bool false), (.int .i64 0), (.int .i64 0), (.int .i64 0), .nils, (.int .i64 0), (.int .i64 0), (.int .i64 0), (.int .i64 0), .nils, (.int .i64 0)], none⟩, ⟨(.g 3), .mv (.l 26), none⟩, ⟨.no, .store 14 (.g 4) (.l 28), none⟩])
     (.seq (.seq (.region [⟨(.l 29), .load true 14 (.g 4), none⟩, ⟨(.l 30), .call fn_impl_AssocValid [(.l 29)], none⟩, ⟨(.l 31), .un .not (.l 30), none⟩, ⟨(.l 32), .mv (.l 31), none⟩, ⟨(.l 33), .faddr 2 (.g 4), (some ((.l 32), false))⟩, ⟨(.l 34), .load false 1 (.l 33), (some ((.l 32), false))⟩, ⟨(.l 35), .bin .eql (.l 34) (.c (.int .i64 0)), (some ((.l 32), false))⟩, ⟨(.g 36), .pick (.l 32) (.c (.bool true)) (.l 35), none⟩])
     (.cond (.g 36) (.seq (.region [⟨(.g 2), .mv (.c (.bool false)), none⟩])
      (.ret))
     (.skip)))
     (.seq (.region [⟨(.l 37), .faddr 1 (.g 1), none⟩, ⟨(.l 38), .load false 1 (.l 37), none⟩, ⟨(.l 39), .mv (.g 3), none⟩, ⟨(.g 40), .cutSl 14 (.l 38) none (some (.l 39)), none⟩, ⟨(.g 41), .len (.g 40), none⟩, ⟨(.g 42), .mv (.c (.int .i64 0)), none⟩])
     (.block 2 (.loop (.seq (.region [⟨(.g 43), .bin .lss (.g 42) (.g 41), none⟩])
       (.seq (.cond (.g 43) (.skip)
       (.exit 2))
       (.seq (.block 3 (.seq (.region [⟨(.l 44), .elS 14 (.g 40) (.g 42), none⟩, ⟨(.l 45), .load true 14 (.l 44), none⟩, ⟨(.g 6), .alloc [(.int .i64 0), (.int .i64 0), (.int .i64 0), (.bool false), (.int .i64 0), (.int .i64 0), (.int .i64 0), .nils, (.int .i64 0), (.int .i64 0), (.int .i64 0), (.int .i64 0), .nils, (.int .i64 0)], none⟩, ⟨.no, .store 14 (.g 6) (.l 45), none⟩])
        (.seq (.region [⟨(.l 46), .load true 14 (.g 6), none⟩, ⟨(.l 47), .faddr 0 (.g 4), none⟩, ⟨(.l 48), .load false 1 (.l 47), none⟩, ⟨(.l 49), .faddr 1 (.g 4), none⟩, ⟨(.l 50), .load false 1 (.l 49), none⟩, ⟨(.g 51), .call fn_impl_samePorts [(.l 46), (.l 48), (.l 50)], none⟩])
        (.cond (.g 51) (.seq (.region [⟨(.g 2), .mv (.c (.bool false)), none⟩])
         (.ret))
        (.skip)))))
       (.region [⟨(.l 52), .bin .add (.g 42) (.c (.int .i64 1)), none⟩, ⟨(.g 42), .mv (.l 52), none⟩]))))))))))
    (.region [⟨(.l 53), .bin .add (.g 24) (.c (.int .i64 1)), none⟩, ⟨(.g 24), .mv (.l 53), none⟩])))))))
  (.seq (.region [⟨(.l 54), .faddr 2 (.g 1), none⟩, ⟨(.l 55), .load false 1 (.l 54), none⟩, ⟨(.l 56), .faddr 0 (.g 1), none⟩, ⟨(.l 57), .load false 1 (.l 56), none⟩, ⟨(.l 58), .call fn_impl_foundOk [(.l 55), (.l 57)], none⟩, ⟨(.g 2), .mv (.l 58), none⟩])
  (.ret))))⟩
theorem ln_impl_MonitorValid : Linked Tryz.prog fn_impl_MonitorValid ac_impl_MonitorValid := ⟨Tryz.f23, _, Tryz.func23, rfl, by kernel_rfl, by kernel_rfl, by kernel_rfl, by kernel_rfl⟩
def ac_impl_PacketGet : AF := ⟨[0, 2, 3, 4, 6, 7, 8, 9, 10, 13, 28, 52, 61, 72], [.c 2 true 4, .t 3],
  .seq (.region [⟨(.g 2), .alloc [(.int .i64 0), (.int .i64 0), (.int .i64 0), .nils], none⟩, ⟨(.g 3), .mv (.c (.int .i64 0)), none⟩])
  (.seq (.seq (.region [⟨(.l 11), .mv (.g 0), none⟩, ⟨(.l 12), .lenStr (.l 11), none⟩, ⟨(.g 13), .bin .lss (.l 12) (.c (.int .i64 12)), none⟩])
  (.cond (.g 13) (.seq (.region [⟨(.l 14), .build [(.int .i64 0), (.int .i64 0), (.int .i64 0), .nils] [], none⟩, ⟨.no, .store 4 (.g 2) (.l 14), none⟩, ⟨(.g 3), .mv (.c (.int .i64 1)), none⟩])
   (.ret))
  (.skip)))
  (.seq (.region [⟨(.l 16), .mv (.g 0), none⟩, ⟨(.l 17), .call fn_impl_LongGet [(.l 16), (.c (.int .i64 8))], none⟩, ⟨(.l 15), .mv (.l 17), none⟩, ⟨(.l 18), .extract (.l 15) 0, none⟩, ⟨(.l 19), .extract (.l 15) 1, none⟩, ⟨(.g 4), .mv (.l 18), none⟩, ⟨(.l 5), .mv (.l 19), none⟩])
  (.seq (.seq (.drawn [⟨(.l 20), .mv (.g 0), none⟩, ⟨(.l 21), .cutStr (.l 20) none (some (.c (.int .i64 8))), none⟩, ⟨(.l 22), .bin .add (.l 21) (.c (.str [0, 0, 0, 0])), none⟩, ⟨(.l 23), .mv (.g 0), none⟩, ⟨(.l 24), .cutStr (.l 23) (some (.c (.int .i64 12))) none, none⟩, ⟨(.l 25), .bin .add (.l 22) (.l 24), none⟩, ⟨(.l 26), .call fn_impl_SumText [(.l 25)], none⟩, ⟨(.l 27), .mv (.g 4), none⟩] [[], [], [], [], [], [], [], []] [⟨(.g 28), .bin .neq (.l 26) (.l 27), none⟩])
  (.cond (.g 28) (.seq (.region [⟨(.l 29), .build [(.int .i64 0), (.int .i64 0), (.int .i64 0), .nils] [], none⟩, ⟨.no, .store 4 (.g 2) (.l 29), none⟩, ⟨(.g 3), .mv (.c (.int .i64 2)), none⟩])
   (.ret))
  (.skip)))
  (.seq (.region [⟨(.l 30), .build [(.int .i64 0), (.int .i64 0), (.int .i64 0), .nils] [], none⟩, ⟨(.g 6), .alloc [(.int .i64 0), (.int .i64 0), (.int .i64 0), .nils], none⟩, ⟨.no, .store 4 (.g 6) (.l 30), none⟩])
  (.seq (.region [⟨(.l 32), .mv (.g 0), none⟩, ⟨(.l 33), .call fn_impl_WordGet [(.l 32), (.c (.int .i64 0))], none⟩, ⟨(.l 31), .mv (.l 33), none⟩, ⟨(.l 34), .extract (.l 31) 0, none⟩, ⟨(.l 35), .extract (.l 31) 1, none⟩, ⟨(.l 36), .faddr 0 (.g 6), none⟩, ⟨.no, .store 1 (.l 36) (.l 34), none⟩])
  (.seq (.region [⟨(.l 38), .mv (.g 0), none⟩, ⟨(.l 39), .call fn_impl_WordGet [(.l 38), (.c (.int .i64 2))], none⟩, ⟨(.l 37), .mv (.l 39), none⟩, ⟨(.l 40), .extract (.l 37) 0, none⟩, ⟨(.l 41), .extract (.l 37) 1, none⟩, ⟨(.l 42), .faddr 1 (.g 6), none⟩, ⟨.no, .store 1 (.l 42) (.l 40), none⟩])
  (.seq (.region [⟨(.l 44), .mv (.g 0), none⟩, ⟨(.l 45), .call fn_impl_LongGet [(.l 44), (.c (.int .i64 4))], none⟩, ⟨(.l 43), .mv (.l 45), none⟩, ⟨(.l 46), .extract (.l 43) 0, none⟩, ⟨(.l 47), .extract (.l 43) 1, none⟩, ⟨(.l 48), .faddr 2 (.g 6), none⟩, ⟨.no, .store 1 (.l 48) (.l 46), none⟩])
  (.seq (.seq (.region [⟨(.g 7), .mv (.c (.int .i64 12)), none⟩])
  (.block 0 (.loop (.seq (.seq (.region [⟨(.l 49), .mv (.g 7), none⟩, ⟨(.l 50), .mv (.g 0), none⟩, ⟨(.l 51), .lenStr (.l 50), none⟩, ⟨(.g 52), .bin .lss (.l 49) (.l 51), none⟩])
    (.cond (.g 52) (.skip)
    (.exit 0)))
    (.block 1 (.seq (.region [⟨(.l 54), .mv (.g 0), none⟩, ⟨(.l 55), .mv (.g 7), none⟩, ⟨(.l 56), .call fn_impl_ChunkGet [(.l 54), (.l 55)], none⟩, ⟨(.l 53), .mv (.l 56), none⟩, ⟨(.l 57), .extract (.l 53) 0, none⟩, ⟨(.l 58), .extract (.l 53) 1, none⟩, ⟨(.l 59), .extract (.l 53) 2, none⟩, ⟨(.g 8), .alloc [(.int .i64 0), (.int .i64 0), (.str [])], none⟩, ⟨.no, .store 3 (.g 8) (.l 57), none⟩, ⟨(.g 9), .mv (.l 58), none⟩, ⟨(.g 10), .mv (.l 59), none⟩])
     (.seq (.seq (.region [⟨(.l 60), .mv (.g 10), none⟩, ⟨(.g 61), .un .not (.l 60), none⟩])
     (.cond (.g 61) (.seq (.region [⟨(.l 62), .build [(.int .i64 0), (.int .i64 0), (.int .i64 0), .nils] [], none⟩, ⟨.no, .store 4 (.g 2) (.l 62), none⟩, ⟨(.g 3), .mv (.c (.int .i64 3)), none⟩])
      (.ret))
     (.skip)))
     (.seq (.region [⟨(.l 63), .faddr 3 (.g 6), none⟩, ⟨(.l 64), .load false 1 (.l 63), none⟩, ⟨(.l 65), .load true 3 (.g 8), none⟩, ⟨(.l 66), .lits 3 [(.l 65)], none⟩, ⟨(.l 67), .append 3 32 (.l 64) (.l 66), none⟩, ⟨(.l 68), .faddr 3 (.g 6), none⟩, ⟨.no, .store 1 (.l 68) (.l 67), none⟩])
     (.region [⟨(.l 69), .mv (.g 9), none⟩, ⟨(.g 7), .mv (.l 69), none⟩])))))))))
  (.seq (.seq (.region [⟨(.l 70), .load true 4 (.g 6), none⟩, ⟨(.l 71), .call fn_impl_PacketValid [(.l 70)], none⟩, ⟨(.g 72), .un .not (.l 71), none⟩])
  (.cond (.g 72) (.seq (.region [⟨(.l 73), .build [(.int .i64 0), (.int .i64 0), (.int .i64 0), .nils] [], none⟩, ⟨.no, .store 4 (.g 2) (.l 73), none⟩, ⟨(.g 3), .mv (.c (.int .i64 3)), none⟩])
   (.ret))
  (.skip)))
  (.seq (.region [⟨(.l 74), .load true 4 (.g 6), none⟩, ⟨.no, .store 4 (.g 2) (.l 74), none⟩, ⟨(.g 3), .mv (.c (.int .i64 0)), none⟩])
  (.ret)))))))))))⟩
theorem ln_impl_PacketGet : Linked Tryz.prog fn_impl_PacketGet ac_impl_PacketGet := ⟨Tryz.f26, _, Tryz.func26, rfl, by kernel_rfl, by kernel_rfl, by kernel_rfl, by kernel_rfl⟩
def ac_impl_AssocStep : AF := ⟨[0, 1, 2, 3, 4, 5, 6, 7, 8, 10, 11, 13, 14, 15, 16, 17, 25, 54, 64, 69, 70, 71, 72, 77, 87, 88, 89, 90, 97, 102, 103, 104, 107, 115], [.c 4 true 14, .t 5],
  .seq (.region [⟨(.g 2), .box (.g 0), none⟩, ⟨(.g 3), .box (.g 1), none⟩, ⟨(.g 4), .alloc [(.int .i64 0), (.int .i64 0), (.int .i64 0), (.bool false), (.int .i64 0), (.int .i64 0), (.int .i64 0), .nils, (.int .i64 0), (.int .i64 0), (.int .i64 0), (.int .i64 0), .nils, (.int .i64 0)], none⟩, ⟨(.g 5), .mv (.c .nils), none⟩])
  (.seq (.seq (.region [⟨(.l 18), .load true 14 (.g 2), none⟩, ⟨(.l 19), .call fn_impl_AssocValid [(.l 18)], none⟩, ⟨(.l 20), .un .not (.l 19), none⟩, ⟨(.l 21), .mv (.l 20), none⟩, ⟨(.l 22), .load true 4 (.g 3), (some ((.l 21), false))⟩, ⟨(.l 23), .call fn_impl_PacketValid [(.l 22)], (some ((.l 21), false))⟩, ⟨(.l 24), .un .not (.l 23), (some ((.l 21), false))⟩, ⟨(.g 25), .pick (.l 21) (.c (.bool true)) (.l 24), none⟩])
  (.cond (.g 25) (.seq (.region [⟨(.l 26), .build [(.int .i64 0), (.int .i64 0), (.int .i64 0), (.bool false), (.int .i64 0), (.int .i64 0), (.int .i64 0), .nils, (.int .i64 0), (.int .i64 0), (.int .i64 0), (.int .i64 0), .nils, (.int .i64 0)] [], none⟩, ⟨.no, .store 14 (.g 4) (.l 26), none⟩, ⟨(.g 5), .mv (.c .nils), none⟩])
   (.ret))
  (.skip)))
  (.seq (.region [⟨(.l 27), .faddr 0 (.g 3), none⟩, ⟨(.l 28), .load false 1 (.l 27), none⟩, ⟨(.l 29), .faddr 1 (.g 2), none⟩, ⟨(.l 30), .load false 1 (.l 29), none⟩, ⟨(.l 31), .bin .eql (.l 28) (.l 30), none⟩, ⟨(.l 32), .mv (.l 31), none⟩, ⟨(.l 33), .faddr 1 (.g 3), (some ((.l 32), true))⟩, ⟨(.l 34), .load false 1 (.l 33), (some ((.l 32), true))⟩, ⟨(.l 35), .faddr 0 (.g 2), (some ((.l 32), true))⟩, ⟨(.l 36), .load false 1 (.l 35), (some ((.l 32), true))⟩, ⟨(.l 37), .bin .eql (.l 34) (.l 36), (some ((.l 32), true))⟩, ⟨(.l 38), .pick (.l 32) (.l 37) (.c (.bool false)), none⟩, ⟨(.g 6), .mv (.l 38), none⟩])
  (.seq (.seq (.region [⟨(.l 39), .mv (.g 6), none⟩, ⟨(.l 40), .un .not (.l 39), none⟩, ⟨(.l 41), .mv (.l 40), none⟩, ⟨(.l 42), .faddr 0 (.g 3), (some ((.l 41), true))⟩, ⟨(.l 43), .load false 1 (.l 42), (some ((.l 41), true))⟩, ⟨(.l 44), .faddr 0 (.g 2), (some ((.l 41), true))⟩, ⟨(.l 45), .load false 1 (.l 44), (some ((.l 41), true))⟩, ⟨(.l 46), .bin .neq (.l 43) (.l 45), (some ((.l 41), true))⟩, ⟨(.l 47), .mv (.l 46), (some ((.l 41), true))⟩, ⟨(.l 48), .faddr 1 (.g 3), (some ((.l 47), false))⟩, ⟨(.l 49), .load false 1 (.l 48), (some ((.l 47), false))⟩, ⟨(.l 50), .faddr 1 (.g 2), (some ((.l 47), false))⟩, ⟨(.l 51), .load false 1 (.l 50), (some ((.l 47), false))⟩, ⟨(.l 52), .bin .neq (.l 49) (.l 51), (some ((.l 47), false))⟩, ⟨(.l 53), .pick (.l 47) (.c (.bool true)) (.l 52), (some ((.l 41), true))⟩, ⟨(.g 54), .pick (.l 41) (.l 53) (.c (.bool false)), none⟩])
  (.cond (.g 54) (.seq (.region [⟨(.l 55), .build [(.int .i64 0), (.int .i64 0), (.int .i64 0), (.bool false), (.int .i64 0), (.int .i64 0), (.int .i64 0), .nils, (.int .i64 0), (.int .i64 0), (.int .i64 0), (.int .i64 0), .nils, (.int .i64 0)] [], none⟩, ⟨.no, .store 14 (.g 4) (.l 55), none⟩, ⟨(.g 5), .mv (.c .nils), none⟩])
   (.ret))
  (.skip)))
  (.seq (.region [⟨(.l 56), .build [(.bool false), (.bool false), (.bool false), (.bool false), (.bool false), (.bool false), (.bool false), (.bool false), (.bool false), (.bool false), (.bool false), (.bool false)] [], none⟩, ⟨(.g 7), .alloc [(.bool false), (.bool false), (.bool false), (.bool false), (.bool false), (.bool false), (.bool false), (.bool false), (.bool false), (.bool false), (.bool false), (.bool false)], none⟩, ⟨.no, .store 12 (.g 7) (.l 56), none⟩])
  (.seq (.region [⟨(.l 57), .load true 4 (.g 3), none⟩, ⟨(.l 58), .call fn_impl_PacketAlone [(.l 57)], none⟩, ⟨(.l 59), .un .not (.l 58), none⟩, ⟨(.l 60), .elA 12 1 (.g 7) (.c (.int .i64 1)), none⟩, ⟨.no, .store 1 (.l 60) (.l 59), none⟩])
  (.seq (.region [⟨(.l 61), .faddr 9 (.g 2), none⟩, ⟨(.l 62), .faddr 0 (.l 61), none⟩, ⟨(.l 63), .load false 1 (.l 62), none⟩, ⟨(.g 8), .mv (.l 63), none⟩])
  (.seq (.seq (.region [⟨(.g 64), .mv (.g 6), none⟩])
  (.cond (.g 64) (.region [⟨(.l 65), .faddr 4 (.g 2), none⟩, ⟨(.l 66), .faddr 0 (.l 65), none⟩, ⟨(.l 67), .load false 1 (.l 66), none⟩, ⟨(.g 8), .mv (.l 67), none⟩])
  (.skip)))
  (.seq (.seq (.region [⟨(.l 68), .faddr 3 (.g 3), none⟩, ⟨(.g 69), .load false 1 (.l 68), none⟩, ⟨(.g 70), .len (.g 69), none⟩, ⟨(.g 71), .mv (.c (.int .i64 0)), none⟩])
  (.block 0 (.loop (.seq (.region [⟨(.g 72), .bin .lss (.g 71) (.g 70), none⟩])
    (.seq (.cond (.g 72) (.skip)
    (.exit 0))
    (.seq (.block 1 (.seq (.region [⟨(.l 73), .elS 3 (.g 69) (.g 71), none⟩, ⟨(.l 74), .load true 3 (.l 73), none⟩, ⟨(.g 10), .alloc [(.int .i64 0), (.int .i64 0), (.str [])], none⟩, ⟨.no, .store 3 (.g 10) (.l 74), none⟩])
     (.seq (.region [⟨(.l 75), .faddr 0 (.g 10), none⟩, ⟨(.l 76), .load false 1 (.l 75), none⟩, ⟨(.g 77), .bin .eql (.l 76) (.c (.int .i64 1)), none⟩])
     (.cond (.g 77) (.region [⟨(.g 8), .mv (.c (.int .i64 0)), none⟩])
     (.skip)))))
    (.region [⟨(.l 78), .bin .add (.g 71) (.c (.int .i64 1)), none⟩, ⟨(.g 71), .mv (.l 78), none⟩])))))))
  (.seq (.region [⟨(.l 79), .faddr 2 (.g 3), none⟩, ⟨(.l 80), .load false 1 (.l 79), none⟩, ⟨(.l 81), .mv (.g 8), none⟩, ⟨(.l 82), .bin .neq (.l 80) (.l 81), none⟩, ⟨(.l 83), .elA 12 1 (.g 7) (.c (.int .i64 2)), none⟩, ⟨.no, .store 1 (.l 83) (.l 82), none⟩])
  (.seq (.region [⟨(.l 84), .load true 14 (.g 2), none⟩, ⟨(.l 85), .call fn_impl_copyAssoc [(.l 84)], none⟩, ⟨(.g 11), .alloc [(.int .i64 0), (.int .i64 0), (.int .i64 0), (.bool false), (.int .i64 0), (.int .i64 0), (.int .i64 0), .nils, (.int .i64 0), (.int .i64 0), (.int .i64 0), (.int .i64 0), .nils, (.int .i64 0)], none⟩, ⟨.no, .store 14 (.g 11) (.l 85), none⟩])
  (.seq (.seq (.region [⟨(.l 86), .faddr 3 (.g 3), none⟩, ⟨(.g 87), .load false 1 (.l 86), none⟩, ⟨(.g 88), .len (.g 87), none⟩, ⟨(.g 89), .mv (.c (.int .i64 0)), none⟩])
  (.block 2 (.loop (.seq (.region [⟨(.g 90), .bin .lss (.g 89) (.g 88), none⟩])
    (.seq (.cond (.g 90) (.skip)
    (.exit 2))
    (.seq (.block 3 (.seq (.region [⟨(.l 91), .elS 3 (.g 87) (.g 89), none⟩, ⟨(.l 92), .load true 3 (.l 91), none⟩, ⟨(.g 13), .alloc [(.int .i64 0), (.int .i64 0), (.str [])], none⟩, ⟨.no, .store 3 (.g 13) (.l 92), none⟩])
     (.seq (.region [⟨(.l 93), .load true 3 (.g 13), none⟩, ⟨(.l 94), .mv (.g 6), none⟩, ⟨(.l 95), .call fn_impl_Assoc_handle [(.g 11), (.l 93), (.l 94)], none⟩, ⟨(.g 14), .mv (.l 95), none⟩])
     (.seq (.region [⟨(.l 96), .mv (.g 14), none⟩, ⟨(.g 97), .bin .neq (.l 96) (.c (.int .i64 0)), none⟩])
     (.cond (.g 97) (.region [⟨(.l 98), .mv (.g 14), none⟩, ⟨(.l 99), .elA 12 1 (.g 7) (.l 98), none⟩, ⟨.no, .store 1 (.l 99) (.c (.bool true)), none⟩])
     (.skip))))))
    (.region [⟨(.l 100), .bin .add (.g 89) (.c (.int .i64 1)), none⟩, ⟨(.g 89), .mv (.l 100), none⟩])))))))
  (.seq (.region [⟨(.l 101), .lits 1 [], none⟩, ⟨(.g 15), .mv (.l 101), none⟩])
  (.seq (.seq (.region [⟨(.g 102), .load true 12 (.g 7), none⟩, ⟨(.g 103), .mv (.c (.int .i64 0)), none⟩])
  (.block 4 (.loop (.seq (.region [⟨(.g 104), .bin .lss (.g 103) (.c (.int .i64 12)), none⟩])
    (.seq (.cond (.g 104) (.skip)
    (.exit 4))
    (.seq (.block 5 (.seq (.region [⟨(.l 105), .mv (.g 103), none⟩, ⟨(.l 106), .idxArr 12 false 1 (.g 102) (.g 103), none⟩, ⟨(.g 16), .mv (.l 105), none⟩, ⟨(.g 17), .mv (.l 106), none⟩])
     (.seq (.region [⟨(.g 107), .mv (.g 17), none⟩])
     (.cond (.g 107) (.region [⟨(.l 108), .mv (.g 15), none⟩, ⟨(.l 109), .mv (.g 16), none⟩, ⟨(.l 110), .lits 1 [(.l 109)], none⟩, ⟨(.l 111), .append 1 8 (.l 108) (.l 110), none⟩, ⟨(.g 15), .mv (.l 111), none⟩])
     (.skip)))))
    (.region [⟨(.l 112), .bin .add (.g 103) (.c (.int .i64 1)), none⟩, ⟨(.g 103), .mv (.l 112), none⟩])))))))
  (.seq (.seq (.region [⟨(.l 113), .mv (.g 15), none⟩, ⟨(.l 114), .len (.l 113), none⟩, ⟨(.g 115), .bin .gtr (.l 114) (.c (.int .i64 0)), none⟩])
  (.cond (.g 115) (.seq (.region [⟨(.l 116), .load true 14 (.g 2), none⟩, ⟨(.l 117), .call fn_impl_copyAssoc [(.l 116)], none⟩, ⟨(.l 118), .mv (.g 15), none⟩, ⟨.no, .store 14 (.g 4) (.l 117), none⟩, ⟨(.g 5), .mv (.l 118), none⟩])
   (.ret))
  (.skip)))
  (.seq (.region [⟨(.l 119), .load true 14 (.g 11), none⟩, ⟨.no, .store 14 (.g 4) (.l 119), none⟩, ⟨(.g 5), .mv (.c .nils), none⟩])
  (.ret))))))))))))))))⟩
theorem ln_impl_AssocStep : Linked Tryz.prog fn_impl_AssocStep ac_impl_AssocStep := ⟨Tryz.f28, _, Tryz.func28, rfl, by kernel_rfl, by kernel_rfl, by kernel_rfl, by kernel_rfl⟩
def ac_laws_sameAssoc : AF := ⟨[0, 1, 2, 3, 4], [.t 4],
  .seq (.region [⟨(.g 2), .box (.g 0), none⟩, ⟨(.g 3), .box (.g 1), none⟩, ⟨(.g 4), .mv (.c (.bool false)), none⟩])
  (.seq (.region [⟨(.l 5), .faddr 0 (.g 2), none⟩, ⟨(.l 6), .load false 1 (.l 5), none⟩, ⟨(.l 7), .faddr 0 (.g 3), none⟩, ⟨(.l 8), .load false 1 (.l 7), none⟩, ⟨(.l 9), .bin .eql (.l 6) (.l 8), none⟩, ⟨(.l 10), .mv (.l 9), none⟩, ⟨(.l 11), .faddr 1 (.g 2), (some ((.l 10), true))⟩, ⟨(.l 12), .load false 1 (.l 11), (some ((.l 10), true))⟩, ⟨(.l 13), .faddr 1 (.g 3), (some ((.l 10), true))⟩, ⟨(.l 14), .load false 1 (.l 13), (some ((.l 10), true))⟩, ⟨(.l 15), .bin .eql (.l 12) (.l 14), (some ((.l 10), true))⟩, ⟨(.l 16), .pick (.l 10) (.l 15) (.c (.bool false)), none⟩, ⟨(.l 17), .mv (.l 16), none⟩, ⟨(.l 18), .faddr 2 (.g 2), (some ((.l 17), true))⟩, ⟨(.l 19), .load false 1 (.l 18), (some ((.l 17), true))⟩, ⟨(.l 20), .faddr 2 (.g 3), (some ((.l 17), true))⟩, ⟨(.l 21), .load false 1 (.l 20), (some ((.l 17), true))⟩, ⟨(.l 22), .bin .eql (.l 19) (.l 21), (some ((.l 17), true))⟩, ⟨(.l 23), .pick (.l 17) (.l 22) (.c (.bool false)), none⟩, ⟨(.l 24), .mv (.l 23), none⟩, ⟨(.l 25), .faddr 3 (.g 2), (some ((.l 24), true))⟩, ⟨(.l 26), .load false 1 (.l 25), (some ((.l 24), true))⟩, ⟨(.l 27), .faddr 3 (.g 3), (some ((.l 24), true))⟩, ⟨(.l 28), .load false 1 (.l 27), (some ((.l 24), true))⟩, ⟨(.l 29), .beq false (.l 26) (.l 28), (some ((.l 24), true))⟩, ⟨(.l 30), .pick (.l 24) (.l 29) (.c (.bool false)), none⟩, ⟨(.l 31), .mv (.l 30), none⟩, ⟨(.l 32), .faddr 4 (.g 2), (some ((.l 31), true))⟩, ⟨(.l 33), .load true 5 (.l 32), (some ((.l 31), true))⟩, ⟨(.l 34), .faddr 4 (.g 3), (some ((.l 31), true))⟩, ⟨(.l 35), .load true 5 (.l 34), (some ((.l 31), true))⟩, ⟨(.l 36), .call fn_laws_sameSide [(.l 33), (.l 35)], (some ((.l 31), true))⟩, ⟨(.l 37), .pick (.l 31) (.l 36) (.c (.bool false)), none⟩, ⟨(.l 38), .mv (.l 37), none⟩, ⟨(.l 39), .faddr 9 (.g 2), (some ((.l 38), true))⟩, ⟨(.l 40), .load true 5 (.l 39), (some ((.l 38), true))⟩, ⟨(.l 41), .faddr 9 (.g 3), (some ((.l 38), true))⟩, ⟨(.l 42), .load true 5 (.l 41), (some ((.l 38), true))⟩, ⟨(.l 43), .call fn_laws_sameSide [(.l 40), (.l 42)], (some ((.l 38), true))⟩, ⟨(.l 44), .pick (.l 38) (.l 43) (.c (.bool false)), none⟩, ⟨(.g 4), .mv (.l 44), none⟩])
  (.ret))⟩
theorem ln_laws_sameAssoc : Linked Tryz.prog fn_laws_sameAssoc ac_laws_sameAssoc := ⟨Tryz.f29, _, Tryz.func29, rfl, by kernel_rfl, by kernel_rfl, by kernel_rfl, by kernel_rfl⟩
def ac_spec_l6Open : AF := ⟨[0, 2, 5], [.t 2],
  .seq (.region [⟨(.g 2), .mv (.c .nilp), none⟩])
  (.seq (.seq (.region [⟨(.l 3), .mv (.g 0), none⟩, ⟨(.l 4), .len (.l 3), none⟩, ⟨(.g 5), .bin .gtr (.l 4) (.c (.int .i64 2000)), none⟩])
  (.cond (.g 5) (.region [⟨(.l 6), .mv (.g 0), none⟩, ⟨(.l 7), .cutSl 1 (.l 6) none (some (.c (.int .i64 2000))), none⟩, ⟨(.g 0), .mv (.l 7), none⟩])
  (.skip)))
  (.seq (.region [⟨(.l 8), .mv (.g 0), none⟩, ⟨(.l 9), .build [.nils, (.int .i64 0)] [(0, 1, (.l 8))], none⟩, ⟨(.l 10), .box (.l 9), none⟩, ⟨(.g 2), .mv (.l 10), none⟩])
  (.ret)))⟩
theorem ln_spec_l6Open : Linked Tryz.prog fn_spec_l6Open ac_spec_l6Open := ⟨Tryz.f30, _, Tryz.func30, rfl, by kernel_rfl, by kernel_rfl, by kernel_rfl, by kernel_rfl⟩
def ac_spec_l6Rd_pick : AF := ⟨[0, 1, 4, 5, 6, 24, 36], [.t 4],
  .seq (.region [⟨(.g 4), .mv (.c (.int .i64 0)), none⟩])
  (.seq (.region [⟨(.l 7), .mv (.g 0), none⟩, ⟨(.l 8), .mv (.g 0), none⟩, ⟨(.l 9), .nilc (.l 8), none⟩, ⟨(.l 10), .faddr 1 (.l 9), none⟩, ⟨(.l 11), .load false 1 (.l 10), none⟩, ⟨(.l 12), .bin .add (.l 11) (.c (.int .i64 1)), none⟩, ⟨(.l 13), .nilc (.l 7), none⟩, ⟨(.l 14), .faddr 1 (.l 13), none⟩, ⟨.no, .store 1 (.l 14) (.l 12), none⟩])
  (.seq (.seq (.region [⟨(.l 15), .mv (.g 1), none⟩, ⟨(.l 16), .bin .lss (.l 15) (.c (.int .i64 1)), none⟩, ⟨(.l 17), .mv (.l 16), none⟩, ⟨(.l 18), .mv (.g 0), (some ((.l 17), false))⟩, ⟨(.l 19), .nilc (.l 18), (some ((.l 17), false))⟩, ⟨(.l 20), .faddr 0 (.l 19), (some ((.l 17), false))⟩, ⟨(.l 21), .load false 1 (.l 20), (some ((.l 17), false))⟩, ⟨(.l 22), .len (.l 21), (some ((.l 17), false))⟩, ⟨(.l 23), .bin .eql (.l 22) (.c (.int .i64 0)), (some ((.l 17), false))⟩, ⟨(.g 24), .pick (.l 17) (.c (.bool true)) (.l 23), none⟩])
  (.cond (.g 24) (.seq (.region [⟨(.g 4), .mv (.c (.int .i64 0)), none⟩])
   (.ret))
  (.skip)))
  (.seq (.region [⟨(.l 25), .mv (.g 0), none⟩, ⟨(.l 26), .nilc (.l 25), none⟩, ⟨(.l 27), .faddr 1 (.l 26), none⟩, ⟨(.l 28), .load false 1 (.l 27), none⟩, ⟨(.l 29), .bin .sub (.l 28) (.c (.int .i64 1)), none⟩, ⟨(.g 5), .mv (.l 29), none⟩])
  (.seq (.seq (.region [⟨(.l 30), .mv (.g 5), none⟩, ⟨(.l 31), .mv (.g 0), none⟩, ⟨(.l 32), .nilc (.l 31), none⟩, ⟨(.l 33), .faddr 0 (.l 32), none⟩, ⟨(.l 34), .load false 1 (.l 33), none⟩, ⟨(.l 35), .len (.l 34), none⟩, ⟨(.g 36), .bin .lss (.l 30) (.l 35), none⟩])
  (.cond (.g 36) (.seq (.region [⟨(.l 37), .mv (.g 0), none⟩, ⟨(.l 38), .nilc (.l 37), none⟩, ⟨(.l 39), .faddr 0 (.l 38), none⟩, ⟨(.l 40), .load false 1 (.l 39), none⟩, ⟨(.l 41), .mv (.g 5), none⟩, ⟨(.l 42), .elS 1 (.l 40) (.l 41), none⟩, ⟨(.l 43), .load false 1 (.l 42), none⟩, ⟨(.l 44), .conv .i64 (.l 43), none⟩, ⟨(.l 45), .mv (.g 1), none⟩, ⟨(.l 46), .bin .rem (.l 44) (.l 45), none⟩, ⟨(.g 4), .mv (.l 46), none⟩])
   (.ret))
  (.skip)))
  (.seq (.drawn [⟨(.l 47), .mv (.g 0), none⟩, ⟨(.l 48), .nilc (.l 47), none⟩, ⟨(.l 49), .faddr 0 (.l 48), none⟩, ⟨(.l 50), .load false 1 (.l 49), none⟩, ⟨(.l 51), .mv (.g 5), none⟩, ⟨(.l 52), .mv (.g 0), none⟩, ⟨(.l 53), .nilc (.l 52), none⟩, ⟨(.l 54), .faddr 0 (.l 53), none⟩, ⟨(.l 55), .load false 1 (.l 54), none⟩, ⟨(.l 56), .len (.l 55), none⟩, ⟨(.l 57), .bin .rem (.l 51) (.l 56), none⟩, ⟨(.l 58), .elS 1 (.l 50) (.l 57), none⟩, ⟨(.l 59), .load false 1 (.l 58), none⟩, ⟨(.l 60), .conv .i64 (.l 59), none⟩, ⟨(.l 61), .bin .mul (.l 60) (.c (.int .i64 131)), none⟩, ⟨(.l 62), .mv (.g 0), none⟩, ⟨(.l 63), .nilc (.l 62), none⟩, ⟨(.l 64), .faddr 0 (.l 63), none⟩, ⟨(.l 65), .load false 1 (.l 64), none⟩, ⟨(.l 66), .mv (.g 5), none⟩, ⟨(.l 67), .bin .mul (.l 66) (.c (.int .i64 7)), none⟩, ⟨(.l 68), .bin .add (.l 67) (.c (.int .i64 3)), none⟩, ⟨(.l 69), .mv (.g 0), none⟩, ⟨(.l 70), .nilc (.l 69), none⟩, ⟨(.l 71), .faddr 0 (.l 70), none⟩, ⟨(.l 72), .load false 1 (.l 71), none⟩, ⟨(.l 73), .len (.l 72), none⟩, ⟨(.l 74), .bin .rem (.l 68) (.l 73), none⟩, ⟨(.l 75), .elS 1 (.l 65) (.l 74), none⟩, ⟨(.l 76), .load false 1 (.l 75), none⟩, ⟨(.l 77), .conv .i64 (.l 76), none⟩, ⟨(.l 78), .bin .mul (.l 77) (.c (.int .i64 1117)), none⟩, ⟨(.l 79), .bin .add (.l 61) (.l 78), none⟩, ⟨(.l 80), .mv (.g 5), none⟩, ⟨(.l 81), .bin .mul (.l 80) (.c (.int .i64 29)), none⟩, ⟨(.l 82), .bin .add (.l 79) (.l 81), none⟩, ⟨(.l 83), .mv (.g 5), none⟩, ⟨(.l 84), .mv (.g 0), none⟩, ⟨(.l 85), .nilc (.l 84), none⟩, ⟨(.l 86), .faddr 0 (.l 85), none⟩, ⟨(.l 87), .load false 1 (.l 86), none⟩, ⟨(.l 88), .len (.l 87), none⟩, ⟨(.l 89), .bin .quo (.l 83) (.l 88), none⟩, ⟨(.l 90), .bin .mul (.l 89) (.c (.int .i64 53)), none⟩] [[], [], [], [], [], [], [], [], [3], [3], [], [], [], [], [], [], [], [], [12, 11, 9, 8, 3], [], [], [], [], [], [], [18, 12, 11, 9, 8, 3], [18, 12, 11, 9, 8, 3], [], [12, 11, 9, 8, 3], [12, 11, 9, 8, 3], [], [], [], [], [], [], [], [], [], [], [29, 28, 26, 25, 18, 12, 11, 9, 8, 3], [29, 28, 26, 25, 18, 12, 11, 9, 8, 3], [], []] [⟨(.l 91), .bin .add (.l 82) (.l 90), none⟩, ⟨(.g 6), .mv (.l 91), none⟩])
  (.seq (.region [⟨(.l 92), .mv (.g 6), none⟩, ⟨(.l 93), .mv (.g 6), none⟩, ⟨(.l 94), .bin .quo (.l 93) (.c (.int .i64 64)), none⟩, ⟨(.l 95), .bin .xor (.l 92) (.l 94), none⟩, ⟨(.g 6), .mv (.l 95), none⟩])
  (.seq (.region [⟨(.l 96), .mv (.g 6), none⟩, ⟨(.l 97), .mv (.g 1), none⟩, ⟨(.l 98), .bin .rem (.l 96) (.l 97), none⟩, ⟨(.g 4), .mv (.l 98), none⟩])
  (.ret))))))))⟩
theorem ln_spec_l6Rd_pick : Linked Tryz.prog fn_spec_l6Rd_pick ac_spec_l6Rd_pick := ⟨Tryz.f31, _, Tryz.func31, rfl, by kernel_rfl, by kernel_rfl, by kernel_rfl, by kernel_rfl⟩
def ac_spec_l91Records : AF := ⟨[0, 2, 3, 4, 5, 6, 12, 20, 36, 38, 39, 50], [.t 2],
  .seq (.region [⟨(.g 2), .mv (.c .nils), none⟩])
  (.seq (.region [⟨(.l 7), .lits 2 [], none⟩, ⟨(.g 3), .mv (.l 7), none⟩])
  (.seq (.region [⟨(.l 8), .mv (.g 0), none⟩, ⟨(.l 9), .call fn_spec_l6Rd_pick [(.l 8), (.c (.int .i64 4))], none⟩, ⟨(.g 4), .mv (.l 9), none⟩])
  (.seq (.seq (.region [⟨(.l 10), .mv (.g 0), none⟩, ⟨(.l 11), .call fn_spec_l6Rd_pick [(.l 10), (.c (.int .i64 24))], none⟩, ⟨(.g 12), .bin .eql (.l 11) (.c (.int .i64 0)), none⟩])
  (.cond (.g 12) (.region [⟨(.l 13), .mv (.g 0), none⟩, ⟨(.l 14), .call fn_spec_l6Rd_pick [(.l 13), (.c (.int .i64 5))], none⟩, ⟨(.l 15), .bin .add (.c (.int .i64 58)) (.l 14), none⟩, ⟨(.g 4), .mv (.l 15), none⟩])
  (.skip)))
  (.seq (.region [⟨(.l 16), .mv (.g 0), none⟩, ⟨(.l 17), .call fn_spec_l6Rd_pick [(.l 16), (.c (.int .i64 5))], none⟩, ⟨(.g 5), .mv (.l 17), none⟩])
  (.seq (.seq (.region [⟨(.g 6), .mv (.c (.int .i64 0)), none⟩])
  (.block 0 (.loop (.seq (.seq (.region [⟨(.l 18), .mv (.g 6), none⟩, ⟨(.l 19), .mv (.g 4), none⟩, ⟨(.g 20), .bin .lss (.l 18) (.l 19), none⟩])
    (.cond (.g 20) (.skip)
    (.exit 0)))
    (.seq (.block 1 (.seq (.region [⟨(.l 23), .mv (.g 3), none⟩, ⟨(.l 24), .mv (.g 5), none⟩, ⟨(.l 25), .mv (.g 0), none⟩, ⟨(.l 26), .call fn_spec_l91Bytes [(.l 25), (.c (.int .i64 6))], none⟩, ⟨(.l 27), .build [(.int .i64 0), (.str [])] [(0, 1, (.l 24)), (1, 1, (.l 26))], none⟩, ⟨(.l 28), .lits 2 [(.l 27)], none⟩, ⟨(.l 29), .append 2 24 (.l 23) (.l 28), none⟩, ⟨(.g 3), .mv (.l 29), none⟩])
     (.region [⟨(.l 30), .mv (.g 5), none⟩, ⟨(.l 31), .mv (.g 0), none⟩, ⟨(.l 32), .call fn_spec_l6Rd_pick [(.l 31), (.c (.int .i64 3))], none⟩, ⟨(.l 33), .bin .add (.l 30) (.l 32), none⟩, ⟨(.g 5), .mv (.l 33), none⟩])))
    (.region [⟨(.l 21), .mv (.g 6), none⟩, ⟨(.l 22), .bin .add (.l 21) (.c (.int .i64 1)), none⟩, ⟨(.g 6), .mv (.l 22), none⟩]))))))
  (.seq (.seq (.region [⟨(.l 34), .mv (.g 3), none⟩, ⟨(.l 35), .len (.l 34), none⟩, ⟨(.g 36), .bin .gtr (.l 35) (.c (.int .i64 0)), none⟩])
  (.cond (.g 36) (.seq (.region [⟨(.l 37), .mv (.g 0), none⟩, ⟨(.g 38), .call fn_spec_l6Rd_pick [(.l 37), (.c (.int .i64 20))], none⟩])
   (.block 2 (.seq (.region [⟨(.l 40), .bin .eql (.g 38) (.c (.int .i64 0)), none⟩, ⟨(.g 39), .mv (.l 40), none⟩])
    (.cond (.g 39) (.region [⟨(.l 41), .mv (.g 3), none⟩, ⟨(.l 42), .mv (.g 0), none⟩, ⟨(.l 43), .mv (.g 3), none⟩, ⟨(.l 44), .len (.l 43), none⟩, ⟨(.l 45), .call fn_spec_l6Rd_pick [(.l 42), (.l 44)], none⟩, ⟨(.l 46), .mv (.g 0), none⟩, ⟨(.l 47), .call fn_spec_l91Long [(.l 46)], none⟩, ⟨(.l 48), .elS 2 (.l 41) (.l 45), none⟩, ⟨(.l 49), .faddr 0 (.l 48), none⟩, ⟨.no, .store 1 (.l 49) (.l 47), none⟩])
    (.seq (.region [⟨(.l 51), .bin .eql (.g 38) (.c (.int .i64 1)), none⟩, ⟨(.g 50), .mv (.l 51), none⟩])
     (.cond (.g 50) (.region [⟨(.l 52), .mv (.g 3), none⟩, ⟨(.l 53), .mv (.g 0), none⟩, ⟨(.l 54), .mv (.g 3), none⟩, ⟨(.l 55), .len (.l 54), none⟩, ⟨(.l 56), .call fn_spec_l6Rd_pick [(.l 53), (.l 55)], none⟩, ⟨(.l 57), .mv (.g 0), none⟩, ⟨(.l 58), .call fn_spec_l6Rd_pick [(.l 57), (.c (.int .i64 3))], none⟩, ⟨(.l 59), .bin .add (.c (.int .i64 119)) (.l 58), none⟩, ⟨(.l 60), .call fn_spec_l6Many [(.c (.str [122])), (.l 59)], none⟩, ⟨(.l 61), .elS 2 (.l 52) (.l 56), none⟩, ⟨(.l 62), .faddr 1 (.l 61), none⟩, ⟨.no, .store 1 (.l 62) (.l 60), none⟩])
     (.skip)))))))
  (.skip)))
  (.seq (.region [⟨(.l 63), .mv (.g 3), none⟩, ⟨(.g 2), .mv (.l 63), none⟩])
  (.ret))))))))⟩
theorem ln_spec_l91Records : Linked Tryz.prog fn_spec_l91Records ac_spec_l91Records := ⟨Tryz.f32, _, Tryz.func32, rfl, by kernel_rfl, by kernel_rfl, by kernel_rfl, by kernel_rfl⟩
def ac_spec_l92Tape : AF := ⟨[0, 2, 3, 4, 5, 6, 7, 22, 30, 31, 43, 55, 68], [.t 2],
  .seq (.region [⟨(.g 2), .mv (.c .nils), none⟩])
  (.seq (.region [⟨(.l 8), .mv (.g 0), none⟩, ⟨(.l 9), .call fn_spec_l92Talk [(.l 8)], none⟩, ⟨(.l 10), .mv (.g 0), none⟩, ⟨(.l 11), .call fn_spec_l6Rd_pick [(.l 10), (.c (.int .i64 9))], none⟩, ⟨(.l 12), .call fn_spec_TalkRecords [(.l 9), (.l 11)], none⟩, ⟨(.g 3), .mv (.l 12), none⟩])
  (.seq (.region [⟨(.l 13), .mv (.g 0), none⟩, ⟨(.l 14), .call fn_spec_l6Rd_pick [(.l 13), (.c (.int .i64 4))], none⟩, ⟨(.g 4), .mv (.l 14), none⟩])
  (.seq (.seq (.region [⟨(.g 5), .mv (.c (.int .i64 0)), none⟩])
  (.block 0 (.loop (.seq (.seq (.region [⟨(.l 15), .mv (.g 5), none⟩, ⟨(.l 16), .mv (.g 4), none⟩, ⟨(.l 17), .bin .lss (.l 15) (.l 16), none⟩, ⟨(.l 18), .mv (.l 17), none⟩, ⟨(.l 19), .mv (.g 3), (some ((.l 18), true))⟩, ⟨(.l 20), .len (.l 19), (some ((.l 18), true))⟩, ⟨(.l 21), .bin .gtr (.l 20) (.c (.int .i64 1)), (some ((.l 18), true))⟩, ⟨(.g 22), .pick (.l 18) (.l 21) (.c (.bool false)), none⟩])
    (.cond (.g 22) (.skip)
    (.exit 0)))
    (.seq (.block 1 (.seq (.region [⟨(.l 25), .mv (.g 0), none⟩, ⟨(.l 26), .mv (.g 3), none⟩, ⟨(.l 27), .len (.l 26), none⟩, ⟨(.l 28), .call fn_spec_l6Rd_pick [(.l 25), (.l 27)], none⟩, ⟨(.g 6), .mv (.l 28), none⟩])
     (.seq (.region [⟨(.l 29), .mv (.g 0), none⟩, ⟨(.g 30), .call fn_spec_l6Rd_pick [(.l 29), (.c (.int .i64 4))], none⟩])
     (.block 2 (.seq (.region [⟨(.l 32), .bin .eql (.g 30) (.c (.int .i64 0)), none⟩, ⟨(.g 31), .mv (.l 32), none⟩])
      (.cond (.g 31) (.drawn [⟨(.l 33), .lits 2 [], none⟩, ⟨(.l 34), .mv (.g 3), none⟩, ⟨(.l 35), .mv (.g 6), none⟩, ⟨(.l 36), .cutSl 2 (.l 34) none (some (.l 35)), none⟩, ⟨(.l 37), .append 2 24 (.l 33) (.l 36), none⟩, ⟨(.l 38), .mv (.g 3), none⟩, ⟨(.l 39), .mv (.g 6), none⟩, ⟨(.l 40), .bin .add (.l 39) (.c (.int .i64 1)), none⟩, ⟨(.l 41), .cutSl 2 (.l 38) (some (.l 40)) none, none⟩] [[], [], [], [0], [], [], [], [], [4, 3, 0]] [⟨(.l 42), .append 2 24 (.l 37) (.l 41), none⟩, ⟨(.g 3), .mv (.l 42), none⟩])
      (.seq (.region [⟨(.l 44), .bin .eql (.g 30) (.c (.int .i64 1)), none⟩, ⟨(.g 43), .mv (.l 44), none⟩])
       (.cond (.g 43) (.drawn [⟨(.l 45), .lits 2 [], none⟩, ⟨(.l 46), .mv (.g 3), none⟩, ⟨(.l 47), .mv (.g 6), none⟩, ⟨(.l 48), .bin .add (.l 47) (.c (.int .i64 1)), none⟩, ⟨(.l 49), .cutSl 2 (.l 46) none (some (.l 48)), none⟩, ⟨(.l 50), .append 2 24 (.l 45) (.l 49), none⟩, ⟨(.l 51), .mv (.g 3), none⟩, ⟨(.l 52), .mv (.g 6), none⟩, ⟨(.l 53), .cutSl 2 (.l 51) (some (.l 52)) none, none⟩] [[], [], [], [], [0], [], [], [], [5, 4, 0]] [⟨(.l 54), .append 2 24 (.l 50) (.l 53), none⟩, ⟨(.g 3), .mv (.l 54), none⟩])
       (.seq (.region [⟨(.l 56), .bin .eql (.g 30) (.c (.int .i64 2)), none⟩, ⟨(.g 55), .mv (.l 56), none⟩])
        (.cond (.g 55) (.region [⟨(.l 57), .mv (.g 3), none⟩, ⟨(.l 58), .mv (.g 6), none⟩, ⟨(.l 59), .mv (.g 0), none⟩, ⟨(.l 60), .mv (.g 3), none⟩, ⟨(.l 61), .mv (.g 6), none⟩, ⟨(.l 62), .elS 2 (.l 60) (.l 61), none⟩, ⟨(.l 63), .faddr 1 (.l 62), none⟩, ⟨(.l 64), .load false 1 (.l 63), none⟩, ⟨(.l 65), .call fn_spec_l91Spoil [(.l 59), (.l 64)], none⟩, ⟨(.l 66), .elS 2 (.l 57) (.l 58), none⟩, ⟨(.l 67), .faddr 1 (.l 66), none⟩, ⟨.no, .store 1 (.l 67) (.l 65), none⟩])
        (.seq (.region [⟨(.l 69), .bin .eql (.g 30) (.c (.int .i64 3)), none⟩, ⟨(.g 68), .mv (.l 69), none⟩])
         (.cond (.g 68) (.seq (.region [⟨(.l 70), .mv (.g 3), none⟩, ⟨(.l 71), .mv (.g 6), none⟩, ⟨(.l 72), .elS 2 (.l 70) (.l 71), none⟩, ⟨(.l 73), .faddr 1 (.l 72), none⟩, ⟨(.l 74), .load false 1 (.l 73), none⟩, ⟨(.g 7), .mv (.l 74), none⟩])
          (.seq (.region [⟨(.l 75), .mv (.g 3), none⟩, ⟨(.l 76), .mv (.g 6), none⟩, ⟨(.l 77), .mv (.g 3), none⟩, ⟨(.l 78), .mv (.g 6), none⟩, ⟨(.l 79), .bin .quo (.l 78) (.c (.int .i64 2)), none⟩, ⟨(.l 80), .elS 2 (.l 77) (.l 79), none⟩, ⟨(.l 81), .faddr 1 (.l 80), none⟩, ⟨(.l 82), .load false 1 (.l 81), none⟩, ⟨(.l 83), .elS 2 (.l 75) (.l 76), none⟩, ⟨(.l 84), .faddr 1 (.l 83), none⟩, ⟨.no, .store 1 (.l 84) (.l 82), none⟩])
          (.region [⟨(.l 85), .mv (.g 3), none⟩, ⟨(.l 86), .mv (.g 6), none⟩, ⟨(.l 87), .bin .quo (.l 86) (.c (.int .i64 2)), none⟩, ⟨(.l 88), .mv (.g 7), none⟩, ⟨(.l 89), .elS 2 (.l 85) (.l 87), none⟩, ⟨(.l 90), .faddr 1 (.l 89), none⟩, ⟨.no, .store 1 (.l 90) (.l 88), none⟩])))
         (.skip)))))))))))))
    (.region [⟨(.l 23), .mv (.g 5), none⟩, ⟨(.l 24), .bin .add (.l 23) (.c (.int .i64 1)), none⟩, ⟨(.g 5), .mv (.l 24), none⟩]))))))
  (.seq (.region [⟨(.l 91), .mv (.g 3), none⟩, ⟨(.g 2), .mv (.l 91), none⟩])
  (.ret)))))⟩
theorem ln_spec_l92Tape : Linked Tryz.prog fn_spec_l92Tape ac_spec_l92Tape := ⟨Tryz.f33, _, Tryz.func33, rfl, by kernel_rfl, by kernel_rfl, by kernel_rfl, by kernel_rfl⟩
def ac_impl_CaptureValid : AF := ⟨[0, 2, 3, 5, 8, 9, 10, 11, 12, 29], [.t 2],
  .seq (.region [⟨(.g 2), .mv (.c (.bool false)), none⟩])
  (.seq (.seq (.region [⟨(.l 6), .mv (.g 0), none⟩, ⟨(.l 7), .len (.l 6), none⟩, ⟨(.g 8), .bin .gtr (.l 7) (.c (.int .i64 60)), none⟩])
  (.cond (.g 8) (.seq (.region [⟨(.g 2), .mv (.c (.bool false)), none⟩])
   (.ret))
  (.skip)))
  (.seq (.region [⟨(.g 3), .mv (.c (.int .i64 0)), none⟩])
  (.seq (.seq (.region [⟨(.g 9), .mv (.g 0), none⟩, ⟨(.g 10), .len (.g 9), none⟩, ⟨(.g 11), .mv (.c (.int .i64 0)), none⟩])
  (.block 0 (.loop (.seq (.region [⟨(.g 12), .bin .lss (.g 11) (.g 10), none⟩])
    (.seq (.cond (.g 12) (.skip)
    (.exit 0))
    (.seq (.block 1 (.seq (.region [⟨(.l 13), .elS 2 (.g 9) (.g 11), none⟩, ⟨(.l 14), .load true 2 (.l 13), none⟩, ⟨(.g 5), .alloc [(.int .i64 0), (.str [])], none⟩, ⟨.no, .store 2 (.g 5) (.l 14), none⟩])
     (.seq (.seq (.region [⟨(.l 15), .faddr 0 (.g 5), none⟩, ⟨(.l 16), .load false 1 (.l 15), none⟩, ⟨(.l 17), .mv (.g 3), none⟩, ⟨(.l 18), .bin .lss (.l 16) (.l 17), none⟩, ⟨(.l 19), .mv (.l 18), none⟩, ⟨(.l 20), .faddr 0 (.g 5), (some ((.l 19), false))⟩, ⟨(.l 21), .load false 1 (.l 20), (some ((.l 19), false))⟩, ⟨(.l 22), .bin .gtr (.l 21) (.c (.int .i64 4294967295)), (some ((.l 19), false))⟩, ⟨(.l 23), .pick (.l 19) (.c (.bool true)) (.l 22), none⟩, ⟨(.l 24), .mv (.l 23), none⟩, ⟨(.l 25), .faddr 1 (.g 5), (some ((.l 24), false))⟩, ⟨(.l 26), .load false 1 (.l 25), (some ((.l 24), false))⟩, ⟨(.l 27), .lenStr (.l 26), (some ((.l 24), false))⟩, ⟨(.l 28), .bin .gtr (.l 27) (.c (.int .i64 120)), (some ((.l 24), false))⟩, ⟨(.g 29), .pick (.l 24) (.c (.bool true)) (.l 28), none⟩])
     (.cond (.g 29) (.seq (.region [⟨(.g 2), .mv (.c (.bool false)), none⟩])
      (.ret))
     (.skip)))
     (.region [⟨(.l 30), .faddr 0 (.g 5), none⟩, ⟨(.l 31), .load false 1 (.l 30), none⟩, ⟨(.g 3), .mv (.l 31), none⟩]))))
    (.region [⟨(.l 32), .bin .add (.g 11) (.c (.int .i64 1)), none⟩, ⟨(.g 11), .mv (.l 32), none⟩])))))))
  (.seq (.region [⟨(.g 2), .mv (.c (.bool true)), none⟩])
  (.ret)))))⟩
theorem ln_impl_CaptureValid : Linked Tryz.prog fn_impl_CaptureValid ac_impl_CaptureValid := ⟨Tryz.f34, _, Tryz.func34, rfl, by kernel_rfl, by kernel_rfl, by kernel_rfl, by kernel_rfl⟩
def ac_spec_l32Step : AF := ⟨[0, 1, 2, 4, 5, 6, 7, 8, 10, 11, 12, 13, 26, 65, 74, 89, 111], [.c 4 true 3],
  .seq (.region [⟨(.g 2), .box (.g 0), none⟩, ⟨(.g 4), .alloc [(.int .i64 0), .nils, .nils], none⟩])
  (.seq (.region [⟨(.l 14), .load true 3 (.g 2), none⟩, ⟨(.l 15), .call fn_spec_l32Copy [(.l 14)], none⟩, ⟨(.g 5), .alloc [(.int .i64 0), .nils, .nils], none⟩, ⟨.no, .store 3 (.g 5) (.l 15), none⟩])
  (.seq (.region [⟨(.l 16), .faddr 0 (.g 2), none⟩, ⟨(.l 17), .load false 1 (.l 16), none⟩, ⟨(.l 18), .bin .add (.l 17) (.c (.int .i64 1)), none⟩, ⟨(.l 19), .faddr 0 (.g 5), none⟩, ⟨.no, .store 1 (.l 19) (.l 18), none⟩])
  (.seq (.region [⟨(.l 21), .mv (.g 1), none⟩, ⟨(.l 22), .call fn_spec_PacketGet [(.l 21)], none⟩, ⟨(.l 20), .mv (.l 22), none⟩, ⟨(.l 23), .extract (.l 20) 0, none⟩, ⟨(.l 24), .extract (.l 20) 1, none⟩, ⟨(.g 6), .alloc [(.int .i64 0), (.int .i64 0), (.int .i64 0), .nils], none⟩, ⟨.no, .store 4 (.g 6) (.l 23), none⟩, ⟨(.g 7), .mv (.l 24), none⟩])
  (.seq (.seq (.region [⟨(.l 25), .mv (.g 7), none⟩, ⟨(.g 26), .bin .neq (.l 25) (.c (.int .i64 0)), none⟩])
  (.cond (.g 26) (.seq (.region [⟨(.l 27), .load true 3 (.g 5), none⟩, ⟨(.l 28), .mv (.g 7), none⟩, ⟨(.l 29), .bin .add (.c (.int .i64 101)) (.l 28), none⟩, ⟨(.l 30), .bin .sub (.l 29) (.c (.int .i64 1)), none⟩, ⟨(.l 31), .call fn_spec_l32Note [(.l 27), (.l 30)], none⟩, ⟨.no, .store 3 (.g 4) (.l 31), none⟩])
   (.ret))
  (.skip)))
  (.seq (.region [⟨(.l 32), .load true 3 (.g 5), none⟩, ⟨(.l 33), .faddr 0 (.g 6), none⟩, ⟨(.l 34), .load false 1 (.l 33), none⟩, ⟨(.l 35), .faddr 1 (.g 6), none⟩, ⟨(.l 36), .load false 1 (.l 35), none⟩, ⟨(.l 37), .call fn_spec_l32Find [(.l 32), (.l 34), (.l 36)], none⟩, ⟨(.g 8), .mv (.l 37), none⟩])
  (.seq (.seq (.region [⟨(.l 38), .mv (.g 8), none⟩, ⟨(.l 39), .bin .geq (.l 38) (.c (.int .i64 0)), none⟩, ⟨(.l 40), .mv (.l 39), none⟩, ⟨(.l 41), .faddr 1 (.g 5), (some ((.l 40), true))⟩, ⟨(.l 42), .load false 1 (.l 41), (some ((.l 40), true))⟩, ⟨(.l 43), .mv (.g 8), (some ((.l 40), true))⟩, ⟨(.l 44), .elS 14 (.l 42) (.l 43), (some ((.l 40), true))⟩, ⟨(.l 45), .faddr 2 (.l 44), (some ((.l 40), true))⟩, ⟨(.l 46), .load false 1 (.l 45), (some ((.l 40), true))⟩, ⟨(.l 47), .bin .eql (.l 46) (.c (.int .i64 7)), (some ((.l 40), true))⟩, ⟨(.l 48), .pick (.l 40) (.l 47) (.c (.bool false)), none⟩, ⟨(.l 49), .mv (.l 48), none⟩, ⟨(.l 50), .faddr 3 (.g 6), (some ((.l 49), true))⟩, ⟨(.l 51), .load false 1 (.l 50), (some ((.l 49), true))⟩, ⟨(.l 52), .elS 3 (.l 51) (.c (.int .i64 0)), (some ((.l 49), true))⟩, ⟨(.l 53), .faddr 0 (.l 52), (some ((.l 49), true))⟩, ⟨(.l 54), .load false 1 (.l 53), (some ((.l 49), true))⟩, ⟨(.l 55), .bin .eql (.l 54) (.c (.int .i64 1)), (some ((.l 49), true))⟩, ⟨(.l 56), .pick (.l 49) (.l 55) (.c (.bool false)), none⟩, ⟨(.l 57), .mv (.l 56), none⟩, ⟨(.l 58), .load true 4 (.g 6), (some ((.l 57), true))⟩, ⟨(.l 59), .call fn_spec_PacketAlone [(.l 58)], (some ((.l 57), true))⟩, ⟨(.l 60), .pick (.l 57) (.l 59) (.c (.bool false)), none⟩, ⟨(.l 61), .mv (.l 60), none⟩, ⟨(.l 62), .faddr 2 (.g 6), (some ((.l 61), true))⟩, ⟨(.l 63), .load false 1 (.l 62), (some ((.l 61), true))⟩, ⟨(.l 64), .bin .eql (.l 63) (.c (.int .i64 0)), (some ((.l 61), true))⟩, ⟨(.g 65), .pick (.l 61) (.l 64) (.c (.bool false)), none⟩])
  (.cond (.g 65) (.seq (.region [⟨(.l 67), .faddr 3 (.g 6), none⟩, ⟨(.l 68), .load false 1 (.l 67), none⟩, ⟨(.l 69), .elS 3 (.l 68) (.c (.int .i64 0)), none⟩, ⟨(.l 70), .load true 3 (.l 69), none⟩, ⟨(.l 71), .call fn_spec_InitGet [(.l 70)], none⟩, ⟨(.l 66), .mv (.l 71), none⟩, ⟨(.l 72), .extract (.l 66) 0, none⟩, ⟨(.l 73), .extract (.l 66) 1, none⟩, ⟨(.l 9), .alloc [(.int .i64 0), (.int .i64 0), (.int .i64 0), (.int .i64 0)], none⟩, ⟨.no, .store 4 (.l 9) (.l 72), none⟩, ⟨(.g 10), .mv (.l 73), none⟩])
   (.seq (.region [⟨(.g 74), .mv (.g 10), none⟩])
   (.cond (.g 74) (.seq (.drawn [⟨(.l 75), .lits 14 [], none⟩, ⟨(.l 76), .faddr 1 (.g 5), none⟩, ⟨(.l 77), .load false 1 (.l 76), none⟩, ⟨(.l 78), .mv (.g 8), none⟩, ⟨(.l 79), .cutSl 14 (.l 77) none (some (.l 78)), none⟩, ⟨(.l 80), .append 14 144 (.l 75) (.l 79), none⟩, ⟨(.l 81), .faddr 1 (.g 5), none⟩, ⟨(.l 82), .load false 1 (.l 81), none⟩, ⟨(.l 83), .mv (.g 8), none⟩, ⟨(.l 84), .bin .add (.l 83) (.c (.int .i64 1)), none⟩, ⟨(.l 85), .cutSl 14 (.l 82) (some (.l 84)) none, none⟩] [[], [], [0], [], [0], [], [], [5, 4, 2, 0], [], [], [5, 4, 2, 0]] [⟨(.l 86), .append 14 144 (.l 80) (.l 85), none⟩, ⟨(.l 87), .faddr 1 (.g 5), none⟩, ⟨.no, .store 1 (.l 87) (.l 86), none⟩])
    (.region [⟨(.g 8), .mv (.c (.int .i64 (-1))), none⟩]))
   (.skip))))
  (.skip)))
  (.seq (.seq (.region [⟨(.l 88), .mv (.g 8), none⟩, ⟨(.g 89), .bin .lss (.l 88) (.c (.int .i64 0)), none⟩])
  (.cond (.g 89) (.seq (.region [⟨(.l 90), .load true 3 (.g 5), none⟩, ⟨(.l 91), .load true 4 (.g 6), none⟩, ⟨(.l 92), .call fn_spec_l32Begin [(.l 90), (.l 91)], none⟩, ⟨.no, .store 3 (.g 4) (.l 92), none⟩])
   (.ret))
  (.skip)))
  (.seq (.drawn [⟨(.l 94), .faddr 1 (.g 5), none⟩, ⟨(.l 95), .load false 1 (.l 94), none⟩, ⟨(.l 96), .mv (.g 8), none⟩, ⟨(.l 97), .elS 14 (.l 95) (.l 96), none⟩, ⟨(.l 98), .load true 14 (.l 97), none⟩, ⟨(.l 99), .load true 4 (.g 6), none⟩, ⟨(.l 100), .call fn_spec_AssocStep [(.l 98), (.l 99)], none⟩, ⟨(.l 93), .mv (.l 100), none⟩, ⟨(.l 101), .extract (.l 93) 0, none⟩, ⟨(.l 102), .extract (.l 93) 1, none⟩, ⟨(.g 11), .alloc [(.int .i64 0), (.int .i64 0), (.int .i64 0), (.bool false), (.int .i64 0), (.int .i64 0), (.int .i64 0), .nils, (.int .i64 0), (.int .i64 0), (.int .i64 0), (.int .i64 0), .nils, (.int .i64 0)], none⟩, ⟨.no, .store 14 (.g 11) (.l 101), none⟩] [[], [], [], [], [], [4, 3, 1], [], [], [], [], [6, 5, 4, 3, 1], []] [⟨(.g 12), .mv (.l 102), none⟩])
  (.seq (.region [⟨(.l 103), .faddr 1 (.g 5), none⟩, ⟨(.l 104), .load false 1 (.l 103), none⟩, ⟨(.l 105), .mv (.g 8), none⟩, ⟨(.l 106), .load true 14 (.g 11), none⟩, ⟨(.l 107), .elS 14 (.l 104) (.l 105), none⟩, ⟨.no, .store 14 (.l 107) (.l 106), none⟩])
  (.seq (.seq (.region [⟨(.g 13), .mv (.c (.int .i64 0)), none⟩])
  (.block 0 (.loop (.seq (.seq (.region [⟨(.l 108), .mv (.g 13), none⟩, ⟨(.l 109), .mv (.g 12), none⟩, ⟨(.l 110), .len (.l 109), none⟩, ⟨(.g 111), .bin .lss (.l 108) (.l 110), none⟩])
    (.cond (.g 111) (.skip)
    (.exit 0)))
    (.seq (.block 1 (.drawn [⟨(.l 114), .load true 3 (.g 5), none⟩, ⟨(.l 115), .mv (.g 12), none⟩, ⟨(.l 116), .mv (.g 13), none⟩, ⟨(.l 117), .elS 1 (.l 115) (.l 116), none⟩, ⟨(.l 118), .load false 1 (.l 117), none⟩] [[], [], [], [0], [0]] [⟨(.l 119), .call fn_spec_l32Note [(.l 114), (.l 118)], none⟩, ⟨.no, .store 3 (.g 5) (.l 119), none⟩]))
    (.region [⟨(.l 112), .mv (.g 13), none⟩, ⟨(.l 113), .bin .add (.l 112) (.c (.int .i64 1)), none⟩, ⟨(.g 13), .mv (.l 113), none⟩]))))))
  (.seq (.region [⟨(.l 120), .load true 3 (.g 5), none⟩, ⟨.no, .store 3 (.g 4) (.l 120), none⟩])
  (.ret))))))))))))⟩
theorem ln_spec_l32Step : Linked Tryz.prog fn_spec_l32Step ac_spec_l32Step := ⟨Tryz.f35, _, Tryz.func35, rfl, by kernel_rfl, by kernel_rfl, by kernel_rfl, by kernel_rfl⟩
def ac_spec_l14Record : AF := ⟨[0, 1, 2, 4], [.t 4],
  .seq (.region [⟨(.g 2), .box (.g 0), none⟩, ⟨(.g 4), .mv (.c (.bool false)), none⟩])
  (.seq (.region [⟨(.l 5), .faddr 0 (.g 2), none⟩, ⟨(.l 6), .load false 1 (.l 5), none⟩, ⟨(.l 7), .mv (.g 1), none⟩, ⟨(.l 8), .call fn_spec_l6In [(.l 6), (.l 7), (.c (.int .i64 4294967295))], none⟩, ⟨(.l 9), .mv (.l 8), none⟩, ⟨(.l 10), .faddr 1 (.g 2), (some ((.l 9), true))⟩, ⟨(.l 11), .load false 1 (.l 10), (some ((.l 9), true))⟩, ⟨(.l 12), .lenStr (.l 11), (some ((.l 9), true))⟩, ⟨(.l 13), .bin .leq (.l 12) (.c (.int .i64 120)), (some ((.l 9), true))⟩, ⟨(.l 14), .pick (.l 9) (.l 13) (.c (.bool false)), none⟩, ⟨(.g 4), .mv (.l 14), none⟩])
  (.ret))⟩
theorem ln_spec_l14Record : Linked Tryz.prog fn_spec_l14Record ac_spec_l14Record := ⟨Tryz.f36, _, Tryz.func36, rfl, by kernel_rfl, by kernel_rfl, by kernel_rfl, by kernel_rfl⟩
def ac_impl_copyAssoc : AF := ⟨[0, 1, 2], [.c 2 true 14],
  .seq (.region [⟨(.g 1), .box (.g 0), none⟩, ⟨(.g 2), .alloc [(.int .i64 0), (.int .i64 0), (.int .i64 0), (.bool false), (.int .i64 0), (.int .i64 0), (.int .i64 0), .nils, (.int .i64 0), (.int .i64 0), (.int .i64 0), (.int .i64 0), .nils, (.int .i64 0)], none⟩])
  (.seq (.region [⟨(.l 3), .lits 7 [], none⟩, ⟨(.l 4), .faddr 4 (.g 1), none⟩, ⟨(.l 5), .faddr 3 (.l 4), none⟩, ⟨(.l 6), .load false 1 (.l 5), none⟩, ⟨(.l 7), .append 7 48 (.l 3) (.l 6), none⟩, ⟨(.l 8), .faddr 4 (.g 1), none⟩, ⟨(.l 9), .faddr 3 (.l 8), none⟩, ⟨.no, .store 1 (.l 9) (.l 7), none⟩])
  (.seq (.region [⟨(.l 10), .lits 7 [], none⟩, ⟨(.l 11), .faddr 9 (.g 1), none⟩, ⟨(.l 12), .faddr 3 (.l 11), none⟩, ⟨(.l 13), .load false 1 (.l 12), none⟩, ⟨(.l 14), .append 7 48 (.l 10) (.l 13), none⟩, ⟨(.l 15), .faddr 9 (.g 1), none⟩, ⟨(.l 16), .faddr 3 (.l 15), none⟩, ⟨.no, .store 1 (.l 16) (.l 14), none⟩])
  (.seq (.region [⟨(.l 17), .load true 14 (.g 1), none⟩, ⟨.no, .store 14 (.g 2) (.l 17), none⟩])
  (.ret))))⟩
theorem ln_impl_copyAssoc : Linked Tryz.prog fn_impl_copyAssoc ac_impl_copyAssoc := ⟨Tryz.f37, _, Tryz.func37, rfl, by kernel_rfl, by kernel_rfl, by kernel_rfl, by kernel_rfl⟩
def ac_impl_samePorts : AF := ⟨[0, 1, 2, 3, 6], [.t 6],
  .seq (.region [⟨(.g 3), .box (.g 0), none⟩, ⟨(.g 6), .mv (.c (.bool false)), none⟩])
  (.seq (.region [⟨(.l 7), .faddr 0 (.g 3), none⟩, ⟨(.l 8), .load false 1 (.l 7), none⟩, ⟨(.l 9), .mv (.g 1), none⟩, ⟨(.l 10), .bin .eql (.l 8) (.l 9), none⟩, ⟨(.l 11), .mv (.l 10), none⟩, ⟨(.l 12), .faddr 1 (.g 3), (some ((.l 11), true))⟩, ⟨(.l 13), .load false 1 (.l 12), (some ((.l 11), true))⟩, ⟨(.l 14), .mv (.g 2), (some ((.l 11), true))⟩, ⟨(.l 15), .bin .eql (.l 13) (.l 14), (some ((.l 11), true))⟩, ⟨(.l 16), .pick (.l 11) (.l 15) (.c (.bool false)), none⟩, ⟨(.l 17), .mv (.l 16), none⟩, ⟨(.l 18), .faddr 0 (.g 3), (some ((.l 17), false))⟩, ⟨(.l 19), .load false 1 (.l 18), (some ((.l 17), false))⟩, ⟨(.l 20), .mv (.g 2), (some ((.l 17), false))⟩, ⟨(.l 21), .bin .eql (.l 19) (.l 20), (some ((.l 17), false))⟩, ⟨(.l 22), .mv (.l 21), (some ((.l 17), false))⟩, ⟨(.l 23), .faddr 1 (.g 3), (some ((.l 22), true))⟩, ⟨(.l 24), .load false 1 (.l 23), (some ((.l 22), true))⟩, ⟨(.l 25), .mv (.g 1), (some ((.l 22), true))⟩, ⟨(.l 26), .bin .eql (.l 24) (.l 25), (some ((.l 22), true))⟩, ⟨(.l 27), .pick (.l 22) (.l 26) (.c (.bool false)), (some ((.l 17), false))⟩, ⟨(.l 28), .pick (.l 17) (.c (.bool true)) (.l 27), none⟩, ⟨(.g 6), .mv (.l 28), none⟩])
  (.ret))⟩
theorem ln_impl_samePorts : Linked Tryz.prog fn_impl_samePorts ac_impl_samePorts := ⟨Tryz.f38, _, Tryz.func38, rfl, by kernel_rfl, by kernel_rfl, by kernel_rfl, by kernel_rfl⟩
def ac_impl_InitGet : AF := ⟨[0, 1, 2, 3, 4, 23, 56], [.c 2 true 4, .t 3],
  .seq (.region [⟨(.g 1), .box (.g 0), none⟩, ⟨(.g 2), .alloc [(.int .i64 0), (.int .i64 0), (.int .i64 0), (.int .i64 0)], none⟩, ⟨(.g 3), .mv (.c (.bool false)), none⟩])
  (.seq (.seq (.region [⟨(.l 5), .faddr 0 (.g 1), none⟩, ⟨(.l 6), .load false 1 (.l 5), none⟩, ⟨(.l 7), .bin .neq (.l 6) (.c (.int .i64 1)), none⟩, ⟨(.l 8), .mv (.l 7), none⟩, ⟨(.l 9), .faddr 0 (.g 1), (some ((.l 8), true))⟩, ⟨(.l 10), .load false 1 (.l 9), (some ((.l 8), true))⟩, ⟨(.l 11), .bin .neq (.l 10) (.c (.int .i64 2)), (some ((.l 8), true))⟩, ⟨(.l 12), .pick (.l 8) (.l 11) (.c (.bool false)), none⟩, ⟨(.l 13), .mv (.l 12), none⟩, ⟨(.l 14), .faddr 1 (.g 1), (some ((.l 13), false))⟩, ⟨(.l 15), .load false 1 (.l 14), (some ((.l 13), false))⟩, ⟨(.l 16), .bin .neq (.l 15) (.c (.int .i64 0)), (some ((.l 13), false))⟩, ⟨(.l 17), .pick (.l 13) (.c (.bool true)) (.l 16), none⟩, ⟨(.l 18), .mv (.l 17), none⟩, ⟨(.l 19), .faddr 2 (.g 1), (some ((.l 18), false))⟩, ⟨(.l 20), .load false 1 (.l 19), (some ((.l 18), false))⟩, ⟨(.l 21), .lenStr (.l 20), (some ((.l 18), false))⟩, ⟨(.l 22), .bin .neq (.l 21) (.c (.int .i64 10)), (some ((.l 18), false))⟩, ⟨(.g 23), .pick (.l 18) (.c (.bool true)) (.l 22), none⟩])
  (.cond (.g 23) (.seq (.region [⟨(.l 24), .build [(.int .i64 0), (.int .i64 0), (.int .i64 0), (.int .i64 0)] [], none⟩, ⟨.no, .store 4 (.g 2) (.l 24), none⟩, ⟨(.g 3), .mv (.c (.bool false)), none⟩])
   (.ret))
  (.skip)))
  (.seq (.region [⟨(.l 25), .build [(.int .i64 0), (.int .i64 0), (.int .i64 0), (.int .i64 0)] [], none⟩, ⟨(.g 4), .alloc [(.int .i64 0), (.int .i64 0), (.int .i64 0), (.int .i64 0)], none⟩, ⟨.no, .store 4 (.g 4) (.l 25), none⟩])
  (.seq (.region [⟨(.l 27), .faddr 2 (.g 1), none⟩, ⟨(.l 28), .load false 1 (.l 27), none⟩, ⟨(.l 29), .call fn_impl_LongGet [(.l 28), (.c (.int .i64 0))], none⟩, ⟨(.l 26), .mv (.l 29), none⟩, ⟨(.l 30), .extract (.l 26) 0, none⟩, ⟨(.l 31), .extract (.l 26) 1, none⟩, ⟨(.l 32), .faddr 0 (.g 4), none⟩, ⟨.no, .store 1 (.l 32) (.l 30), none⟩])
  (.seq (.region [⟨(.l 34), .faddr 2 (.g 1), none⟩, ⟨(.l 35), .load false 1 (.l 34), none⟩, ⟨(.l 36), .call fn_impl_WordGet [(.l 35), (.c (.int .i64 4))], none⟩, ⟨(.l 33), .mv (.l 36), none⟩, ⟨(.l 37), .extract (.l 33) 0, none⟩, ⟨(.l 38), .extract (.l 33) 1, none⟩, ⟨(.l 39), .faddr 1 (.g 4), none⟩, ⟨.no, .store 1 (.l 39) (.l 37), none⟩])
  (.seq (.region [⟨(.l 41), .faddr 2 (.g 1), none⟩, ⟨(.l 42), .load false 1 (.l 41), none⟩, ⟨(.l 43), .call fn_impl_WordGet [(.l 42), (.c (.int .i64 6))], none⟩, ⟨(.l 40), .mv (.l 43), none⟩, ⟨(.l 44), .extract (.l 40) 0, none⟩, ⟨(.l 45), .extract (.l 40) 1, none⟩, ⟨(.l 46), .faddr 2 (.g 4), none⟩, ⟨.no, .store 1 (.l 46) (.l 44), none⟩])
  (.seq (.region [⟨(.l 48), .faddr 2 (.g 1), none⟩, ⟨(.l 49), .load false 1 (.l 48), none⟩, ⟨(.l 50), .call fn_impl_WordGet [(.l 49), (.c (.int .i64 8))], none⟩, ⟨(.l 47), .mv (.l 50), none⟩, ⟨(.l 51), .extract (.l 47) 0, none⟩, ⟨(.l 52), .extract (.l 47) 1, none⟩, ⟨(.l 53), .faddr 3 (.g 4), none⟩, ⟨.no, .store 1 (.l 53) (.l 51), none⟩])
  (.seq (.seq (.region [⟨(.l 54), .load true 4 (.g 4), none⟩, ⟨(.l 55), .call fn_impl_initOk [(.l 54)], none⟩, ⟨(.g 56), .un .not (.l 55), none⟩])
  (.cond (.g 56) (.seq (.region [⟨(.l 57), .build [(.int .i64 0), (.int .i64 0), (.int .i64 0), (.int .i64 0)] [], none⟩, ⟨.no, .store 4 (.g 2) (.l 57), none⟩, ⟨(.g 3), .mv (.c (.bool false)), none⟩])
   (.ret))
  (.skip)))
  (.seq (.region [⟨(.l 58), .load true 4 (.g 4), none⟩, ⟨.no, .store 4 (.g 2) (.l 58), none⟩, ⟨(.g 3), .mv (.c (.bool true)), none⟩])
  (.ret)))))))))⟩
theorem ln_impl_InitGet : Linked Tryz.prog fn_impl_InitGet ac_impl_InitGet := ⟨Tryz.f39, _, Tryz.func39, rfl, by kernel_rfl, by kernel_rfl, by kernel_rfl, by kernel_rfl⟩
def ac_impl_AssocValid : AF := ⟨[0, 1, 2, 49, 72, 87], [.t 2],
  .seq (.region [⟨(.g 1), .box (.g 0), none⟩, ⟨(.g 2), .mv (.c (.bool false)), none⟩])
  (.seq (.seq (.region [⟨(.l 3), .faddr 0 (.g 1), none⟩, ⟨(.l 4), .load false 1 (.l 3), none⟩, ⟨(.l 5), .bin .lss (.l 4) (.c (.int .i64 1)), none⟩, ⟨(.l 6), .mv (.l 5), none⟩, ⟨(.l 7), .faddr 0 (.g 1), (some ((.l 6), false))⟩, ⟨(.l 8), .load false 1 (.l 7), (some ((.l 6), false))⟩, ⟨(.l 9), .bin .gtr (.l 8) (.c (.int .i64 65535)), (some ((.l 6), false))⟩, ⟨(.l 10), .pick (.l 6) (.c (.bool true)) (.l 9), none⟩, ⟨(.l 11), .mv (.l 10), none⟩, ⟨(.l 12), .faddr 1 (.g 1), (some ((.l 11), false))⟩, ⟨(.l 13), .load false 1 (.l 12), (some ((.l 11), false))⟩, ⟨(.l 14), .bin .lss (.l 13) (.c (.int .i64 1)), (some ((.l 11), false))⟩, ⟨(.l 15), .pick (.l 11) (.c (.bool true)) (.l 14), none⟩, ⟨(.l 16), .mv (.l 15), none⟩, ⟨(.l 17), .faddr 1 (.g 1), (some ((.l 16), false))⟩, ⟨(.l 18), .load false 1 (.l 17), (some ((.l 16), false))⟩, ⟨(.l 19), .bin .gtr (.l 18) (.c (.int .i64 65535)), (some ((.l 16), false))⟩, ⟨(.l 20), .pick (.l 16) (.c (.bool true)) (.l 19), none⟩, ⟨(.l 21), .mv (.l 20), none⟩, ⟨(.l 22), .faddr 0 (.g 1), (some ((.l 21), false))⟩, ⟨(.l 23), .load false 1 (.l 22), (some ((.l 21), false))⟩, ⟨(.l 24), .faddr 1 (.g 1), (some ((.l 21), false))⟩, ⟨(.l 25), .load false 1 (.l 24), (some ((.l 21), false))⟩, ⟨(.l 26), .bin .eql (.l 23) (.l 25), (some ((.l 21), false))⟩, ⟨(.l 27), .pick (.l 21) (.c (.bool true)) (.l 26), none⟩, ⟨(.l 28), .mv (.l 27), none⟩, ⟨(.l 29), .faddr 2 (.g 1), (some ((.l 28), false))⟩, ⟨(.l 30), .load false 1 (.l 29), (some ((.l 28), false))⟩, ⟨(.l 31), .bin .lss (.l 30) (.c (.int .i64 0)), (some ((.l 28), false))⟩, ⟨(.l 32), .pick (.l 28) (.c (.bool true)) (.l 31), none⟩, ⟨(.l 33), .mv (.l 32), none⟩, ⟨(.l 34), .faddr 2 (.g 1), (some ((.l 33), false))⟩, ⟨(.l 35), .load false 1 (.l 34), (some ((.l 33), false))⟩, ⟨(.l 36), .bin .gtr (.l 35) (.c (.int .i64 7)), (some ((.l 33), false))⟩, ⟨(.l 37), .pick (.l 33) (.c (.bool true)) (.l 36), none⟩, ⟨(.l 38), .mv (.l 37), none⟩, ⟨(.l 39), .faddr 4 (.g 1), (some ((.l 38), false))⟩, ⟨(.l 40), .load true 5 (.l 39), (some ((.l 38), false))⟩, ⟨(.l 41), .call fn_impl_SideValid [(.l 40)], (some ((.l 38), false))⟩, ⟨(.l 42), .un .not (.l 41), (some ((.l 38), false))⟩, ⟨(.l 43), .pick (.l 38) (.c (.bool true)) (.l 42), none⟩, ⟨(.l 44), .mv (.l 43), none⟩, ⟨(.l 45), .faddr 9 (.g 1), (some ((.l 44), false))⟩, ⟨(.l 46), .load true 5 (.l 45), (some ((.l 44), false))⟩, ⟨(.l 47), .call fn_impl_SideValid [(.l 46)], (some ((.l 44), false))⟩, ⟨(.l 48), .un .not (.l 47), (some ((.l 44), false))⟩, ⟨(.g 49), .pick (.l 44) (.c (.bool true)) (.l 48), none⟩])
  (.cond (.g 49) (.seq (.region [⟨(.g 2), .mv (.c (.bool false)), none⟩])
   (.ret))
  (.skip)))
  (.seq (.seq (.region [⟨(.l 50), .faddr 4 (.g 1), none⟩, ⟨(.l 51), .faddr 0 (.l 50), none⟩, ⟨(.l 52), .load false 1 (.l 51), none⟩, ⟨(.l 53), .bin .gtr (.l 52) (.c (.int .i64 0)), none⟩, ⟨(.l 54), .faddr 2 (.g 1), none⟩, ⟨(.l 55), .load false 1 (.l 54), none⟩, ⟨(.l 56), .bin .geq (.l 55) (.c (.int .i64 1)), none⟩, ⟨(.l 57), .beq true (.l 53) (.l 56), none⟩, ⟨(.l 58), .mv (.l 57), none⟩, ⟨(.l 59), .faddr 2 (.g 1), (some ((.l 58), false))⟩, ⟨(.l 60), .load false 1 (.l 59), (some ((.l 58), false))⟩, ⟨(.l 61), .bin .neq (.l 60) (.c (.int .i64 7)), (some ((.l 58), false))⟩, ⟨(.l 62), .mv (.l 61), (some ((.l 58), false))⟩, ⟨(.l 63), .faddr 9 (.g 1), (some ((.l 62), true))⟩, ⟨(.l 64), .faddr 0 (.l 63), (some ((.l 62), true))⟩, ⟨(.l 65), .load false 1 (.l 64), (some ((.l 62), true))⟩, ⟨(.l 66), .bin .gtr (.l 65) (.c (.int .i64 0)), (some ((.l 62), true))⟩, ⟨(.l 67), .faddr 2 (.g 1), (some ((.l 62), true))⟩, ⟨(.l 68), .load false 1 (.l 67), (some ((.l 62), true))⟩, ⟨(.l 69), .bin .geq (.l 68) (.c (.int .i64 2)), (some ((.l 62), true))⟩, ⟨(.l 70), .beq true (.l 66) (.l 69), (some ((.l 62), true))⟩, ⟨(.l 71), .pick (.l 62) (.l 70) (.c (.bool false)), (some ((.l 58), false))⟩, ⟨(.g 72), .pick (.l 58) (.c (.bool true)) (.l 71), none⟩])
  (.cond (.g 72) (.seq (.region [⟨(.g 2), .mv (.c (.bool false)), none⟩])
   (.ret))
  (.skip)))
  (.seq (.seq (.region [⟨(.l 73), .faddr 2 (.g 1), none⟩, ⟨(.l 74), .load false 1 (.l 73), none⟩, ⟨(.l 75), .bin .lss (.l 74) (.c (.int .i64 3)), none⟩, ⟨(.l 76), .mv (.l 75), none⟩, ⟨(.l 77), .faddr 4 (.g 1), (some ((.l 76), true))⟩, ⟨(.l 78), .faddr 3 (.l 77), (some ((.l 76), true))⟩, ⟨(.l 79), .load false 1 (.l 78), (some ((.l 76), true))⟩, ⟨(.l 80), .len (.l 79), (some ((.l 76), true))⟩, ⟨(.l 81), .faddr 9 (.g 1), (some ((.l 76), true))⟩, ⟨(.l 82), .faddr 3 (.l 81), (some ((.l 76), true))⟩, ⟨(.l 83), .load false 1 (.l 82), (some ((.l 76), true))⟩, ⟨(.l 84), .len (.l 83), (some ((.l 76), true))⟩, ⟨(.l 85), .bin .add (.l 80) (.l 84), (some ((.l 76), true))⟩, ⟨(.l 86), .bin .gtr (.l 85) (.c (.int .i64 0)), (some ((.l 76), true))⟩, ⟨(.g 87), .pick (.l 76) (.l 86) (.c (.bool false)), none⟩])
  (.cond (.g 87) (.seq (.region [⟨(.g 2), .mv (.c (.bool false)), none⟩])
   (.ret))
  (.skip)))
  (.seq (.region [⟨(.l 88), .faddr 3 (.g 1), none⟩, ⟨(.l 89), .load false 1 (.l 88), none⟩, ⟨(.l 90), .un .not (.l 89), none⟩, ⟨(.l 91), .mv (.l 90), none⟩, ⟨(.l 92), .faddr 2 (.g 1), (some ((.l 91), false))⟩, ⟨(.l 93), .load false 1 (.l 92), (some ((.l 91), false))⟩, ⟨(.l 94), .bin .geq (.l 93) (.c (.int .i64 5)), (some ((.l 91), false))⟩, ⟨(.l 95), .pick (.l 91) (.c (.bool true)) (.l 94), none⟩, ⟨(.g 2), .mv (.l 95), none⟩])
  (.ret)))))⟩
theorem ln_impl_AssocValid : Linked Tryz.prog fn_impl_AssocValid ac_impl_AssocValid := ⟨Tryz.f40, _, Tryz.func40, rfl, by kernel_rfl, by kernel_rfl, by kernel_rfl, by kernel_rfl⟩
def ac_impl_foundOk : AF := ⟨[0, 1, 4, 5, 6, 7, 8, 9, 10, 42, 77], [.t 4],
  .seq (.region [⟨(.g 4), .mv (.c (.bool false)), none⟩])
  (.seq (.seq (.region [⟨(.g 7), .mv (.g 0), none⟩, ⟨(.g 8), .len (.g 7), none⟩, ⟨(.g 9), .mv (.c (.int .i64 0)), none⟩])
  (.block 0 (.loop (.seq (.region [⟨(.g 10), .bin .lss (.g 9) (.g 8), none⟩])
    (.seq (.cond (.g 10) (.skip)
    (.exit 0))
    (.seq (.block 1 (.seq (.region [⟨(.l 11), .mv (.g 9), none⟩, ⟨(.l 12), .elS 2 (.g 7) (.g 9), none⟩, ⟨(.l 13), .load true 2 (.l 12), none⟩, ⟨(.g 6), .alloc [(.int .i64 0), (.int .i64 0)], none⟩, ⟨(.g 5), .mv (.l 11), none⟩, ⟨.no, .store 2 (.g 6) (.l 13), none⟩])
     (.seq (.seq (.region [⟨(.l 14), .faddr 0 (.g 6), none⟩, ⟨(.l 15), .load false 1 (.l 14), none⟩, ⟨(.l 16), .bin .lss (.l 15) (.c (.int .i64 0)), none⟩, ⟨(.l 17), .mv (.l 16), none⟩, ⟨(.l 18), .faddr 0 (.g 6), (some ((.l 17), false))⟩, ⟨(.l 19), .load false 1 (.l 18), (some ((.l 17), false))⟩, ⟨(.l 20), .mv (.g 1), (some ((.l 17), false))⟩, ⟨(.l 21), .bin .geq (.l 19) (.l 20), (some ((.l 17), false))⟩, ⟨(.l 22), .pick (.l 17) (.c (.bool true)) (.l 21), none⟩, ⟨(.l 23), .mv (.l 22), none⟩, ⟨(.l 24), .faddr 1 (.g 6), (some ((.l 23), false))⟩, ⟨(.l 25), .load false 1 (.l 24), (some ((.l 23), false))⟩, ⟨(.l 26), .bin .lss (.l 25) (.c (.int .i64 1)), (some ((.l 23), false))⟩, ⟨(.l 27), .mv (.l 26), (some ((.l 23), false))⟩, ⟨(.l 28), .faddr 1 (.g 6), (some ((.l 27), false))⟩, ⟨(.l 29), .load false 1 (.l 28), (some ((.l 27), false))⟩, ⟨(.l 30), .bin .gtr (.l 29) (.c (.int .i64 11)), (some ((.l 27), false))⟩, ⟨(.l 31), .pick (.l 27) (.c (.bool true)) (.l 30), (some ((.l 23), false))⟩, ⟨(.l 32), .mv (.l 31), (some ((.l 23), false))⟩, ⟨(.l 33), .faddr 1 (.g 6), (some ((.l 32), true))⟩, ⟨(.l 34), .load false 1 (.l 33), (some ((.l 32), true))⟩, ⟨(.l 35), .bin .lss (.l 34) (.c (.int .i64 101)), (some ((.l 32), true))⟩, ⟨(.l 36), .mv (.l 35), (some ((.l 32), true))⟩, ⟨(.l 37), .faddr 1 (.g 6), (some ((.l 36), false))⟩, ⟨(.l 38), .load false 1 (.l 37), (some ((.l 36), false))⟩, ⟨(.l 39), .bin .gtr (.l 38) (.c (.int .i64 105)), (some ((.l 36), false))⟩, ⟨(.l 40), .pick (.l 36) (.c (.bool true)) (.l 39), (some ((.l 32), true))⟩, ⟨(.l 41), .pick (.l 32) (.l 40) (.c (.bool false)), (some ((.l 23), false))⟩, ⟨(.g 42), .pick (.l 23) (.c (.bool true)) (.l 41), none⟩])
     (.cond (.g 42) (.seq (.region [⟨(.g 4), .mv (.c (.bool false)), none⟩])
      (.ret))
     (.skip)))
     (.seq (.drawn [⟨(.l 43), .mv (.g 5), none⟩, ⟨(.l 44), .bin .gtr (.l 43) (.c (.int .i64 0)), none⟩, ⟨(.l 45), .mv (.l 44), none⟩, ⟨(.l 46), .faddr 0 (.g 6), (some ((.l 45), true))⟩, ⟨(.l 47), .load false 1 (.l 46), (some ((.l 45), true))⟩, ⟨(.l 48), .mv (.g 0), (some ((.l 45), true))⟩, ⟨(.l 49), .mv (.g 5), (some ((.l 45), true))⟩, ⟨(.l 50), .bin .sub (.l 49) (.c (.int .i64 1)), (some ((.l 45), true))⟩, ⟨(.l 51), .elS 2 (.l 48) (.l 50), (some ((.l 45), true))⟩, ⟨(.l 52), .faddr 0 (.l 51), (some ((.l 45), true))⟩, ⟨(.l 53), .load false 1 (.l 52), (some ((.l 45), true))⟩, ⟨(.l 54), .bin .lss (.l 47) (.l 53), (some ((.l 45), true))⟩, ⟨(.l 55), .mv (.l 54), (some ((.l 45), true))⟩, ⟨(.l 56), .faddr 0 (.g 6), (some ((.l 55), false))⟩, ⟨(.l 57), .load false 1 (.l 56), (some ((.l 55), false))⟩, ⟨(.l 58), .mv (.g 0), (some ((.l 55), false))⟩, ⟨(.l 59), .mv (.g 5), (some ((.l 55), false))⟩, ⟨(.l 60), .bin .sub (.l 59) (.c (.int .i64 1)), (some ((.l 55), false))⟩, ⟨(.l 61), .elS 2 (.l 58) (.l 60), (some ((.l 55), false))⟩, ⟨(.l 62), .faddr 0 (.l 61), (some ((.l 55), false))⟩, ⟨(.l 63), .load false 1 (.l 62), (some ((.l 55), false))⟩, ⟨(.l 64), .bin .eql (.l 57) (.l 63), (some ((.l 55), false))⟩, ⟨(.l 65), .mv (.l 64), (some ((.l 55), false))⟩, ⟨(.l 66), .faddr 1 (.g 6), (some ((.l 65), true))⟩, ⟨(.l 67), .load false 1 (.l 66), (some ((.l 65), true))⟩, ⟨(.l 68), .mv (.g 0), (some ((.l 65), true))⟩, ⟨(.l 69), .mv (.g 5), (some ((.l 65), true))⟩, ⟨(.l 70), .bin .sub (.l 69) (.c (.int .i64 1)), (some ((.l 65), true))⟩, ⟨(.l 71), .elS 2 (.l 68) (.l 70), (some ((.l 65), true))⟩, ⟨(.l 72), .faddr 1 (.l 71), (some ((.l 65), true))⟩, ⟨(.l 73), .load false 1 (.l 72), (some ((.l 65), true))⟩] [[], [], [], [], [], [], [], [], [4], [], [4], [], [], [], [], [], [], [], [14], [], [14], [], [], [], [], [], [], [], [24], [], [24]] [⟨(.l 74), .bin .leq (.l 67) (.l 73), (some ((.l 65), true))⟩, ⟨(.l 75), .pick (.l 65) (.l 74) (.c (.bool false)), (some ((.l 55), false))⟩, ⟨(.l 76), .pick (.l 55) (.c (.bool true)) (.l 75), (some ((.l 45), true))⟩, ⟨(.g 77), .pick (.l 45) (.l 76) (.c (.bool false)), none⟩])
     (.cond (.g 77) (.seq (.region [⟨(.g 4), .mv (.c (.bool false)), none⟩])
      (.ret))
     (.skip))))))
    (.region [⟨(.l 78), .bin .add (.g 9) (.c (.int .i64 1)), none⟩, ⟨(.g 9), .mv (.l 78), none⟩])))))))
  (.seq (.region [⟨(.g 4), .mv (.c (.bool true)), none⟩])
  (.ret)))⟩
theorem ln_impl_foundOk : Linked Tryz.prog fn_impl_foundOk ac_impl_foundOk := ⟨Tryz.f41, _, Tryz.func41, rfl, by kernel_rfl, by kernel_rfl, by kernel_rfl, by kernel_rfl⟩
def ac_spec_l91Spoil : AF := ⟨[0, 1, 4, 5, 12, 19, 20, 25, 29], [.t 4],
  .seq (.region [⟨(.g 4), .mv (.c (.str [])), none⟩])
  (.seq (.seq (.region [⟨(.l 6), .mv (.g 1), none⟩, ⟨(.l 7), .bin .eql (.l 6) (.c (.str [])), none⟩, ⟨(.l 8), .mv (.l 7), none⟩, ⟨(.l 9), .mv (.g 0), (some ((.l 8), false))⟩, ⟨(.l 10), .call fn_spec_l6Rd_pick [(.l 9), (.c (.int .i64 3))], (some ((.l 8), false))⟩, ⟨(.l 11), .bin .gtr (.l 10) (.c (.int .i64 0)), (some ((.l 8), false))⟩, ⟨(.g 12), .pick (.l 8) (.c (.bool true)) (.l 11), none⟩])
  (.cond (.g 12) (.seq (.region [⟨(.l 13), .mv (.g 1), none⟩, ⟨(.g 4), .mv (.l 13), none⟩])
   (.ret))
  (.skip)))
  (.seq (.region [⟨(.l 14), .mv (.g 0), none⟩, ⟨(.l 15), .mv (.g 1), none⟩, ⟨(.l 16), .lenStr (.l 15), none⟩, ⟨(.l 17), .call fn_spec_l6Rd_pick [(.l 14), (.l 16)], none⟩, ⟨(.g 5), .mv (.l 17), none⟩])
  (.seq (.seq (.region [⟨(.l 18), .mv (.g 0), none⟩, ⟨(.g 19), .call fn_spec_l6Rd_pick [(.l 18), (.c (.int .i64 4))], none⟩])
  (.block 0 (.seq (.region [⟨(.l 21), .bin .eql (.g 19) (.c (.int .i64 0)), none⟩, ⟨(.g 20), .mv (.l 21), none⟩])
   (.cond (.g 20) (.seq (.region [⟨(.l 22), .mv (.g 1), none⟩, ⟨(.l 23), .mv (.g 5), none⟩, ⟨(.l 24), .cutStr (.l 22) none (some (.l 23)), none⟩, ⟨(.g 4), .mv (.l 24), none⟩])
    (.ret))
   (.seq (.region [⟨(.l 26), .bin .eql (.g 19) (.c (.int .i64 1)), none⟩, ⟨(.g 25), .mv (.l 26), none⟩])
    (.cond (.g 25) (.seq (.region [⟨(.l 27), .mv (.g 1), none⟩, ⟨(.l 28), .bin .add (.l 27) (.c (.str [0])), none⟩, ⟨(.g 4), .mv (.l 28), none⟩])
     (.ret))
    (.seq (.region [⟨(.l 30), .bin .eql (.g 19) (.c (.int .i64 2)), none⟩, ⟨(.g 29), .mv (.l 30), none⟩])
     (.cond (.g 29) (.seq (.drawn [⟨(.l 31), .mv (.g 1), none⟩, ⟨(.l 32), .mv (.g 5), none⟩, ⟨(.l 33), .cutStr (.l 31) none (some (.l 32)), none⟩, ⟨(.l 34), .mv (.g 1), none⟩, ⟨(.l 35), .mv (.g 5), none⟩, ⟨(.l 36), .bin .add (.l 35) (.c (.int .i64 1)), none⟩, ⟨(.l 37), .cutStr (.l 34) (some (.l 36)) none, none⟩] [[], [], [], [], [], [], []] [⟨(.l 38), .bin .add (.l 33) (.l 37), none⟩, ⟨(.g 4), .mv (.l 38), none⟩])
      (.ret))
     (.skip)))))))))
  (.seq (.drawn [⟨(.l 39), .mv (.g 1), none⟩, ⟨(.l 40), .mv (.g 5), none⟩, ⟨(.l 41), .cutStr (.l 39) none (some (.l 40)), none⟩, ⟨(.l 42), .mv (.g 0), none⟩, ⟨(.l 43), .call fn_spec_l6Rd_pick [(.l 42), (.c (.int .i64 256))], none⟩, ⟨(.l 44), .conv .u8 (.l 43), none⟩, ⟨(.l 45), .lits 1 [(.l 44)], none⟩, ⟨(.l 46), .toStr (.l 45), none⟩, ⟨(.l 47), .bin .add (.l 41) (.l 46), none⟩, ⟨(.l 48), .mv (.g 1), none⟩, ⟨(.l 49), .mv (.g 5), none⟩, ⟨(.l 50), .bin .add (.l 49) (.c (.int .i64 1)), none⟩, ⟨(.l 51), .cutStr (.l 48) (some (.l 50)) none, none⟩] [[], [], [], [], [], [], [], [], [], [], [], [], []] [⟨(.l 52), .bin .add (.l 47) (.l 51), none⟩, ⟨(.g 4), .mv (.l 52), none⟩])
  (.ret)))))⟩
theorem ln_spec_l91Spoil : Linked Tryz.prog fn_spec_l91Spoil ac_spec_l91Spoil := ⟨Tryz.f44, _, Tryz.func44, rfl, by kernel_rfl, by kernel_rfl, by kernel_rfl, by kernel_rfl⟩
def ac_spec_PacketPut : AF := ⟨[0, 1, 2, 5], [.t 2],
  .seq (.region [⟨(.g 1), .box (.g 0), none⟩, ⟨(.g 2), .mv (.c (.str [])), none⟩])
  (.seq (.seq (.region [⟨(.l 3), .load true 4 (.g 1), none⟩, ⟨(.l 4), .call fn_spec_PacketValid [(.l 3)], none⟩, ⟨(.g 5), .un .not (.l 4), none⟩])
  (.cond (.g 5) (.seq (.region [⟨(.g 2), .mv (.c (.str [])), none⟩])
   (.ret))
  (.skip)))
  (.seq (.region [⟨(.l 6), .load true 4 (.g 1), none⟩, ⟨(.l 7), .call fn_spec_l13Put [(.l 6)], none⟩, ⟨(.g 2), .mv (.l 7), none⟩])
  (.ret)))⟩
theorem ln_spec_PacketPut : Linked Tryz.prog fn_spec_PacketPut ac_spec_PacketPut := ⟨Tryz.f45, _, Tryz.func45, rfl, by kernel_rfl, by kernel_rfl, by kernel_rfl, by kernel_rfl⟩
def ac_spec_TalkRecords : AF := ⟨[0, 1, 2, 4, 5, 6, 7, 14, 35], [.t 4],
  .seq (.region [⟨(.g 2), .box (.g 0), none⟩, ⟨(.g 4), .mv (.c .nils), none⟩])
  (.seq (.region [⟨(.l 8), .lits 2 [], none⟩, ⟨(.g 5), .mv (.l 8), none⟩])
  (.seq (.region [⟨(.l 9), .load true 12 (.g 2), none⟩, ⟨(.l 10), .call fn_spec_TalkPackets [(.l 9)], none⟩, ⟨(.g 6), .mv (.l 10), none⟩])
  (.seq (.seq (.region [⟨(.g 7), .mv (.c (.int .i64 0)), none⟩])
  (.block 0 (.loop (.seq (.seq (.region [⟨(.l 11), .mv (.g 7), none⟩, ⟨(.l 12), .mv (.g 6), none⟩, ⟨(.l 13), .len (.l 12), none⟩, ⟨(.g 14), .bin .lss (.l 11) (.l 13), none⟩])
    (.cond (.g 14) (.skip)
    (.exit 0)))
    (.seq (.block 1 (.region [⟨(.l 17), .mv (.g 5), none⟩, ⟨(.l 18), .mv (.g 1), none⟩, ⟨(.l 19), .mv (.g 7), none⟩, ⟨(.l 20), .bin .add (.l 18) (.l 19), none⟩, ⟨(.l 21), .mv (.g 6), none⟩, ⟨(.l 22), .mv (.g 7), none⟩, ⟨(.l 23), .elS 4 (.l 21) (.l 22), none⟩, ⟨(.l 24), .load true 4 (.l 23), none⟩, ⟨(.l 25), .call fn_spec_PacketPut [(.l 24)], none⟩, ⟨(.l 26), .build [(.int .i64 0), (.str [])] [(0, 1, (.l 20)), (1, 1, (.l 25))], none⟩, ⟨(.l 27), .lits 2 [(.l 26)], none⟩, ⟨(.l 28), .append 2 24 (.l 17) (.l 27), none⟩, ⟨(.g 5), .mv (.l 28), none⟩]))
    (.region [⟨(.l 15), .mv (.g 7), none⟩, ⟨(.l 16), .bin .add (.l 15) (.c (.int .i64 1)), none⟩, ⟨(.g 7), .mv (.l 16), none⟩]))))))
  (.seq (.seq (.region [⟨(.l 29), .mv (.g 1), none⟩, ⟨(.l 30), .bin .lss (.l 29) (.c (.int .i64 0)), none⟩, ⟨(.l 31), .mv (.l 30), none⟩, ⟨(.l 32), .mv (.g 5), (some ((.l 31), false))⟩, ⟨(.l 33), .call fn_spec_CaptureValid [(.l 32)], (some ((.l 31), false))⟩, ⟨(.l 34), .un .not (.l 33), (some ((.l 31), false))⟩, ⟨(.g 35), .pick (.l 31) (.c (.bool true)) (.l 34), none⟩])
  (.cond (.g 35) (.seq (.region [⟨(.l 36), .lits 2 [], none⟩, ⟨(.g 4), .mv (.l 36), none⟩])
   (.ret))
  (.skip)))
  (.seq (.region [⟨(.l 37), .mv (.g 5), none⟩, ⟨(.g 4), .mv (.l 37), none⟩])
  (.ret))))))⟩
theorem ln_spec_TalkRecords : Linked Tryz.prog fn_spec_TalkRecords ac_spec_TalkRecords := ⟨Tryz.f47, _, Tryz.func47, rfl, by kernel_rfl, by kernel_rfl, by kernel_rfl, by kernel_rfl⟩
def ac_spec_l92Talk : AF := ⟨[0, 2, 3, 4, 5, 6, 7, 41, 60, 76], [.c 2 true 12],
  .seq (.region [⟨(.g 2), .alloc [(.int .i64 0), (.int .i64 0), (.int .i64 0), (.int .i64 0), (.int .i64 0), (.int .i64 0), (.int .i64 0), (.int .i64 0), (.int .i64 0), (.int .i64 0), (.int .i64 0), .nils], none⟩])
  (.seq (.region [⟨(.l 8), .mv (.g 0), none⟩, ⟨(.l 9), .call fn_spec_l6Rd_pick [(.l 8), (.c (.int .i64 5))], none⟩, ⟨(.l 10), .bin .add (.c (.int .i64 1)) (.l 9), none⟩, ⟨(.l 11), .mv (.g 0), none⟩, ⟨(.l 12), .call fn_spec_l6Rd_pick [(.l 11), (.c (.int .i64 5))], none⟩, ⟨(.l 13), .bin .add (.c (.int .i64 6)) (.l 12), none⟩, ⟨(.l 14), .mv (.g 0), none⟩, ⟨(.l 15), .call fn_spec_l6Rd_pick [(.l 14), (.c (.int .i64 99))], none⟩, ⟨(.l 16), .bin .add (.c (.int .i64 1)) (.l 15), none⟩, ⟨(.l 17), .mv (.g 0), none⟩, ⟨(.l 18), .call fn_spec_l6Rd_pick [(.l 17), (.c (.int .i64 4))], none⟩, ⟨(.l 19), .bin .add (.c (.int .i64 1)) (.l 18), none⟩, ⟨(.l 20), .mv (.g 0), none⟩, ⟨(.l 21), .call fn_spec_l91Good [(.l 20)], none⟩, ⟨(.l 22), .build [(.int .i64 0), (.int .i64 0), (.int .i64 0), (.int .i64 0)] [(0, 1, (.l 16)), (1, 1, (.c (.int .i64 1000))), (2, 1, (.l 19)), (3, 1, (.l 21))], none⟩, ⟨(.l 23), .mv (.g 0), none⟩, ⟨(.l 24), .call fn_spec_l6Rd_pick [(.l 23), (.c (.int .i64 99))], none⟩, ⟨(.l 25), .bin .add (.c (.int .i64 100)) (.l 24), none⟩, ⟨(.l 26), .mv (.g 0), none⟩, ⟨(.l 27), .call fn_spec_l6Rd_pick [(.l 26), (.c (.int .i64 4))], none⟩, ⟨(.l 28), .bin .add (.c (.int .i64 1)) (.l 27), none⟩, ⟨(.l 29), .mv (.g 0), none⟩, ⟨(.l 30), .call fn_spec_l91Good [(.l 29)], none⟩, ⟨(.l 31), .build [(.int .i64 0), (.int .i64 0), (.int .i64 0), (.int .i64 0)] [(0, 1, (.l 25)), (1, 1, (.c (.int .i64 1000))), (2, 1, (.l 28)), (3, 1, (.l 30))], none⟩, ⟨(.l 32), .mv (.g 0), none⟩, ⟨(.l 33), .call fn_spec_l6Rd_pick [(.l 32), (.c (.int .i64 8))], none⟩, ⟨(.l 34), .bin .add (.c (.int .i64 2)) (.l 33), none⟩, ⟨(.l 35), .lits 4 [], none⟩, ⟨(.l 36), .build [(.int .i64 0), (.int .i64 0), (.int .i64 0), (.int .i64 0), (.int .i64 0), (.int .i64 0), (.int .i64 0), (.int .i64 0), (.int .i64 0), (.int .i64 0), (.int .i64 0), .nils] [(0, 1, (.l 10)), (1, 1, (.l 13)), (2, 4, (.l 22)), (6, 4, (.l 31)), (10, 1, (.l 34)), (11, 1, (.l 35))], none⟩, ⟨(.g 3), .alloc [(.int .i64 0), (.int .i64 0), (.int .i64 0), (.int .i64 0), (.int .i64 0), (.int .i64 0), (.int .i64 0), (.int .i64 0), (.int .i64 0), (.int .i64 0), (.int .i64 0), .nils], none⟩, ⟨.no, .store 12 (.g 3) (.l 36), none⟩])
  (.seq (.region [⟨(.l 37), .mv (.g 0), none⟩, ⟨(.l 38), .call fn_spec_l6Rd_pick [(.l 37), (.c (.int .i64 5))], none⟩, ⟨(.g 4), .mv (.l 38), none⟩])
  (.seq (.seq (.region [⟨(.g 5), .mv (.c (.int .i64 0)), none⟩])
  (.block 0 (.loop (.seq (.seq (.region [⟨(.l 39), .mv (.g 5), none⟩, ⟨(.l 40), .mv (.g 4), none⟩, ⟨(.g 41), .bin .lss (.l 39) (.l 40), none⟩])
    (.cond (.g 41) (.skip)
    (.exit 0)))
    (.seq (.block 1 (.seq (.region [⟨(.l 44), .mv (.g 0), none⟩, ⟨(.l 45), .lits 1 [(.c (.str [104, 101, 108, 108, 111])), (.c (.str [120])), (.c (.str [116, 111, 32, 116, 104, 101, 32, 111, 116, 104, 101, 114, 32, 115, 105, 100, 101])), (.c (.str [97, 98])), (.c (.str [102, 111, 117, 114])), (.c (.str [48, 49, 50, 51, 52, 53, 54, 55, 56, 57]))], none⟩, ⟨(.l 46), .call fn_spec_l6Rd_of [(.l 44), (.l 45)], none⟩, ⟨(.l 47), .build [(.bool false), (.int .i64 0), (.bool false), (.str [])] [(3, 1, (.l 46))], none⟩, ⟨(.g 6), .alloc [(.bool false), (.int .i64 0), (.bool false), (.str [])], none⟩, ⟨.no, .store 4 (.g 6) (.l 47), none⟩])
     (.seq (.region [⟨(.l 48), .mv (.g 0), none⟩, ⟨(.l 49), .call fn_spec_l6Rd_pick [(.l 48), (.c (.int .i64 2))], none⟩, ⟨(.l 50), .bin .eql (.l 49) (.c (.int .i64 0)), none⟩, ⟨(.l 51), .faddr 0 (.g 6), none⟩, ⟨.no, .store 1 (.l 51) (.l 50), none⟩])
     (.seq (.region [⟨(.l 52), .mv (.g 0), none⟩, ⟨(.l 53), .call fn_spec_l6Rd_pick [(.l 52), (.c (.int .i64 3))], none⟩, ⟨(.l 54), .bin .eql (.l 53) (.c (.int .i64 0)), none⟩, ⟨(.l 55), .faddr 2 (.g 6), none⟩, ⟨.no, .store 1 (.l 55) (.l 54), none⟩])
     (.seq (.region [⟨(.l 56), .faddr 2 (.g 3), none⟩, ⟨(.l 57), .faddr 2 (.l 56), none⟩, ⟨(.l 58), .load false 1 (.l 57), none⟩, ⟨(.g 7), .mv (.l 58), none⟩])
     (.seq (.seq (.region [⟨(.l 59), .faddr 0 (.g 6), none⟩, ⟨(.g 60), .load false 1 (.l 59), none⟩])
     (.cond (.g 60) (.region [⟨(.l 61), .faddr 6 (.g 3), none⟩, ⟨(.l 62), .faddr 2 (.l 61), none⟩, ⟨(.l 63), .load false 1 (.l 62), none⟩, ⟨(.g 7), .mv (.l 63), none⟩])
     (.skip)))
     (.seq (.region [⟨(.l 64), .mv (.g 0), none⟩, ⟨(.l 65), .mv (.g 7), none⟩, ⟨(.l 66), .call fn_spec_l6Rd_pick [(.l 64), (.l 65)], none⟩, ⟨(.l 67), .faddr 1 (.g 6), none⟩, ⟨.no, .store 1 (.l 67) (.l 66), none⟩])
     (.seq (.region [⟨(.l 68), .faddr 11 (.g 3), none⟩, ⟨(.l 69), .load false 1 (.l 68), none⟩, ⟨(.l 70), .load true 4 (.g 6), none⟩, ⟨(.l 71), .lits 4 [(.l 70)], none⟩, ⟨(.l 72), .append 4 40 (.l 69) (.l 71), none⟩, ⟨(.l 73), .faddr 11 (.g 3), none⟩, ⟨.no, .store 1 (.l 73) (.l 72), none⟩])
     (.seq (.region [⟨(.l 74), .load true 12 (.g 3), none⟩, ⟨(.l 75), .call fn_spec_TalkValid [(.l 74)], none⟩, ⟨(.g 76), .un .not (.l 75), none⟩])
     (.cond (.g 76) (.region [⟨(.l 77), .faddr 11 (.g 3), none⟩, ⟨(.l 78), .load false 1 (.l 77), none⟩, ⟨(.l 79), .faddr 11 (.g 3), none⟩, ⟨(.l 80), .load false 1 (.l 79), none⟩, ⟨(.l 81), .len (.l 80), none⟩, ⟨(.l 82), .bin .sub (.l 81) (.c (.int .i64 1)), none⟩, ⟨(.l 83), .cutSl 4 (.l 78) none (some (.l 82)), none⟩, ⟨(.l 84), .faddr 11 (.g 3), none⟩, ⟨.no, .store 1 (.l 84) (.l 83), none⟩])
     (.skip)))))))))))
    (.region [⟨(.l 42), .mv (.g 5), none⟩, ⟨(.l 43), .bin .add (.l 42) (.c (.int .i64 1)), none⟩, ⟨(.g 5), .mv (.l 43), none⟩]))))))
  (.seq (.region [⟨(.l 85), .load true 12 (.g 3), none⟩, ⟨.no, .store 12 (.g 2) (.l 85), none⟩])
  (.ret)))))⟩
theorem ln_spec_l92Talk : Linked Tryz.prog fn_spec_l92Talk ac_spec_l92Talk := ⟨Tryz.f48, _, Tryz.func48, rfl, by kernel_rfl, by kernel_rfl, by kernel_rfl, by kernel_rfl⟩
def ac_spec_l91Bytes : AF := ⟨[0, 1, 4, 5, 6, 7, 15], [.t 4],
  .seq (.region [⟨(.g 4), .mv (.c (.str [])), none⟩])
  (.seq (.region [⟨(.l 8), .lits 1 [], none⟩, ⟨(.g 5), .mv (.l 8), none⟩])
  (.seq (.region [⟨(.l 9), .mv (.g 0), none⟩, ⟨(.l 10), .mv (.g 1), none⟩, ⟨(.l 11), .bin .add (.l 10) (.c (.int .i64 1)), none⟩, ⟨(.l 12), .call fn_spec_l6Rd_pick [(.l 9), (.l 11)], none⟩, ⟨(.g 6), .mv (.l 12), none⟩])
  (.seq (.seq (.region [⟨(.g 7), .mv (.c (.int .i64 0)), none⟩])
  (.block 0 (.loop (.seq (.seq (.region [⟨(.l 13), .mv (.g 7), none⟩, ⟨(.l 14), .mv (.g 6), none⟩, ⟨(.g 15), .bin .lss (.l 13) (.l 14), none⟩])
    (.cond (.g 15) (.skip)
    (.exit 0)))
    (.seq (.block 1 (.region [⟨(.l 18), .mv (.g 5), none⟩, ⟨(.l 19), .mv (.g 0), none⟩, ⟨(.l 20), .call fn_spec_l6Rd_pick [(.l 19), (.c (.int .i64 16))], none⟩, ⟨(.l 21), .mv (.g 0), none⟩, ⟨(.l 22), .call fn_spec_l6Rd_pick [(.l 21), (.c (.int .i64 18))], none⟩, ⟨(.l 23), .bin .mul (.l 20) (.l 22), none⟩, ⟨(.l 24), .conv .u8 (.l 23), none⟩, ⟨(.l 25), .lits 1 [(.l 24)], none⟩, ⟨(.l 26), .append 1 1 (.l 18) (.l 25), none⟩, ⟨(.g 5), .mv (.l 26), none⟩]))
    (.region [⟨(.l 16), .mv (.g 7), none⟩, ⟨(.l 17), .bin .add (.l 16) (.c (.int .i64 1)), none⟩, ⟨(.g 7), .mv (.l 17), none⟩]))))))
  (.seq (.region [⟨(.l 27), .mv (.g 5), none⟩, ⟨(.l 28), .toStr (.l 27), none⟩, ⟨(.g 4), .mv (.l 28), none⟩])
  (.ret)))))⟩
theorem ln_spec_l91Bytes : Linked Tryz.prog fn_spec_l91Bytes ac_spec_l91Bytes := ⟨Tryz.f49, _, Tryz.func49, rfl, by kernel_rfl, by kernel_rfl, by kernel_rfl, by kernel_rfl⟩
def ac_impl_LongGet : AF := ⟨[0, 1, 4, 5, 14], [.t 4, .t 5],
  .seq (.region [⟨(.g 4), .mv (.c (.int .i64 0)), none⟩, ⟨(.g 5), .mv (.c (.bool false)), none⟩])
  (.seq (.seq (.region [⟨(.l 6), .mv (.g 1), none⟩, ⟨(.l 7), .bin .lss (.l 6) (.c (.int .i64 0)), none⟩, ⟨(.l 8), .mv (.l 7), none⟩, ⟨(.l 9), .mv (.g 1), (some ((.l 8), false))⟩, ⟨(.l 10), .mv (.g 0), (some ((.l 8), false))⟩, ⟨(.l 11), .lenStr (.l 10), (some ((.l 8), false))⟩, ⟨(.l 12), .bin .sub (.l 11) (.c (.int .i64 4)), (some ((.l 8), false))⟩, ⟨(.l 13), .bin .gtr (.l 9) (.l 12), (some ((.l 8), false))⟩, ⟨(.g 14), .pick (.l 8) (.c (.bool true)) (.l 13), none⟩])
  (.cond (.g 14) (.seq (.region [⟨(.g 4), .mv (.c (.int .i64 0)), none⟩, ⟨(.g 5), .mv (.c (.bool false)), none⟩])
   (.ret))
  (.skip)))
  (.seq (.drawn [⟨(.l 15), .mv (.g 0), none⟩, ⟨(.l 16), .mv (.g 1), none⟩, ⟨(.l 17), .idxStr (.l 15) (.l 16), none⟩, ⟨(.l 18), .conv .i64 (.l 17), none⟩, ⟨(.l 19), .bin .shl (.l 18) (.c (.int .u64 24)), none⟩, ⟨(.l 20), .mv (.g 0), none⟩, ⟨(.l 21), .mv (.g 1), none⟩, ⟨(.l 22), .bin .add (.l 21) (.c (.int .i64 1)), none⟩, ⟨(.l 23), .idxStr (.l 20) (.l 22), none⟩, ⟨(.l 24), .conv .i64 (.l 23), none⟩, ⟨(.l 25), .bin .shl (.l 24) (.c (.int .u64 16)), none⟩, ⟨(.l 26), .bin .or (.l 19) (.l 25), none⟩, ⟨(.l 27), .mv (.g 0), none⟩, ⟨(.l 28), .mv (.g 1), none⟩, ⟨(.l 29), .bin .add (.l 28) (.c (.int .i64 2)), none⟩, ⟨(.l 30), .idxStr (.l 27) (.l 29), none⟩, ⟨(.l 31), .conv .i64 (.l 30), none⟩, ⟨(.l 32), .bin .shl (.l 31) (.c (.int .u64 8)), none⟩, ⟨(.l 33), .bin .or (.l 26) (.l 32), none⟩, ⟨(.l 34), .mv (.g 0), none⟩, ⟨(.l 35), .mv (.g 1), none⟩, ⟨(.l 36), .bin .add (.l 35) (.c (.int .i64 3)), none⟩, ⟨(.l 37), .idxStr (.l 34) (.l 36), none⟩, ⟨(.l 38), .conv .i64 (.l 37), none⟩] [[], [], [], [], [], [], [], [], [], [], [], [], [], [], [], [], [], [], [], [], [], [], [], []] [⟨(.l 39), .bin .or (.l 33) (.l 38), none⟩, ⟨(.g 4), .mv (.l 39), none⟩, ⟨(.g 5), .mv (.c (.bool true)), none⟩])
  (.ret)))⟩
theorem ln_impl_LongGet : Linked Tryz.prog fn_impl_LongGet ac_impl_LongGet := ⟨Tryz.f51, _, Tryz.func51, rfl, by kernel_rfl, by kernel_rfl, by kernel_rfl, by kernel_rfl⟩
def ac_impl_SumText : AF := ⟨[0, 2], [.t 2],
  .seq (.region [⟨(.g 2), .mv (.c (.int .i64 0)), none⟩])
  (.seq (.region [⟨(.l 3), .mv (.g 0), none⟩, ⟨(.l 4), .call fn_impl_sumOn [(.c (.int .i64 1)), (.c (.int .i64 0)), (.l 3)], none⟩, ⟨(.g 2), .mv (.l 4), none⟩])
  (.ret))⟩
theorem ln_impl_SumText : Linked Tryz.prog fn_impl_SumText ac_impl_SumText := ⟨Tryz.f52, _, Tryz.func52, rfl, by kernel_rfl, by kernel_rfl, by kernel_rfl, by kernel_rfl⟩
def ac_impl_WordGet : AF := ⟨[0, 1, 4, 5, 14], [.t 4, .t 5],
  .seq (.region [⟨(.g 4), .mv (.c (.int .i64 0)), none⟩, ⟨(.g 5), .mv (.c (.bool false)), none⟩])
  (.seq (.seq (.region [⟨(.l 6), .mv (.g 1), none⟩, ⟨(.l 7), .bin .lss (.l 6) (.c (.int .i64 0)), none⟩, ⟨(.l 8), .mv (.l 7), none⟩, ⟨(.l 9), .mv (.g 1), (some ((.l 8), false))⟩, ⟨(.l 10), .mv (.g 0), (some ((.l 8), false))⟩, ⟨(.l 11), .lenStr (.l 10), (some ((.l 8), false))⟩, ⟨(.l 12), .bin .sub (.l 11) (.c (.int .i64 2)), (some ((.l 8), false))⟩, ⟨(.l 13), .bin .gtr (.l 9) (.l 12), (some ((.l 8), false))⟩, ⟨(.g 14), .pick (.l 8) (.c (.bool true)) (.l 13), none⟩])
  (.cond (.g 14) (.seq (.region [⟨(.g 4), .mv (.c (.int .i64 0)), none⟩, ⟨(.g 5), .mv (.c (.bool false)), none⟩])
   (.ret))
  (.skip)))
  (.seq (.drawn [⟨(.l 15), .mv (.g 0), none⟩, ⟨(.l 16), .mv (.g 1), none⟩, ⟨(.l 17), .idxStr (.l 15) (.l 16), none⟩, ⟨(.l 18), .conv .i64 (.l 17), none⟩, ⟨(.l 19), .bin .shl (.l 18) (.c (.int .u64 8)), none⟩, ⟨(.l 20), .mv (.g 0), none⟩, ⟨(.l 21), .mv (.g 1), none⟩, ⟨(.l 22), .bin .add (.l 21) (.c (.int .i64 1)), none⟩, ⟨(.l 23), .idxStr (.l 20) (.l 22), none⟩, ⟨(.l 24), .conv .i64 (.l 23), none⟩] [[], [], [], [], [], [], [], [], [], []] [⟨(.l 25), .bin .or (.l 19) (.l 24), none⟩, ⟨(.g 4), .mv (.l 25), none⟩, ⟨(.g 5), .mv (.c (.bool true)), none⟩])
  (.ret)))⟩
theorem ln_impl_WordGet : Linked Tryz.prog fn_impl_WordGet ac_impl_WordGet := ⟨Tryz.f53, _, Tryz.func53, rfl, by kernel_rfl, by kernel_rfl, by kernel_rfl, by kernel_rfl⟩
def ac_impl_ChunkGet : AF := ⟨[0, 1, 4, 5, 6, 7, 9, 10, 19, 34, 45, 52, 58], [.c 4 true 3, .t 5, .t 6],
  .seq (.region [⟨(.g 4), .alloc [(.int .i64 0), (.int .i64 0), (.str [])], none⟩, ⟨(.g 5), .mv (.c (.int .i64 0)), none⟩, ⟨(.g 6), .mv (.c (.bool false)), none⟩])
  (.seq (.seq (.region [⟨(.l 11), .mv (.g 1), none⟩, ⟨(.l 12), .bin .lss (.l 11) (.c (.int .i64 0)), none⟩, ⟨(.l 13), .mv (.l 12), none⟩, ⟨(.l 14), .mv (.g 1), (some ((.l 13), false))⟩, ⟨(.l 15), .mv (.g 0), (some ((.l 13), false))⟩, ⟨(.l 16), .lenStr (.l 15), (some ((.l 13), false))⟩, ⟨(.l 17), .bin .sub (.l 16) (.c (.int .i64 4)), (some ((.l 13), false))⟩, ⟨(.l 18), .bin .gtr (.l 14) (.l 17), (some ((.l 13), false))⟩, ⟨(.g 19), .pick (.l 13) (.c (.bool true)) (.l 18), none⟩])
  (.cond (.g 19) (.seq (.region [⟨(.l 20), .build [(.int .i64 0), (.int .i64 0), (.str [])] [], none⟩, ⟨.no, .store 3 (.g 4) (.l 20), none⟩, ⟨(.g 5), .mv (.c (.int .i64 0)), none⟩, ⟨(.g 6), .mv (.c (.bool false)), none⟩])
   (.ret))
  (.skip)))
  (.seq (.region [⟨(.l 22), .mv (.g 0), none⟩, ⟨(.l 23), .mv (.g 1), none⟩, ⟨(.l 24), .bin .add (.l 23) (.c (.int .i64 2)), none⟩, ⟨(.l 25), .call fn_impl_WordGet [(.l 22), (.l 24)], none⟩, ⟨(.l 21), .mv (.l 25), none⟩, ⟨(.l 26), .extract (.l 21) 0, none⟩, ⟨(.l 27), .extract (.l 21) 1, none⟩, ⟨(.g 7), .mv (.l 26), none⟩, ⟨(.l 8), .mv (.l 27), none⟩])
  (.seq (.seq (.region [⟨(.l 28), .mv (.g 7), none⟩, ⟨(.l 29), .bin .lss (.l 28) (.c (.int .i64 4)), none⟩, ⟨(.l 30), .mv (.l 29), none⟩, ⟨(.l 31), .mv (.g 7), (some ((.l 30), false))⟩, ⟨(.l 32), .bin .sub (.l 31) (.c (.int .i64 4)), (some ((.l 30), false))⟩, ⟨(.l 33), .bin .gtr (.l 32) (.c (.int .i64 60)), (some ((.l 30), false))⟩, ⟨(.g 34), .pick (.l 30) (.c (.bool true)) (.l 33), none⟩])
  (.cond (.g 34) (.seq (.region [⟨(.l 35), .build [(.int .i64 0), (.int .i64 0), (.str [])] [], none⟩, ⟨.no, .store 3 (.g 4) (.l 35), none⟩, ⟨(.g 5), .mv (.c (.int .i64 0)), none⟩, ⟨(.g 6), .mv (.c (.bool false)), none⟩])
   (.ret))
  (.skip)))
  (.seq (.region [⟨(.l 36), .mv (.g 1), none⟩, ⟨(.l 37), .mv (.g 7), none⟩, ⟨(.l 38), .bin .add (.l 37) (.c (.int .i64 3)), none⟩, ⟨(.l 39), .bin .quo (.l 38) (.c (.int .i64 4)), none⟩, ⟨(.l 40), .bin .mul (.l 39) (.c (.int .i64 4)), none⟩, ⟨(.l 41), .bin .add (.l 36) (.l 40), none⟩, ⟨(.g 9), .mv (.l 41), none⟩])
  (.seq (.seq (.region [⟨(.l 42), .mv (.g 9), none⟩, ⟨(.l 43), .mv (.g 0), none⟩, ⟨(.l 44), .lenStr (.l 43), none⟩, ⟨(.g 45), .bin .gtr (.l 42) (.l 44), none⟩])
  (.cond (.g 45) (.seq (.region [⟨(.l 46), .build [(.int .i64 0), (.int .i64 0), (.str [])] [], none⟩, ⟨.no, .store 3 (.g 4) (.l 46), none⟩, ⟨(.g 5), .mv (.c (.int .i64 0)), none⟩, ⟨(.g 6), .mv (.c (.bool false)), none⟩])
   (.ret))
  (.skip)))
  (.seq (.seq (.region [⟨(.l 47), .mv (.g 1), none⟩, ⟨(.l 48), .mv (.g 7), none⟩, ⟨(.l 49), .bin .add (.l 47) (.l 48), none⟩, ⟨(.g 10), .mv (.l 49), none⟩])
  (.block 0 (.loop (.seq (.seq (.region [⟨(.l 50), .mv (.g 10), none⟩, ⟨(.l 51), .mv (.g 9), none⟩, ⟨(.g 52), .bin .lss (.l 50) (.l 51), none⟩])
    (.cond (.g 52) (.skip)
    (.exit 0)))
    (.seq (.block 1 (.seq (.region [⟨(.l 55), .mv (.g 0), none⟩, ⟨(.l 56), .mv (.g 10), none⟩, ⟨(.l 57), .idxStr (.l 55) (.l 56), none⟩, ⟨(.g 58), .bin .neq (.l 57) (.c (.int .u8 0)), none⟩])
     (.cond (.g 58) (.seq (.region [⟨(.l 59), .build [(.int .i64 0), (.int .i64 0), (.str [])] [], none⟩, ⟨.no, .store 3 (.g 4) (.l 59), none⟩, ⟨(.g 5), .mv (.c (.int .i64 0)), none⟩, ⟨(.g 6), .mv (.c (.bool false)), none⟩])
      (.ret))
     (.skip))))
    (.region [⟨(.l 53), .mv (.g 10), none⟩, ⟨(.l 54), .bin .add (.l 53) (.c (.int .i64 1)), none⟩, ⟨(.g 10), .mv (.l 54), none⟩]))))))
  (.seq (.drawn [⟨(.l 60), .mv (.g 0), none⟩, ⟨(.l 61), .mv (.g 1), none⟩, ⟨(.l 62), .idxStr (.l 60) (.l 61), none⟩, ⟨(.l 63), .conv .i64 (.l 62), none⟩, ⟨(.l 64), .mv (.g 0), none⟩, ⟨(.l 65), .mv (.g 1), none⟩, ⟨(.l 66), .bin .add (.l 65) (.c (.int .i64 1)), none⟩, ⟨(.l 67), .idxStr (.l 64) (.l 66), none⟩, ⟨(.l 68), .conv .i64 (.l 67), none⟩, ⟨(.l 69), .mv (.g 0), none⟩, ⟨(.l 70), .mv (.g 1), none⟩, ⟨(.l 71), .bin .add (.l 70) (.c (.int .i64 4)), none⟩, ⟨(.l 72), .mv (.g 1), none⟩, ⟨(.l 73), .mv (.g 7), none⟩, ⟨(.l 74), .bin .add (.l 72) (.l 73), none⟩, ⟨(.l 75), .cutStr (.l 69) (some (.l 71)) (some (.l 74)), none⟩, ⟨(.l 76), .build [(.int .i64 0), (.int .i64 0), (.str [])] [(0, 1, (.l 63)), (1, 1, (.l 68)), (2, 1, (.l 75))], none⟩, ⟨(.l 77), .mv (.g 9), none⟩, ⟨.no, .store 3 (.g 4) (.l 76), none⟩] [[], [], [], [], [], [], [], [], [], [], [], [], [], [], [], [], [], [], []] [⟨(.g 5), .mv (.l 77), none⟩, ⟨(.g 6), .mv (.c (.bool true)), none⟩])
  (.ret))))))))⟩
theorem ln_impl_ChunkGet : Linked Tryz.prog fn_impl_ChunkGet ac_impl_ChunkGet := ⟨Tryz.f54, _, Tryz.func54, rfl, by kernel_rfl, by kernel_rfl, by kernel_rfl, by kernel_rfl⟩
def ac_impl_PacketValid : AF := ⟨[0, 1, 2, 4, 51, 53, 54, 55, 56, 61], [.t 2],
  .seq (.region [⟨(.g 1), .box (.g 0), none⟩, ⟨(.g 2), .mv (.c (.bool false)), none⟩])
  (.seq (.seq (.region [⟨(.l 5), .faddr 0 (.g 1), none⟩, ⟨(.l 6), .load false 1 (.l 5), none⟩, ⟨(.l 7), .bin .lss (.l 6) (.c (.int .i64 1)), none⟩, ⟨(.l 8), .mv (.l 7), none⟩, ⟨(.l 9), .faddr 0 (.g 1), (some ((.l 8), false))⟩, ⟨(.l 10), .load false 1 (.l 9), (some ((.l 8), false))⟩, ⟨(.l 11), .bin .gtr (.l 10) (.c (.int .i64 65535)), (some ((.l 8), false))⟩, ⟨(.l 12), .pick (.l 8) (.c (.bool true)) (.l 11), none⟩, ⟨(.l 13), .mv (.l 12), none⟩, ⟨(.l 14), .faddr 1 (.g 1), (some ((.l 13), false))⟩, ⟨(.l 15), .load false 1 (.l 14), (some ((.l 13), false))⟩, ⟨(.l 16), .bin .lss (.l 15) (.c (.int .i64 1)), (some ((.l 13), false))⟩, ⟨(.l 17), .pick (.l 13) (.c (.bool true)) (.l 16), none⟩, ⟨(.l 18), .mv (.l 17), none⟩, ⟨(.l 19), .faddr 1 (.g 1), (some ((.l 18), false))⟩, ⟨(.l 20), .load false 1 (.l 19), (some ((.l 18), false))⟩, ⟨(.l 21), .bin .gtr (.l 20) (.c (.int .i64 65535)), (some ((.l 18), false))⟩, ⟨(.l 22), .pick (.l 18) (.c (.bool true)) (.l 21), none⟩, ⟨(.l 23), .mv (.l 22), none⟩, ⟨(.l 24), .faddr 0 (.g 1), (some ((.l 23), false))⟩, ⟨(.l 25), .load false 1 (.l 24), (some ((.l 23), false))⟩, ⟨(.l 26), .faddr 1 (.g 1), (some ((.l 23), false))⟩, ⟨(.l 27), .load false 1 (.l 26), (some ((.l 23), false))⟩, ⟨(.l 28), .bin .eql (.l 25) (.l 27), (some ((.l 23), false))⟩, ⟨(.l 29), .pick (.l 23) (.c (.bool true)) (.l 28), none⟩, ⟨(.l 30), .mv (.l 29), none⟩, ⟨(.l 31), .faddr 2 (.g 1), (some ((.l 30), false))⟩, ⟨(.l 32), .load false 1 (.l 31), (some ((.l 30), false))⟩, ⟨(.l 33), .bin .lss (.l 32) (.c (.int .i64 0)), (some ((.l 30), false))⟩, ⟨(.l 34), .pick (.l 30) (.c (.bool true)) (.l 33), none⟩, ⟨(.l 35), .mv (.l 34), none⟩, ⟨(.l 36), .faddr 2 (.g 1), (some ((.l 35), false))⟩, ⟨(.l 37), .load false 1 (.l 36), (some ((.l 35), false))⟩, ⟨(.l 38), .bin .gtr (.l 37) (.c (.int .i64 4294967295)), (some ((.l 35), false))⟩, ⟨(.l 39), .pick (.l 35) (.c (.bool true)) (.l 38), none⟩, ⟨(.l 40), .mv (.l 39), none⟩, ⟨(.l 41), .faddr 3 (.g 1), (some ((.l 40), false))⟩, ⟨(.l 42), .load false 1 (.l 41), (some ((.l 40), false))⟩, ⟨(.l 43), .len (.l 42), (some ((.l 40), false))⟩, ⟨(.l 44), .bin .lss (.l 43) (.c (.int .i64 1)), (some ((.l 40), false))⟩, ⟨(.l 45), .pick (.l 40) (.c (.bool true)) (.l 44), none⟩, ⟨(.l 46), .mv (.l 45), none⟩, ⟨(.l 47), .faddr 3 (.g 1), (some ((.l 46), false))⟩, ⟨(.l 48), .load false 1 (.l 47), (some ((.l 46), false))⟩, ⟨(.l 49), .len (.l 48), (some ((.l 46), false))⟩, ⟨(.l 50), .bin .gtr (.l 49) (.c (.int .i64 4)), (some ((.l 46), false))⟩, ⟨(.g 51), .pick (.l 46) (.c (.bool true)) (.l 50), none⟩])
  (.cond (.g 51) (.seq (.region [⟨(.g 2), .mv (.c (.bool false)), none⟩])
   (.ret))
  (.skip)))
  (.seq (.seq (.region [⟨(.l 52), .faddr 3 (.g 1), none⟩, ⟨(.g 53), .load false 1 (.l 52), none⟩, ⟨(.g 54), .len (.g 53), none⟩, ⟨(.g 55), .mv (.c (.int .i64 0)), none⟩])
  (.block 0 (.loop (.seq (.region [⟨(.g 56), .bin .lss (.g 55) (.g 54), none⟩])
    (.seq (.cond (.g 56) (.skip)
    (.exit 0))
    (.seq (.block 1 (.seq (.region [⟨(.l 57), .elS 3 (.g 53) (.g 55), none⟩, ⟨(.l 58), .load true 3 (.l 57), none⟩, ⟨(.g 4), .alloc [(.int .i64 0), (.int .i64 0), (.str [])], none⟩, ⟨.no, .store 3 (.g 4) (.l 58), none⟩])
     (.seq (.region [⟨(.l 59), .load true 3 (.g 4), none⟩, ⟨(.l 60), .call fn_impl_ChunkValid [(.l 59)], none⟩, ⟨(.g 61), .un .not (.l 60), none⟩])
     (.cond (.g 61) (.seq (.region [⟨(.g 2), .mv (.c (.bool false)), none⟩])
      (.ret))
     (.skip)))))
    (.region [⟨(.l 62), .bin .add (.g 55) (.c (.int .i64 1)), none⟩, ⟨(.g 55), .mv (.l 62), none⟩])))))))
  (.seq (.region [⟨(.g 2), .mv (.c (.bool true)), none⟩])
  (.ret))))⟩
theorem ln_impl_PacketValid : Linked Tryz.prog fn_impl_PacketValid ac_impl_PacketValid := ⟨Tryz.f55, _, Tryz.func55, rfl, by kernel_rfl, by kernel_rfl, by kernel_rfl, by kernel_rfl⟩
def ac_impl_PacketAlone : AF := ⟨[0, 1, 2, 4, 7, 11, 13, 14, 15, 16, 31], [.t 2],
  .seq (.region [⟨(.g 1), .box (.g 0), none⟩, ⟨(.g 2), .mv (.c (.bool false)), none⟩])
  (.seq (.seq (.region [⟨(.l 5), .load true 4 (.g 1), none⟩, ⟨(.l 6), .call fn_impl_PacketValid [(.l 5)], none⟩, ⟨(.g 7), .un .not (.l 6), none⟩])
  (.cond (.g 7) (.seq (.region [⟨(.g 2), .mv (.c (.bool false)), none⟩])
   (.ret))
  (.skip)))
  (.seq (.seq (.region [⟨(.l 8), .faddr 3 (.g 1), none⟩, ⟨(.l 9), .load false 1 (.l 8), none⟩, ⟨(.l 10), .len (.l 9), none⟩, ⟨(.g 11), .bin .eql (.l 10) (.c (.int .i64 1)), none⟩])
  (.cond (.g 11) (.seq (.region [⟨(.g 2), .mv (.c (.bool true)), none⟩])
   (.ret))
  (.skip)))
  (.seq (.seq (.region [⟨(.l 12), .faddr 3 (.g 1), none⟩, ⟨(.g 13), .load false 1 (.l 12), none⟩, ⟨(.g 14), .len (.g 13), none⟩, ⟨(.g 15), .mv (.c (.int .i64 0)), none⟩])
  (.block 0 (.loop (.seq (.region [⟨(.g 16), .bin .lss (.g 15) (.g 14), none⟩])
    (.seq (.cond (.g 16) (.skip)
    (.exit 0))
    (.seq (.block 1 (.seq (.region [⟨(.l 17), .elS 3 (.g 13) (.g 15), none⟩, ⟨(.l 18), .load true 3 (.l 17), none⟩, ⟨(.g 4), .alloc [(.int .i64 0), (.int .i64 0), (.str [])], none⟩, ⟨.no, .store 3 (.g 4) (.l 18), none⟩])
     (.seq (.region [⟨(.l 19), .faddr 0 (.g 4), none⟩, ⟨(.l 20), .load false 1 (.l 19), none⟩, ⟨(.l 21), .bin .eql (.l 20) (.c (.int .i64 1)), none⟩, ⟨(.l 22), .mv (.l 21), none⟩, ⟨(.l 23), .faddr 0 (.g 4), (some ((.l 22), false))⟩, ⟨(.l 24), .load false 1 (.l 23), (some ((.l 22), false))⟩, ⟨(.l 25), .bin .eql (.l 24) (.c (.int .i64 2)), (some ((.l 22), false))⟩, ⟨(.l 26), .pick (.l 22) (.c (.bool true)) (.l 25), none⟩, ⟨(.l 27), .mv (.l 26), none⟩, ⟨(.l 28), .faddr 0 (.g 4), (some ((.l 27), false))⟩, ⟨(.l 29), .load false 1 (.l 28), (some ((.l 27), false))⟩, ⟨(.l 30), .bin .eql (.l 29) (.c (.int .i64 14)), (some ((.l 27), false))⟩, ⟨(.g 31), .pick (.l 27) (.c (.bool true)) (.l 30), none⟩])
     (.cond (.g 31) (.seq (.region [⟨(.g 2), .mv (.c (.bool false)), none⟩])
      (.ret))
     (.skip)))))
    (.region [⟨(.l 32), .bin .add (.g 15) (.c (.int .i64 1)), none⟩, ⟨(.g 15), .mv (.l 32), none⟩])))))))
  (.seq (.region [⟨(.g 2), .mv (.c (.bool true)), none⟩])
  (.ret)))))⟩
theorem ln_impl_PacketAlone : Linked Tryz.prog fn_impl_PacketAlone ac_impl_PacketAlone := ⟨Tryz.f56, _, Tryz.func56, rfl, by kernel_rfl, by kernel_rfl, by kernel_rfl, by kernel_rfl⟩
def ac_impl_Assoc_handle : AF := ⟨[0, 1, 2, 4, 6, 7, 8, 9, 16, 30, 31, 39, 67, 72, 85, 89, 106, 111, 115, 131, 135, 150, 151, 164, 168, 174, 184, 206, 207, 217, 227, 239, 240, 249], [.t 6],
  .seq (.region [⟨(.g 4), .box (.g 1), none⟩, ⟨(.g 6), .mv (.c (.int .i64 0)), none⟩])
  (.seq (.drawn [⟨(.l 10), .mv (.g 0), none⟩, ⟨(.l 11), .nilc (.l 10), none⟩, ⟨(.l 12), .faddr 4 (.l 11), none⟩, ⟨(.l 13), .mv (.g 0), none⟩, ⟨(.l 14), .nilc (.l 13), none⟩, ⟨(.l 15), .faddr 9 (.l 14), none⟩, ⟨(.g 7), .mv (.l 12), none⟩] [[], [], [], [], [], [], []] [⟨(.g 8), .mv (.l 15), none⟩])
  (.seq (.seq (.region [⟨(.g 16), .mv (.g 2), none⟩])
  (.cond (.g 16) (.drawn [⟨(.l 17), .mv (.g 0), none⟩, ⟨(.l 18), .nilc (.l 17), none⟩, ⟨(.l 19), .faddr 9 (.l 18), none⟩, ⟨(.l 20), .mv (.g 0), none⟩, ⟨(.l 21), .nilc (.l 20), none⟩, ⟨(.l 22), .faddr 4 (.l 21), none⟩, ⟨(.g 7), .mv (.l 19), none⟩] [[], [], [], [], [], [], []] [⟨(.g 8), .mv (.l 22), none⟩])
  (.skip)))
  (.seq (.region [⟨(.l 23), .mv (.g 2), none⟩, ⟨(.l 24), .mv (.g 0), none⟩, ⟨(.l 25), .nilc (.l 24), none⟩, ⟨(.l 26), .faddr 3 (.l 25), none⟩, ⟨(.l 27), .load false 1 (.l 26), none⟩, ⟨(.l 28), .beq false (.l 23) (.l 27), none⟩, ⟨(.g 9), .mv (.l 28), none⟩])
  (.seq (.seq (.region [⟨(.l 29), .faddr 0 (.g 4), none⟩, ⟨(.g 30), .load false 1 (.l 29), none⟩])
  (.block 0 (.seq (.seq (.region [⟨(.l 32), .bin .eql (.g 30) (.c (.int .i64 1)), none⟩, ⟨(.g 31), .mv (.l 32), none⟩])
   (.cond (.g 31) (.skip)
   (.region [⟨(.l 33), .bin .eql (.g 30) (.c (.int .i64 2)), none⟩, ⟨(.g 31), .mv (.l 33), none⟩])))
   (.cond (.g 31) (.seq (.region [⟨(.l 34), .mv (.g 0), none⟩, ⟨(.l 35), .load true 3 (.g 4), none⟩, ⟨(.l 36), .mv (.g 2), none⟩, ⟨(.l 37), .mv (.g 7), none⟩, ⟨(.l 38), .call fn_impl_Assoc_greet [(.l 34), (.l 35), (.l 36), (.l 37)], none⟩, ⟨(.g 6), .mv (.l 38), none⟩])
    (.ret))
   (.seq (.region [⟨(.l 40), .bin .eql (.g 30) (.c (.int .i64 0)), none⟩, ⟨(.g 39), .mv (.l 40), none⟩])
    (.cond (.g 39) (.seq (.region [⟨(.l 41), .mv (.g 0), none⟩, ⟨(.l 42), .nilc (.l 41), none⟩, ⟨(.l 43), .faddr 2 (.l 42), none⟩, ⟨(.l 44), .load false 1 (.l 43), none⟩, ⟨(.l 45), .bin .eql (.l 44) (.c (.int .i64 4)), none⟩, ⟨(.l 46), .mv (.l 45), none⟩, ⟨(.l 47), .mv (.g 0), (some ((.l 46), false))⟩, ⟨(.l 48), .nilc (.l 47), (some ((.l 46), false))⟩, ⟨(.l 49), .faddr 2 (.l 48), (some ((.l 46), false))⟩, ⟨(.l 50), .load false 1 (.l 49), (some ((.l 46), false))⟩, ⟨(.l 51), .bin .eql (.l 50) (.c (.int .i64 3)), (some ((.l 46), false))⟩, ⟨(.l 52), .mv (.l 51), (some ((.l 46), false))⟩, ⟨(.l 53), .mv (.g 2), (some ((.l 52), true))⟩, ⟨(.l 54), .un .not (.l 53), (some ((.l 52), true))⟩, ⟨(.l 55), .pick (.l 52) (.l 54) (.c (.bool false)), (some ((.l 46), false))⟩, ⟨(.l 56), .pick (.l 46) (.c (.bool true)) (.l 55), none⟩, ⟨(.l 57), .mv (.l 56), none⟩, ⟨(.l 58), .mv (.g 0), (some ((.l 57), false))⟩, ⟨(.l 59), .nilc (.l 58), (some ((.l 57), false))⟩, ⟨(.l 60), .faddr 2 (.l 59), (some ((.l 57), false))⟩, ⟨(.l 61), .load false 1 (.l 60), (some ((.l 57), false))⟩, ⟨(.l 62), .bin .eql (.l 61) (.c (.int .i64 5)), (some ((.l 57), false))⟩, ⟨(.l 63), .mv (.l 62), (some ((.l 57), false))⟩, ⟨(.l 64), .mv (.g 9), (some ((.l 63), true))⟩, ⟨(.l 65), .un .not (.l 64), (some ((.l 63), true))⟩, ⟨(.l 66), .pick (.l 63) (.l 65) (.c (.bool false)), (some ((.l 57), false))⟩, ⟨(.g 67), .pick (.l 57) (.c (.bool true)) (.l 66), none⟩])
     (.cond (.g 67) (.seq (.region [⟨(.l 68), .mv (.g 0), none⟩, ⟨(.l 69), .load true 3 (.g 4), none⟩, ⟨(.l 70), .mv (.g 7), none⟩, ⟨(.l 71), .call fn_impl_Assoc_take [(.l 68), (.l 69), (.l 70)], none⟩, ⟨(.g 6), .mv (.l 71), none⟩])
      (.ret))
     (.skip)))
    (.seq (.region [⟨(.l 73), .bin .eql (.g 30) (.c (.int .i64 3)), none⟩, ⟨(.g 72), .mv (.l 73), none⟩])
     (.cond (.g 72) (.seq (.region [⟨(.l 74), .mv (.g 0), none⟩, ⟨(.l 75), .nilc (.l 74), none⟩, ⟨(.l 76), .faddr 2 (.l 75), none⟩, ⟨(.l 77), .load false 1 (.l 76), none⟩, ⟨(.l 78), .bin .eql (.l 77) (.c (.int .i64 4)), none⟩, ⟨(.l 79), .mv (.l 78), none⟩, ⟨(.l 80), .mv (.g 0), (some ((.l 79), false))⟩, ⟨(.l 81), .nilc (.l 80), (some ((.l 79), false))⟩, ⟨(.l 82), .faddr 2 (.l 81), (some ((.l 79), false))⟩, ⟨(.l 83), .load false 1 (.l 82), (some ((.l 79), false))⟩, ⟨(.l 84), .bin .eql (.l 83) (.c (.int .i64 5)), (some ((.l 79), false))⟩, ⟨(.g 85), .pick (.l 79) (.c (.bool true)) (.l 84), none⟩])
      (.cond (.g 85) (.seq (.region [⟨(.l 86), .load true 3 (.g 4), none⟩, ⟨(.l 87), .mv (.g 8), none⟩, ⟨(.l 88), .call fn_impl_acknowledge [(.l 86), (.l 87)], none⟩, ⟨(.g 6), .mv (.l 88), none⟩])
       (.ret))
      (.skip)))
     (.seq (.region [⟨(.l 90), .bin .eql (.g 30) (.c (.int .i64 10)), none⟩, ⟨(.g 89), .mv (.l 90), none⟩])
      (.cond (.g 89) (.seq (.region [⟨(.l 91), .mv (.g 2), none⟩, ⟨(.l 92), .un .not (.l 91), none⟩, ⟨(.l 93), .mv (.l 92), none⟩, ⟨(.l 94), .mv (.g 0), (some ((.l 93), true))⟩, ⟨(.l 95), .nilc (.l 94), (some ((.l 93), true))⟩, ⟨(.l 96), .faddr 2 (.l 95), (some ((.l 93), true))⟩, ⟨(.l 97), .load false 1 (.l 96), (some ((.l 93), true))⟩, ⟨(.l 98), .bin .geq (.l 97) (.c (.int .i64 2)), (some ((.l 93), true))⟩, ⟨(.l 99), .pick (.l 93) (.l 98) (.c (.bool false)), none⟩, ⟨(.l 100), .mv (.l 99), none⟩, ⟨(.l 101), .mv (.g 0), (some ((.l 100), true))⟩, ⟨(.l 102), .nilc (.l 101), (some ((.l 100), true))⟩, ⟨(.l 103), .faddr 2 (.l 102), (some ((.l 100), true))⟩, ⟨(.l 104), .load false 1 (.l 103), (some ((.l 100), true))⟩, ⟨(.l 105), .bin .leq (.l 104) (.c (.int .i64 4)), (some ((.l 100), true))⟩, ⟨(.g 106), .pick (.l 100) (.l 105) (.c (.bool false)), none⟩])
       (.cond (.g 106) (.seq (.seq (.region [⟨(.l 107), .mv (.g 0), none⟩, ⟨(.l 108), .nilc (.l 107), none⟩, ⟨(.l 109), .faddr 2 (.l 108), none⟩, ⟨(.l 110), .load false 1 (.l 109), none⟩, ⟨(.g 111), .bin .eql (.l 110) (.c (.int .i64 2)), none⟩])
        (.cond (.g 111) (.region [⟨(.l 112), .mv (.g 0), none⟩, ⟨(.l 113), .nilc (.l 112), none⟩, ⟨(.l 114), .faddr 2 (.l 113), none⟩, ⟨.no, .store 1 (.l 114) (.c (.int .i64 3)), none⟩])
        (.skip)))
        (.seq (.region [⟨(.g 6), .mv (.c (.int .i64 0)), none⟩])
        (.ret)))
       (.skip)))
      (.seq (.region [⟨(.l 116), .bin .eql (.g 30) (.c (.int .i64 11)), none⟩, ⟨(.g 115), .mv (.l 116), none⟩])
       (.cond (.g 115) (.seq (.region [⟨(.l 117), .mv (.g 2), none⟩, ⟨(.l 118), .mv (.l 117), none⟩, ⟨(.l 119), .mv (.g 0), (some ((.l 118), true))⟩, ⟨(.l 120), .nilc (.l 119), (some ((.l 118), true))⟩, ⟨(.l 121), .faddr 2 (.l 120), (some ((.l 118), true))⟩, ⟨(.l 122), .load false 1 (.l 121), (some ((.l 118), true))⟩, ⟨(.l 123), .bin .eql (.l 122) (.c (.int .i64 3)), (some ((.l 118), true))⟩, ⟨(.l 124), .mv (.l 123), (some ((.l 118), true))⟩, ⟨(.l 125), .mv (.g 0), (some ((.l 124), false))⟩, ⟨(.l 126), .nilc (.l 125), (some ((.l 124), false))⟩, ⟨(.l 127), .faddr 2 (.l 126), (some ((.l 124), false))⟩, ⟨(.l 128), .load false 1 (.l 127), (some ((.l 124), false))⟩, ⟨(.l 129), .bin .eql (.l 128) (.c (.int .i64 4)), (some ((.l 124), false))⟩, ⟨(.l 130), .pick (.l 124) (.c (.bool true)) (.l 129), (some ((.l 118), true))⟩, ⟨(.g 131), .pick (.l 118) (.l 130) (.c (.bool false)), none⟩])
        (.cond (.g 131) (.seq (.region [⟨(.l 132), .mv (.g 0), none⟩, ⟨(.l 133), .nilc (.l 132), none⟩, ⟨(.l 134), .faddr 2 (.l 133), none⟩, ⟨.no, .store 1 (.l 134) (.c (.int .i64 4)), none⟩])
         (.seq (.region [⟨(.g 6), .mv (.c (.int .i64 0)), none⟩])
         (.ret)))
        (.skip)))
       (.seq (.seq (.region [⟨(.l 136), .bin .eql (.g 30) (.c (.int .i64 4)), none⟩, ⟨(.g 135), .mv (.l 136), none⟩])
        (.cond (.g 135) (.skip)
        (.seq (.region [⟨(.l 137), .bin .eql (.g 30) (.c (.int .i64 5)), none⟩, ⟨(.g 135), .mv (.l 137), none⟩])
         (.cond (.g 135) (.skip)
         (.region [⟨(.l 138), .bin .eql (.g 30) (.c (.int .i64 9)), none⟩, ⟨(.g 135), .mv (.l 138), none⟩])))))
        (.cond (.g 135) (.seq (.region [⟨(.l 139), .mv (.g 0), none⟩, ⟨(.l 140), .nilc (.l 139), none⟩, ⟨(.l 141), .faddr 2 (.l 140), none⟩, ⟨(.l 142), .load false 1 (.l 141), none⟩, ⟨(.l 143), .bin .geq (.l 142) (.c (.int .i64 3)), none⟩, ⟨(.l 144), .mv (.l 143), none⟩, ⟨(.l 145), .mv (.g 0), (some ((.l 144), true))⟩, ⟨(.l 146), .nilc (.l 145), (some ((.l 144), true))⟩, ⟨(.l 147), .faddr 2 (.l 146), (some ((.l 144), true))⟩, ⟨(.l 148), .load false 1 (.l 147), (some ((.l 144), true))⟩, ⟨(.l 149), .bin .leq (.l 148) (.c (.int .i64 6)), (some ((.l 144), true))⟩, ⟨(.g 150), .pick (.l 144) (.l 149) (.c (.bool false)), none⟩])
         (.cond (.g 150) (.seq (.region [⟨(.g 6), .mv (.c (.int .i64 0)), none⟩])
          (.ret))
         (.skip)))
        (.seq (.region [⟨(.l 152), .bin .eql (.g 30) (.c (.int .i64 6)), none⟩, ⟨(.g 151), .mv (.l 152), none⟩])
         (.cond (.g 151) (.seq (.region [⟨(.l 153), .mv (.g 0), none⟩, ⟨(.l 154), .nilc (.l 153), none⟩, ⟨(.l 155), .faddr 2 (.l 154), none⟩, ⟨(.l 156), .load false 1 (.l 155), none⟩, ⟨(.l 157), .bin .geq (.l 156) (.c (.int .i64 1)), none⟩, ⟨(.l 158), .mv (.l 157), none⟩, ⟨(.l 159), .mv (.g 0), (some ((.l 158), true))⟩, ⟨(.l 160), .nilc (.l 159), (some ((.l 158), true))⟩, ⟨(.l 161), .faddr 2 (.l 160), (some ((.l 158), true))⟩, ⟨(.l 162), .load false 1 (.l 161), (some ((.l 158), true))⟩, ⟨(.l 163), .bin .leq (.l 162) (.c (.int .i64 6)), (some ((.l 158), true))⟩, ⟨(.g 164), .pick (.l 158) (.l 163) (.c (.bool false)), none⟩])
          (.cond (.g 164) (.seq (.region [⟨(.l 165), .mv (.g 0), none⟩, ⟨(.l 166), .nilc (.l 165), none⟩, ⟨(.l 167), .faddr 2 (.l 166), none⟩, ⟨.no, .store 1 (.l 167) (.c (.int .i64 7)), none⟩])
           (.seq (.region [⟨(.g 6), .mv (.c (.int .i64 0)), none⟩])
           (.ret)))
          (.skip)))
         (.seq (.region [⟨(.l 169), .bin .eql (.g 30) (.c (.int .i64 7)), none⟩, ⟨(.g 168), .mv (.l 169), none⟩])
          (.cond (.g 168) (.seq (.seq (.region [⟨(.l 170), .mv (.g 0), none⟩, ⟨(.l 171), .nilc (.l 170), none⟩, ⟨(.l 172), .faddr 2 (.l 171), none⟩, ⟨(.l 173), .load false 1 (.l 172), none⟩, ⟨(.g 174), .bin .eql (.l 173) (.c (.int .i64 4)), none⟩])
           (.cond (.g 174) (.seq (.seq (.drawn [⟨(.l 175), .mv (.g 7), none⟩, ⟨(.l 176), .nilc (.l 175), none⟩, ⟨(.l 177), .faddr 4 (.l 176), none⟩, ⟨(.l 178), .load false 1 (.l 177), none⟩, ⟨(.l 179), .mv (.g 7), none⟩, ⟨(.l 180), .nilc (.l 179), none⟩, ⟨(.l 181), .faddr 3 (.l 180), none⟩, ⟨(.l 182), .load false 1 (.l 181), none⟩, ⟨(.l 183), .len (.l 182), none⟩] [[], [], [], [], [], [], [], [3], [3]] [⟨(.g 184), .bin .neq (.l 178) (.l 183), none⟩])
            (.cond (.g 184) (.seq (.region [⟨(.g 6), .mv (.c (.int .i64 10)), none⟩])
             (.ret))
            (.skip)))
            (.seq (.region [⟨(.l 185), .mv (.g 0), none⟩, ⟨(.l 186), .mv (.g 0), none⟩, ⟨(.l 187), .mv (.g 2), none⟩, ⟨(.l 188), .nilc (.l 185), none⟩, ⟨(.l 189), .faddr 2 (.l 188), none⟩, ⟨.no, .store 1 (.l 189) (.c (.int .i64 5)), none⟩, ⟨(.l 190), .nilc (.l 186), none⟩, ⟨(.l 191), .faddr 3 (.l 190), none⟩, ⟨.no, .store 1 (.l 191) (.l 187), none⟩])
            (.seq (.region [⟨(.g 6), .mv (.c (.int .i64 0)), none⟩])
            (.ret))))
           (.skip)))
           (.seq (.region [⟨(.l 192), .mv (.g 0), none⟩, ⟨(.l 193), .nilc (.l 192), none⟩, ⟨(.l 194), .faddr 2 (.l 193), none⟩, ⟨(.l 195), .load false 1 (.l 194), none⟩, ⟨(.l 196), .bin .eql (.l 195) (.c (.int .i64 5)), none⟩, ⟨(.l 197), .mv (.l 196), none⟩, ⟨(.l 198), .mv (.g 0), (some ((.l 197), false))⟩, ⟨(.l 199), .nilc (.l 198), (some ((.l 197), false))⟩, ⟨(.l 200), .faddr 2 (.l 199), (some ((.l 197), false))⟩, ⟨(.l 201), .load false 1 (.l 200), (some ((.l 197), false))⟩, ⟨(.l 202), .bin .eql (.l 201) (.c (.int .i64 6)), (some ((.l 197), false))⟩, ⟨(.l 203), .pick (.l 197) (.c (.bool true)) (.l 202), none⟩, ⟨(.l 204), .mv (.l 203), none⟩, ⟨(.l 205), .mv (.g 9), (some ((.l 204), true))⟩, ⟨(.g 206), .pick (.l 204) (.l 205) (.c (.bool false)), none⟩])
           (.cond (.g 206) (.seq (.region [⟨(.g 6), .mv (.c (.int .i64 0)), none⟩])
            (.ret))
           (.skip))))
          (.seq (.region [⟨(.l 208), .bin .eql (.g 30) (.c (.int .i64 8)), none⟩, ⟨(.g 207), .mv (.l 208), none⟩])
           (.cond (.g 207) (.seq (.seq (.region [⟨(.l 209), .mv (.g 0), none⟩, ⟨(.l 210), .nilc (.l 209), none⟩, ⟨(.l 211), .faddr 2 (.l 210), none⟩, ⟨(.l 212), .load false 1 (.l 211), none⟩, ⟨(.l 213), .bin .eql (.l 212) (.c (.int .i64 5)), none⟩, ⟨(.l 214), .mv (.l 213), none⟩, ⟨(.l 215), .mv (.g 9), (some ((.l 214), true))⟩, ⟨(.l 216), .un .not (.l 215), (some ((.l 214), true))⟩, ⟨(.g 217), .pick (.l 214) (.l 216) (.c (.bool false)), none⟩])
            (.cond (.g 217) (.seq (.seq (.drawn [⟨(.l 218), .mv (.g 7), none⟩, ⟨(.l 219), .nilc (.l 218), none⟩, ⟨(.l 220), .faddr 4 (.l 219), none⟩, ⟨(.l 221), .load false 1 (.l 220), none⟩, ⟨(.l 222), .mv (.g 7), none⟩, ⟨(.l 223), .nilc (.l 222), none⟩, ⟨(.l 224), .faddr 3 (.l 223), none⟩, ⟨(.l 225), .load false 1 (.l 224), none⟩, ⟨(.l 226), .len (.l 225), none⟩] [[], [], [], [], [], [], [], [3], [3]] [⟨(.g 227), .bin .neq (.l 221) (.l 226), none⟩])
             (.cond (.g 227) (.seq (.region [⟨(.g 6), .mv (.c (.int .i64 10)), none⟩])
              (.ret))
             (.skip)))
             (.seq (.region [⟨(.l 228), .mv (.g 0), none⟩, ⟨(.l 229), .nilc (.l 228), none⟩, ⟨(.l 230), .faddr 2 (.l 229), none⟩, ⟨.no, .store 1 (.l 230) (.c (.int .i64 6)), none⟩])
             (.seq (.region [⟨(.g 6), .mv (.c (.int .i64 0)), none⟩])
             (.ret))))
            (.skip)))
            (.seq (.region [⟨(.l 231), .mv (.g 0), none⟩, ⟨(.l 232), .nilc (.l 231), none⟩, ⟨(.l 233), .faddr 2 (.l 232), none⟩, ⟨(.l 234), .load false 1 (.l 233), none⟩, ⟨(.l 235), .bin .eql (.l 234) (.c (.int .i64 6)), none⟩, ⟨(.l 236), .mv (.l 235), none⟩, ⟨(.l 237), .mv (.g 9), (some ((.l 236), true))⟩, ⟨(.l 238), .un .not (.l 237), (some ((.l 236), true))⟩, ⟨(.g 239), .pick (.l 236) (.l 238) (.c (.bool false)), none⟩])
            (.cond (.g 239) (.seq (.region [⟨(.g 6), .mv (.c (.int .i64 0)), none⟩])
             (.ret))
            (.skip))))
           (.seq (.region [⟨(.l 241), .bin .eql (.g 30) (.c (.int .i64 14)), none⟩, ⟨(.g 240), .mv (.l 241), none⟩])
            (.cond (.g 240) (.seq (.region [⟨(.l 242), .mv (.g 0), none⟩, ⟨(.l 243), .nilc (.l 242), none⟩, ⟨(.l 244), .faddr 2 (.l 243), none⟩, ⟨(.l 245), .load false 1 (.l 244), none⟩, ⟨(.l 246), .bin .eql (.l 245) (.c (.int .i64 6)), none⟩, ⟨(.l 247), .mv (.l 246), none⟩, ⟨(.l 248), .mv (.g 9), (some ((.l 247), true))⟩, ⟨(.g 249), .pick (.l 247) (.l 248) (.c (.bool false)), none⟩])
             (.cond (.g 249) (.seq (.region [⟨(.l 250), .mv (.g 0), none⟩, ⟨(.l 251), .nilc (.l 250), none⟩, ⟨(.l 252), .faddr 2 (.l 251), none⟩, ⟨.no, .store 1 (.l 252) (.c (.int .i64 7)), none⟩])
              (.seq (.region [⟨(.g 6), .mv (.c (.int .i64 0)), none⟩])
              (.ret)))
             (.skip)))
            (.skip)))))))))))))))))))))))
  (.seq (.region [⟨(.g 6), .mv (.c (.int .i64 3)), none⟩])
  (.ret))))))⟩
theorem ln_impl_Assoc_handle : Linked Tryz.prog fn_impl_Assoc_handle ac_impl_Assoc_handle := ⟨Tryz.f57, _, Tryz.func57, rfl, by kernel_rfl, by kernel_rfl, by kernel_rfl, by kernel_rfl⟩
def ac_laws_sameSide : AF := ⟨[0, 1, 2, 3, 4], [.t 4],
  .seq (.region [⟨(.g 2), .box (.g 0), none⟩, ⟨(.g 3), .box (.g 1), none⟩, ⟨(.g 4), .mv (.c (.bool false)), none⟩])
  (.seq (.region [⟨(.l 5), .faddr 0 (.g 2), none⟩, ⟨(.l 6), .load false 1 (.l 5), none⟩, ⟨(.l 7), .faddr 0 (.g 3), none⟩, ⟨(.l 8), .load false 1 (.l 7), none⟩, ⟨(.l 9), .bin .eql (.l 6) (.l 8), none⟩, ⟨(.l 10), .mv (.l 9), none⟩, ⟨(.l 11), .faddr 1 (.g 2), (some ((.l 10), true))⟩, ⟨(.l 12), .load false 1 (.l 11), (some ((.l 10), true))⟩, ⟨(.l 13), .faddr 1 (.g 3), (some ((.l 10), true))⟩, ⟨(.l 14), .load false 1 (.l 13), (some ((.l 10), true))⟩, ⟨(.l 15), .bin .eql (.l 12) (.l 14), (some ((.l 10), true))⟩, ⟨(.l 16), .pick (.l 10) (.l 15) (.c (.bool false)), none⟩, ⟨(.l 17), .mv (.l 16), none⟩, ⟨(.l 18), .faddr 2 (.g 2), (some ((.l 17), true))⟩, ⟨(.l 19), .load false 1 (.l 18), (some ((.l 17), true))⟩, ⟨(.l 20), .faddr 2 (.g 3), (some ((.l 17), true))⟩, ⟨(.l 21), .load false 1 (.l 20), (some ((.l 17), true))⟩, ⟨(.l 22), .bin .eql (.l 19) (.l 21), (some ((.l 17), true))⟩, ⟨(.l 23), .pick (.l 17) (.l 22) (.c (.bool false)), none⟩, ⟨(.l 24), .mv (.l 23), none⟩, ⟨(.l 25), .faddr 4 (.g 2), (some ((.l 24), true))⟩, ⟨(.l 26), .load false 1 (.l 25), (some ((.l 24), true))⟩, ⟨(.l 27), .faddr 4 (.g 3), (some ((.l 24), true))⟩, ⟨(.l 28), .load false 1 (.l 27), (some ((.l 24), true))⟩, ⟨(.l 29), .bin .eql (.l 26) (.l 28), (some ((.l 24), true))⟩, ⟨(.l 30), .pick (.l 24) (.l 29) (.c (.bool false)), none⟩, ⟨(.l 31), .mv (.l 30), none⟩, ⟨(.l 32), .faddr 3 (.g 2), (some ((.l 31), true))⟩, ⟨(.l 33), .load false 1 (.l 32), (some ((.l 31), true))⟩, ⟨(.l 34), .faddr 3 (.g 3), (some ((.l 31), true))⟩, ⟨(.l 35), .load false 1 (.l 34), (some ((.l 31), true))⟩, ⟨(.l 36), .call fn_laws_sameParts [(.l 33), (.l 35)], (some ((.l 31), true))⟩, ⟨(.l 37), .pick (.l 31) (.l 36) (.c (.bool false)), none⟩, ⟨(.g 4), .mv (.l 37), none⟩])
  (.ret))⟩
theorem ln_laws_sameSide : Linked Tryz.prog fn_laws_sameSide ac_laws_sameSide := ⟨Tryz.f58, _, Tryz.func58, rfl, by kernel_rfl, by kernel_rfl, by kernel_rfl, by kernel_rfl⟩
def ac_spec_l91Long : AF := ⟨[0, 2, 5], [.t 2],
  .seq (.region [⟨(.g 2), .mv (.c (.int .i64 0)), none⟩])
  (.seq (.seq (.region [⟨(.l 3), .mv (.g 0), none⟩, ⟨(.l 4), .call fn_spec_l6Rd_pick [(.l 3), (.c (.int .i64 12))], none⟩, ⟨(.g 5), .bin .eql (.l 4) (.c (.int .i64 0)), none⟩])
  (.cond (.g 5) (.seq (.region [⟨(.l 6), .lits 1 [(.c (.int .i64 (-1))), (.c (.int .i64 0)), (.c (.int .i64 4294967295)), (.c (.int .i64 4294967296))], none⟩, ⟨(.l 7), .mv (.g 0), none⟩, ⟨(.l 8), .call fn_spec_l6Rd_pick [(.l 7), (.c (.int .i64 4))], none⟩, ⟨(.l 9), .elS 1 (.l 6) (.l 8), none⟩, ⟨(.l 10), .load false 1 (.l 9), none⟩, ⟨(.g 2), .mv (.l 10), none⟩])
   (.ret))
  (.skip)))
  (.seq (.region [⟨(.l 11), .mv (.g 0), none⟩, ⟨(.l 12), .call fn_spec_l91Good [(.l 11)], none⟩, ⟨(.l 13), .bin .mul (.c (.int .i64 65536)) (.l 12), none⟩, ⟨(.l 14), .mv (.g 0), none⟩, ⟨(.l 15), .call fn_spec_l91Good [(.l 14)], none⟩, ⟨(.l 16), .bin .add (.l 13) (.l 15), none⟩, ⟨(.g 2), .mv (.l 16), none⟩])
  (.ret)))⟩
theorem ln_spec_l91Long : Linked Tryz.prog fn_spec_l91Long ac_spec_l91Long := ⟨Tryz.f59, _, Tryz.func59, rfl, by kernel_rfl, by kernel_rfl, by kernel_rfl, by kernel_rfl⟩
def ac_spec_l6Many : AF := ⟨[0, 1, 4, 5, 7, 10], [.t 4],
  .seq (.region [⟨(.g 4), .mv (.c (.str [])), none⟩])
  (.seq (.region [⟨(.g 5), .mv (.c (.str [])), none⟩])
  (.seq (.block 0 (.loop (.seq (.seq (.region [⟨(.l 6), .mv (.g 1), none⟩, ⟨(.g 7), .bin .gtr (.l 6) (.c (.int .i64 0)), none⟩])
    (.cond (.g 7) (.skip)
    (.exit 0)))
    (.block 1 (.seq (.seq (.region [⟨(.l 8), .mv (.g 1), none⟩, ⟨(.l 9), .bin .rem (.l 8) (.c (.int .i64 2)), none⟩, ⟨(.g 10), .bin .eql (.l 9) (.c (.int .i64 1)), none⟩])
     (.cond (.g 10) (.region [⟨(.l 11), .mv (.g 5), none⟩, ⟨(.l 12), .mv (.g 0), none⟩, ⟨(.l 13), .bin .add (.l 11) (.l 12), none⟩, ⟨(.g 5), .mv (.l 13), none⟩])
     (.skip)))
     (.seq (.region [⟨(.l 14), .mv (.g 0), none⟩, ⟨(.l 15), .mv (.g 0), none⟩, ⟨(.l 16), .bin .add (.l 14) (.l 15), none⟩, ⟨(.g 0), .mv (.l 16), none⟩])
     (.region [⟨(.l 17), .mv (.g 1), none⟩, ⟨(.l 18), .bin .quo (.l 17) (.c (.int .i64 2)), none⟩, ⟨(.g 1), .mv (.l 18), none⟩])))))))
  (.seq (.region [⟨(.l 19), .mv (.g 5), none⟩, ⟨(.g 4), .mv (.l 19), none⟩])
  (.ret))))⟩
theorem ln_spec_l6Many : Linked Tryz.prog fn_spec_l6Many ac_spec_l6Many := ⟨Tryz.f60, _, Tryz.func60, rfl, by kernel_rfl, by kernel_rfl, by kernel_rfl, by kernel_rfl⟩
def ac_spec_l32Copy : AF := ⟨[0, 1, 2, 3, 4, 17], [.c 2 true 3],
  .seq (.region [⟨(.g 1), .box (.g 0), none⟩, ⟨(.g 2), .alloc [(.int .i64 0), .nils, .nils], none⟩])
  (.seq (.drawn [⟨(.l 5), .faddr 0 (.g 1), none⟩, ⟨(.l 6), .load false 1 (.l 5), none⟩, ⟨(.l 7), .lits 14 [], none⟩, ⟨(.l 8), .lits 2 [], none⟩, ⟨(.l 9), .faddr 2 (.g 1), none⟩, ⟨(.l 10), .load false 1 (.l 9), none⟩, ⟨(.l 11), .append 2 16 (.l 8) (.l 10), none⟩, ⟨(.l 12), .build [(.int .i64 0), .nils, .nils] [(0, 1, (.l 6)), (1, 1, (.l 7)), (2, 1, (.l 11))], none⟩, ⟨(.g 3), .alloc [(.int .i64 0), .nils, .nils], none⟩] [[], [], [1], [2, 1], [], [3, 2, 1], [2, 1], [], [6, 5, 3, 2, 1]] [⟨.no, .store 3 (.g 3) (.l 12), none⟩])
  (.seq (.seq (.region [⟨(.g 4), .mv (.c (.int .i64 0)), none⟩])
  (.block 0 (.loop (.seq (.seq (.region [⟨(.l 13), .mv (.g 4), none⟩, ⟨(.l 14), .faddr 1 (.g 1), none⟩, ⟨(.l 15), .load false 1 (.l 14), none⟩, ⟨(.l 16), .len (.l 15), none⟩, ⟨(.g 17), .bin .lss (.l 13) (.l 16), none⟩])
    (.cond (.g 17) (.skip)
    (.exit 0)))
    (.seq (.block 1 (.drawn [⟨(.l 20), .faddr 1 (.g 3), none⟩, ⟨(.l 21), .load false 1 (.l 20), none⟩, ⟨(.l 22), .faddr 1 (.g 1), none⟩, ⟨(.l 23), .load false 1 (.l 22), none⟩, ⟨(.l 24), .mv (.g 4), none⟩, ⟨(.l 25), .elS 14 (.l 23) (.l 24), none⟩, ⟨(.l 26), .load true 14 (.l 25), none⟩, ⟨(.l 27), .call fn_spec_l31Copy [(.l 26)], none⟩, ⟨(.l 28), .lits 14 [(.l 27)], none⟩] [[], [], [], [1], [], [1], [1], [1], [1]] [⟨(.l 29), .append 14 144 (.l 21) (.l 28), none⟩, ⟨(.l 30), .faddr 1 (.g 3), none⟩, ⟨.no, .store 1 (.l 30) (.l 29), none⟩]))
    (.region [⟨(.l 18), .mv (.g 4), none⟩, ⟨(.l 19), .bin .add (.l 18) (.c (.int .i64 1)), none⟩, ⟨(.g 4), .mv (.l 19), none⟩]))))))
  (.seq (.region [⟨(.l 31), .load true 3 (.g 3), none⟩, ⟨.no, .store 3 (.g 2) (.l 31), none⟩])
  (.ret))))⟩
theorem ln_spec_l32Copy : Linked Tryz.prog fn_spec_l32Copy ac_spec_l32Copy := ⟨Tryz.f61, _, Tryz.func61, rfl, by kernel_rfl, by kernel_rfl, by kernel_rfl, by kernel_rfl⟩
def ac_spec_PacketGet : AF := ⟨[0, 2, 3, 4, 5, 6, 7, 8, 11, 21, 38, 47, 58], [.c 2 true 4, .t 3],
  .seq (.region [⟨(.g 2), .alloc [(.int .i64 0), (.int .i64 0), (.int .i64 0), .nils], none⟩, ⟨(.g 3), .mv (.c (.int .i64 0)), none⟩])
  (.seq (.seq (.region [⟨(.l 9), .mv (.g 0), none⟩, ⟨(.l 10), .lenStr (.l 9), none⟩, ⟨(.g 11), .bin .lss (.l 10) (.c (.int .i64 12)), none⟩])
  (.cond (.g 11) (.seq (.region [⟨(.l 12), .build [(.int .i64 0), (.int .i64 0), (.int .i64 0), .nils] [], none⟩, ⟨.no, .store 4 (.g 2) (.l 12), none⟩, ⟨(.g 3), .mv (.c (.int .i64 1)), none⟩])
   (.ret))
  (.skip)))
  (.seq (.seq (.region [⟨(.l 13), .mv (.g 0), none⟩, ⟨(.l 14), .call fn_spec_l1At [(.l 13), (.c (.int .i64 8))], none⟩, ⟨(.l 15), .bin .mul (.c (.int .i64 65536)) (.l 14), none⟩, ⟨(.l 16), .mv (.g 0), none⟩, ⟨(.l 17), .call fn_spec_l1At [(.l 16), (.c (.int .i64 10))], none⟩, ⟨(.l 18), .bin .add (.l 15) (.l 17), none⟩, ⟨(.l 19), .mv (.g 0), none⟩, ⟨(.l 20), .call fn_spec_l13Sum [(.l 19)], none⟩, ⟨(.g 21), .bin .neq (.l 18) (.l 20), none⟩])
  (.cond (.g 21) (.seq (.region [⟨(.l 22), .build [(.int .i64 0), (.int .i64 0), (.int .i64 0), .nils] [], none⟩, ⟨.no, .store 4 (.g 2) (.l 22), none⟩, ⟨(.g 3), .mv (.c (.int .i64 2)), none⟩])
   (.ret))
  (.skip)))
  (.seq (.region [⟨(.l 23), .mv (.g 0), none⟩, ⟨(.l 24), .call fn_spec_l1At [(.l 23), (.c (.int .i64 0))], none⟩, ⟨(.l 25), .mv (.g 0), none⟩, ⟨(.l 26), .call fn_spec_l1At [(.l 25), (.c (.int .i64 2))], none⟩, ⟨(.l 27), .mv (.g 0), none⟩, ⟨(.l 28), .call fn_spec_l1At [(.l 27), (.c (.int .i64 4))], none⟩, ⟨(.l 29), .bin .mul (.c (.int .i64 65536)) (.l 28), none⟩, ⟨(.l 30), .mv (.g 0), none⟩, ⟨(.l 31), .call fn_spec_l1At [(.l 30), (.c (.int .i64 6))], none⟩, ⟨(.l 32), .bin .add (.l 29) (.l 31), none⟩, ⟨(.l 33), .lits 3 [], none⟩, ⟨(.l 34), .build [(.int .i64 0), (.int .i64 0), (.int .i64 0), .nils] [(0, 1, (.l 24)), (1, 1, (.l 26)), (2, 1, (.l 32)), (3, 1, (.l 33))], none⟩, ⟨(.g 4), .alloc [(.int .i64 0), (.int .i64 0), (.int .i64 0), .nils], none⟩, ⟨.no, .store 4 (.g 4) (.l 34), none⟩])
  (.seq (.region [⟨(.g 5), .mv (.c (.int .i64 12)), none⟩])
  (.seq (.block 0 (.loop (.seq (.seq (.region [⟨(.l 35), .mv (.g 5), none⟩, ⟨(.l 36), .mv (.g 0), none⟩, ⟨(.l 37), .lenStr (.l 36), none⟩, ⟨(.g 38), .bin .lss (.l 35) (.l 37), none⟩])
    (.cond (.g 38) (.skip)
    (.exit 0)))
    (.block 1 (.seq (.region [⟨(.l 40), .mv (.g 0), none⟩, ⟨(.l 41), .mv (.g 5), none⟩, ⟨(.l 42), .call fn_spec_ChunkGet [(.l 40), (.l 41)], none⟩, ⟨(.l 39), .mv (.l 42), none⟩, ⟨(.l 43), .extract (.l 39) 0, none⟩, ⟨(.l 44), .extract (.l 39) 1, none⟩, ⟨(.l 45), .extract (.l 39) 2, none⟩, ⟨(.g 6), .alloc [(.int .i64 0), (.int .i64 0), (.str [])], none⟩, ⟨.no, .store 3 (.g 6) (.l 43), none⟩, ⟨(.g 7), .mv (.l 44), none⟩, ⟨(.g 8), .mv (.l 45), none⟩])
     (.seq (.seq (.region [⟨(.l 46), .mv (.g 8), none⟩, ⟨(.g 47), .un .not (.l 46), none⟩])
     (.cond (.g 47) (.seq (.region [⟨(.l 48), .build [(.int .i64 0), (.int .i64 0), (.int .i64 0), .nils] [], none⟩, ⟨.no, .store 4 (.g 2) (.l 48), none⟩, ⟨(.g 3), .mv (.c (.int .i64 3)), none⟩])
      (.ret))
     (.skip)))
     (.seq (.region [⟨(.l 49), .faddr 3 (.g 4), none⟩, ⟨(.l 50), .load false 1 (.l 49), none⟩, ⟨(.l 51), .load true 3 (.g 6), none⟩, ⟨(.l 52), .lits 3 [(.l 51)], none⟩, ⟨(.l 53), .append 3 32 (.l 50) (.l 52), none⟩, ⟨(.l 54), .faddr 3 (.g 4), none⟩, ⟨.no, .store 1 (.l 54) (.l 53), none⟩])
     (.region [⟨(.l 55), .mv (.g 7), none⟩, ⟨(.g 5), .mv (.l 55), none⟩]))))))))
  (.seq (.seq (.region [⟨(.l 56), .load true 4 (.g 4), none⟩, ⟨(.l 57), .call fn_spec_PacketValid [(.l 56)], none⟩, ⟨(.g 58), .un .not (.l 57), none⟩])
  (.cond (.g 58) (.seq (.region [⟨(.l 59), .build [(.int .i64 0), (.int .i64 0), (.int .i64 0), .nils] [], none⟩, ⟨.no, .store 4 (.g 2) (.l 59), none⟩, ⟨(.g 3), .mv (.c (.int .i64 3)), none⟩])
   (.ret))
  (.skip)))
  (.seq (.region [⟨(.l 60), .load true 4 (.g 4), none⟩, ⟨.no, .store 4 (.g 2) (.l 60), none⟩, ⟨(.g 3), .mv (.c (.int .i64 0)), none⟩])
  (.ret))))))))⟩
theorem ln_spec_PacketGet : Linked Tryz.prog fn_spec_PacketGet ac_spec_PacketGet := ⟨Tryz.f62, _, Tryz.func62, rfl, by kernel_rfl, by kernel_rfl, by kernel_rfl, by kernel_rfl⟩
def ac_spec_l32Note : AF := ⟨[0, 1, 2, 4], [.c 4 true 3],
  .seq (.region [⟨(.g 2), .box (.g 0), none⟩, ⟨(.g 4), .alloc [(.int .i64 0), .nils, .nils], none⟩])
  (.seq (.region [⟨(.l 5), .faddr 2 (.g 2), none⟩, ⟨(.l 6), .load false 1 (.l 5), none⟩, ⟨(.l 7), .faddr 0 (.g 2), none⟩, ⟨(.l 8), .load false 1 (.l 7), none⟩, ⟨(.l 9), .bin .sub (.l 8) (.c (.int .i64 1)), none⟩, ⟨(.l 10), .mv (.g 1), none⟩, ⟨(.l 11), .build [(.int .i64 0), (.int .i64 0)] [(0, 1, (.l 9)), (1, 1, (.l 10))], none⟩, ⟨(.l 12), .lits 2 [(.l 11)], none⟩, ⟨(.l 13), .append 2 16 (.l 6) (.l 12), none⟩, ⟨(.l 14), .faddr 2 (.g 2), none⟩, ⟨.no, .store 1 (.l 14) (.l 13), none⟩])
  (.seq (.region [⟨(.l 15), .load true 3 (.g 2), none⟩, ⟨.no, .store 3 (.g 4) (.l 15), none⟩])
  (.ret)))⟩
theorem ln_spec_l32Note : Linked Tryz.prog fn_spec_l32Note ac_spec_l32Note := ⟨Tryz.f63, _, Tryz.func63, rfl, by kernel_rfl, by kernel_rfl, by kernel_rfl, by kernel_rfl⟩
def ac_spec_l32Find : AF := ⟨[0, 1, 2, 3, 6, 7, 12, 23], [.t 6],
  .seq (.region [⟨(.g 3), .box (.g 0), none⟩, ⟨(.g 6), .mv (.c (.int .i64 0)), none⟩])
  (.seq (.seq (.region [⟨(.g 7), .mv (.c (.int .i64 0)), none⟩])
  (.block 0 (.loop (.seq (.seq (.region [⟨(.l 8), .mv (.g 7), none⟩, ⟨(.l 9), .faddr 1 (.g 3), none⟩, ⟨(.l 10), .load false 1 (.l 9), none⟩, ⟨(.l 11), .len (.l 10), none⟩, ⟨(.g 12), .bin .lss (.l 8) (.l 11), none⟩])
    (.cond (.g 12) (.skip)
    (.exit 0)))
    (.seq (.block 1 (.seq (.region [⟨(.l 15), .faddr 1 (.g 3), none⟩, ⟨(.l 16), .load false 1 (.l 15), none⟩, ⟨(.l 17), .mv (.g 7), none⟩, ⟨(.l 18), .elS 14 (.l 16) (.l 17), none⟩, ⟨(.l 19), .load true 14 (.l 18), none⟩, ⟨(.l 20), .mv (.g 1), none⟩, ⟨(.l 21), .mv (.g 2), none⟩, ⟨(.l 22), .build [(.int .i64 0), (.int .i64 0), (.int .i64 0), (.bool false), (.int .i64 0), (.int .i64 0), (.int .i64 0), .nils, (.int .i64 0), (.int .i64 0), (.int .i64 0), (.int .i64 0), .nils, (.int .i64 0)] [(0, 1, (.l 20)), (1, 1, (.l 21))], none⟩, ⟨(.g 23), .call fn_spec_l32Pair [(.l 19), (.l 22)], none⟩])
     (.cond (.g 23) (.seq (.region [⟨(.l 24), .mv (.g 7), none⟩, ⟨(.g 6), .mv (.l 24), none⟩])
      (.ret))
     (.skip))))
    (.region [⟨(.l 13), .mv (.g 7), none⟩, ⟨(.l 14), .bin .add (.l 13) (.c (.int .i64 1)), none⟩, ⟨(.g 7), .mv (.l 14), none⟩]))))))
  (.seq (.region [⟨(.g 6), .mv (.c (.int .i64 (-1))), none⟩])
  (.ret)))⟩
theorem ln_spec_l32Find : Linked Tryz.prog fn_spec_l32Find ac_spec_l32Find := ⟨Tryz.f64, _, Tryz.func64, rfl, by kernel_rfl, by kernel_rfl, by kernel_rfl, by kernel_rfl⟩
def ac_spec_PacketAlone : AF := ⟨[0, 1, 2, 3, 8, 23], [.t 2],
  .seq (.region [⟨(.g 1), .box (.g 0), none⟩, ⟨(.g 2), .mv (.c (.bool false)), none⟩])
  (.seq (.seq (.region [⟨(.g 3), .mv (.c (.int .i64 0)), none⟩])
  (.block 0 (.loop (.seq (.seq (.region [⟨(.l 4), .mv (.g 3), none⟩, ⟨(.l 5), .faddr 3 (.g 1), none⟩, ⟨(.l 6), .load false 1 (.l 5), none⟩, ⟨(.l 7), .len (.l 6), none⟩, ⟨(.g 8), .bin .lss (.l 4) (.l 7), none⟩])
    (.cond (.g 8) (.skip)
    (.exit 0)))
    (.seq (.block 1 (.seq (.region [⟨(.l 11), .faddr 3 (.g 1), none⟩, ⟨(.l 12), .load false 1 (.l 11), none⟩, ⟨(.l 13), .mv (.g 3), none⟩, ⟨(.l 14), .elS 3 (.l 12) (.l 13), none⟩, ⟨(.l 15), .faddr 0 (.l 14), none⟩, ⟨(.l 16), .load false 1 (.l 15), none⟩, ⟨(.l 17), .call fn_spec_l13Alone [(.l 16)], none⟩, ⟨(.l 18), .mv (.l 17), none⟩, ⟨(.l 19), .faddr 3 (.g 1), (some ((.l 18), true))⟩, ⟨(.l 20), .load false 1 (.l 19), (some ((.l 18), true))⟩, ⟨(.l 21), .len (.l 20), (some ((.l 18), true))⟩, ⟨(.l 22), .bin .gtr (.l 21) (.c (.int .i64 1)), (some ((.l 18), true))⟩, ⟨(.g 23), .pick (.l 18) (.l 22) (.c (.bool false)), none⟩])
     (.cond (.g 23) (.seq (.region [⟨(.g 2), .mv (.c (.bool false)), none⟩])
      (.ret))
     (.skip))))
    (.region [⟨(.l 9), .mv (.g 3), none⟩, ⟨(.l 10), .bin .add (.l 9) (.c (.int .i64 1)), none⟩, ⟨(.g 3), .mv (.l 10), none⟩]))))))
  (.seq (.region [⟨(.l 24), .load true 4 (.g 1), none⟩, ⟨(.l 25), .call fn_spec_PacketValid [(.l 24)], none⟩, ⟨(.g 2), .mv (.l 25), none⟩])
  (.ret)))⟩
theorem ln_spec_PacketAlone : Linked Tryz.prog fn_spec_PacketAlone ac_spec_PacketAlone := ⟨Tryz.f65, _, Tryz.func65, rfl, by kernel_rfl, by kernel_rfl, by kernel_rfl, by kernel_rfl⟩
def ac_spec_InitGet : AF := ⟨[0, 1, 2, 3, 4, 23, 45], [.c 2 true 4, .t 3],
  .seq (.region [⟨(.g 1), .box (.g 0), none⟩, ⟨(.g 2), .alloc [(.int .i64 0), (.int .i64 0), (.int .i64 0), (.int .i64 0)], none⟩, ⟨(.g 3), .mv (.c (.bool false)), none⟩])
  (.seq (.seq (.region [⟨(.l 5), .faddr 0 (.g 1), none⟩, ⟨(.l 6), .load false 1 (.l 5), none⟩, ⟨(.l 7), .bin .neq (.l 6) (.c (.int .i64 1)), none⟩, ⟨(.l 8), .mv (.l 7), none⟩, ⟨(.l 9), .faddr 0 (.g 1), (some ((.l 8), true))⟩, ⟨(.l 10), .load false 1 (.l 9), (some ((.l 8), true))⟩, ⟨(.l 11), .bin .neq (.l 10) (.c (.int .i64 2)), (some ((.l 8), true))⟩, ⟨(.l 12), .pick (.l 8) (.l 11) (.c (.bool false)), none⟩, ⟨(.l 13), .mv (.l 12), none⟩, ⟨(.l 14), .faddr 1 (.g 1), (some ((.l 13), false))⟩, ⟨(.l 15), .load false 1 (.l 14), (some ((.l 13), false))⟩, ⟨(.l 16), .bin .neq (.l 15) (.c (.int .i64 0)), (some ((.l 13), false))⟩, ⟨(.l 17), .pick (.l 13) (.c (.bool true)) (.l 16), none⟩, ⟨(.l 18), .mv (.l 17), none⟩, ⟨(.l 19), .faddr 2 (.g 1), (some ((.l 18), false))⟩, ⟨(.l 20), .load false 1 (.l 19), (some ((.l 18), false))⟩, ⟨(.l 21), .lenStr (.l 20), (some ((.l 18), false))⟩, ⟨(.l 22), .bin .neq (.l 21) (.c (.int .i64 10)), (some ((.l 18), false))⟩, ⟨(.g 23), .pick (.l 18) (.c (.bool true)) (.l 22), none⟩])
  (.cond (.g 23) (.seq (.region [⟨(.l 24), .build [(.int .i64 0), (.int .i64 0), (.int .i64 0), (.int .i64 0)] [], none⟩, ⟨.no, .store 4 (.g 2) (.l 24), none⟩, ⟨(.g 3), .mv (.c (.bool false)), none⟩])
   (.ret))
  (.skip)))
  (.seq (.drawn [⟨(.l 25), .faddr 2 (.g 1), none⟩, ⟨(.l 26), .load false 1 (.l 25), none⟩, ⟨(.l 27), .call fn_spec_l1At [(.l 26), (.c (.int .i64 0))], none⟩, ⟨(.l 28), .bin .mul (.c (.int .i64 65536)) (.l 27), none⟩, ⟨(.l 29), .faddr 2 (.g 1), none⟩, ⟨(.l 30), .load false 1 (.l 29), none⟩, ⟨(.l 31), .call fn_spec_l1At [(.l 30), (.c (.int .i64 2))], none⟩, ⟨(.l 32), .bin .add (.l 28) (.l 31), none⟩, ⟨(.l 33), .faddr 2 (.g 1), none⟩, ⟨(.l 34), .load false 1 (.l 33), none⟩, ⟨(.l 35), .call fn_spec_l1At [(.l 34), (.c (.int .i64 4))], none⟩, ⟨(.l 36), .faddr 2 (.g 1), none⟩, ⟨(.l 37), .load false 1 (.l 36), none⟩, ⟨(.l 38), .call fn_spec_l1At [(.l 37), (.c (.int .i64 6))], none⟩, ⟨(.l 39), .faddr 2 (.g 1), none⟩, ⟨(.l 40), .load false 1 (.l 39), none⟩, ⟨(.l 41), .call fn_spec_l1At [(.l 40), (.c (.int .i64 8))], none⟩, ⟨(.l 42), .build [(.int .i64 0), (.int .i64 0), (.int .i64 0), (.int .i64 0)] [(0, 1, (.l 32)), (1, 1, (.l 35)), (2, 1, (.l 38)), (3, 1, (.l 41))], none⟩, ⟨(.g 4), .alloc [(.int .i64 0), (.int .i64 0), (.int .i64 0), (.int .i64 0)], none⟩] [[], [], [], [], [], [2, 1], [], [], [], [6, 5, 2, 1], [], [], [10, 9, 6, 5, 2, 1], [], [], [13, 12, 10, 9, 6, 5, 2, 1], [], [], [16, 15, 13, 12, 10, 9, 6, 5, 2, 1]] [⟨.no, .store 4 (.g 4) (.l 42), none⟩])
  (.seq (.seq (.region [⟨(.l 43), .load true 4 (.g 4), none⟩, ⟨(.l 44), .call fn_spec_l12Init [(.l 43)], none⟩, ⟨(.g 45), .un .not (.l 44), none⟩])
  (.cond (.g 45) (.seq (.region [⟨(.l 46), .build [(.int .i64 0), (.int .i64 0), (.int .i64 0), (.int .i64 0)] [], none⟩, ⟨.no, .store 4 (.g 2) (.l 46), none⟩, ⟨(.g 3), .mv (.c (.bool false)), none⟩])
   (.ret))
  (.skip)))
  (.seq (.region [⟨(.l 47), .load true 4 (.g 4), none⟩, ⟨.no, .store 4 (.g 2) (.l 47), none⟩, ⟨(.g 3), .mv (.c (.bool true)), none⟩])
  (.ret)))))⟩
theorem ln_spec_InitGet : Linked Tryz.prog fn_spec_InitGet ac_spec_InitGet := ⟨Tryz.f66, _, Tryz.func66, rfl, by kernel_rfl, by kernel_rfl, by kernel_rfl, by kernel_rfl⟩
def ac_spec_l32Begin : AF := ⟨[0, 1, 2, 3, 4, 5, 6, 7, 18, 27, 34, 44], [.c 4 true 3],
  .seq (.region [⟨(.g 2), .box (.g 0), none⟩, ⟨(.g 3), .box (.g 1), none⟩, ⟨(.g 4), .alloc [(.int .i64 0), .nils, .nils], none⟩])
  (.seq (.region [⟨(.l 9), .faddr 0 (.g 3), none⟩, ⟨(.l 10), .load false 1 (.l 9), none⟩, ⟨(.l 11), .faddr 1 (.g 3), none⟩, ⟨(.l 12), .load false 1 (.l 11), none⟩, ⟨(.l 13), .build [(.int .i64 0), (.int .i64 0), (.int .i64 0), (.bool false), (.int .i64 0), (.int .i64 0), (.int .i64 0), .nils, (.int .i64 0), (.int .i64 0), (.int .i64 0), (.int .i64 0), .nils, (.int .i64 0)] [(0, 1, (.l 10)), (1, 1, (.l 12))], none⟩, ⟨(.l 14), .load true 4 (.g 3), none⟩, ⟨(.l 15), .call fn_spec_AssocStep [(.l 13), (.l 14)], none⟩, ⟨(.l 8), .mv (.l 15), none⟩, ⟨(.l 16), .extract (.l 8) 0, none⟩, ⟨(.l 17), .extract (.l 8) 1, none⟩, ⟨(.g 5), .alloc [(.int .i64 0), (.int .i64 0), (.int .i64 0), (.bool false), (.int .i64 0), (.int .i64 0), (.int .i64 0), .nils, (.int .i64 0), (.int .i64 0), (.int .i64 0), (.int .i64 0), .nils, (.int .i64 0)], none⟩, ⟨.no, .store 14 (.g 5) (.l 16), none⟩, ⟨(.g 6), .mv (.l 17), none⟩])
  (.seq (.block 0 (.seq (.region [⟨(.l 19), .faddr 3 (.g 3), none⟩, ⟨(.l 20), .load false 1 (.l 19), none⟩, ⟨(.l 21), .elS 3 (.l 20) (.c (.int .i64 0)), none⟩, ⟨(.l 22), .faddr 0 (.l 21), none⟩, ⟨(.l 23), .load false 1 (.l 22), none⟩, ⟨(.l 24), .bin .neq (.l 23) (.c (.int .i64 1)), none⟩, ⟨(.g 18), .mv (.l 24), none⟩])
   (.cond (.g 18) (.seq (.region [⟨(.l 25), .load true 3 (.g 2), none⟩, ⟨(.l 26), .call fn_spec_l32Note [(.l 25), (.c (.int .i64 104))], none⟩, ⟨.no, .store 3 (.g 4) (.l 26), none⟩])
    (.ret))
   (.seq (.region [⟨(.l 28), .mv (.g 6), none⟩, ⟨(.l 29), .len (.l 28), none⟩, ⟨(.l 30), .bin .gtr (.l 29) (.c (.int .i64 0)), none⟩, ⟨(.g 27), .mv (.l 30), none⟩])
    (.cond (.g 27) (.seq (.seq (.region [⟨(.g 7), .mv (.c (.int .i64 0)), none⟩])
     (.block 1 (.loop (.seq (.seq (.region [⟨(.l 31), .mv (.g 7), none⟩, ⟨(.l 32), .mv (.g 6), none⟩, ⟨(.l 33), .len (.l 32), none⟩, ⟨(.g 34), .bin .lss (.l 31) (.l 33), none⟩])
       (.cond (.g 34) (.skip)
       (.exit 1)))
       (.seq (.block 2 (.drawn [⟨(.l 37), .load true 3 (.g 2), none⟩, ⟨(.l 38), .mv (.g 6), none⟩, ⟨(.l 39), .mv (.g 7), none⟩, ⟨(.l 40), .elS 1 (.l 38) (.l 39), none⟩, ⟨(.l 41), .load false 1 (.l 40), none⟩] [[], [], [], [0], [0]] [⟨(.l 42), .call fn_spec_l32Note [(.l 37), (.l 41)], none⟩, ⟨.no, .store 3 (.g 2) (.l 42), none⟩]))
       (.region [⟨(.l 35), .mv (.g 7), none⟩, ⟨(.l 36), .bin .add (.l 35) (.c (.int .i64 1)), none⟩, ⟨(.g 7), .mv (.l 36), none⟩]))))))
     (.seq (.region [⟨(.l 43), .load true 3 (.g 2), none⟩, ⟨.no, .store 3 (.g 4) (.l 43), none⟩])
     (.ret)))
    (.seq (.region [⟨(.l 45), .faddr 1 (.g 2), none⟩, ⟨(.l 46), .load false 1 (.l 45), none⟩, ⟨(.l 47), .len (.l 46), none⟩, ⟨(.l 48), .bin .geq (.l 47) (.c (.int .i64 3)), none⟩, ⟨(.g 44), .mv (.l 48), none⟩])
     (.cond (.g 44) (.seq (.region [⟨(.l 49), .load true 3 (.g 2), none⟩, ⟨(.l 50), .call fn_spec_l32Note [(.l 49), (.c (.int .i64 105))], none⟩, ⟨.no, .store 3 (.g 4) (.l 50), none⟩])
      (.ret))
     (.skip))))))))
  (.seq (.region [⟨(.l 51), .faddr 1 (.g 2), none⟩, ⟨(.l 52), .load false 1 (.l 51), none⟩, ⟨(.l 53), .load true 14 (.g 5), none⟩, ⟨(.l 54), .lits 14 [(.l 53)], none⟩, ⟨(.l 55), .append 14 144 (.l 52) (.l 54), none⟩, ⟨(.l 56), .faddr 1 (.g 2), none⟩, ⟨.no, .store 1 (.l 56) (.l 55), none⟩])
  (.seq (.region [⟨(.l 57), .load true 3 (.g 2), none⟩, ⟨.no, .store 3 (.g 4) (.l 57), none⟩])
  (.ret)))))⟩
theorem ln_spec_l32Begin : Linked Tryz.prog fn_spec_l32Begin ac_spec_l32Begin := ⟨Tryz.f67, _, Tryz.func67, rfl, by kernel_rfl, by kernel_rfl, by kernel_rfl, by kernel_rfl⟩
def ac_spec_AssocStep : AF := ⟨[0, 1, 2, 3, 4, 5, 6, 7, 8, 9, 10, 48, 62, 68, 75], [.c 4 true 14, .t 5],
  .seq (.region [⟨(.g 2), .box (.g 0), none⟩, ⟨(.g 3), .box (.g 1), none⟩, ⟨(.g 4), .alloc [(.int .i64 0), (.int .i64 0), (.int .i64 0), (.bool false), (.int .i64 0), (.int .i64 0), (.int .i64 0), .nils, (.int .i64 0), (.int .i64 0), (.int .i64 0), (.int .i64 0), .nils, (.int .i64 0)], none⟩, ⟨(.g 5), .mv (.c .nils), none⟩])
  (.seq (.region [⟨(.l 11), .faddr 0 (.g 3), none⟩, ⟨(.l 12), .load false 1 (.l 11), none⟩, ⟨(.l 13), .faddr 1 (.g 2), none⟩, ⟨(.l 14), .load false 1 (.l 13), none⟩, ⟨(.l 15), .bin .eql (.l 12) (.l 14), none⟩, ⟨(.l 16), .mv (.l 15), none⟩, ⟨(.l 17), .faddr 1 (.g 3), (some ((.l 16), true))⟩, ⟨(.l 18), .load false 1 (.l 17), (some ((.l 16), true))⟩, ⟨(.l 19), .faddr 0 (.g 2), (some ((.l 16), true))⟩, ⟨(.l 20), .load false 1 (.l 19), (some ((.l 16), true))⟩, ⟨(.l 21), .bin .eql (.l 18) (.l 20), (some ((.l 16), true))⟩, ⟨(.l 22), .pick (.l 16) (.l 21) (.c (.bool false)), none⟩, ⟨(.g 6), .mv (.l 22), none⟩])
  (.seq (.seq (.region [⟨(.l 23), .load true 14 (.g 2), none⟩, ⟨(.l 24), .call fn_spec_AssocValid [(.l 23)], none⟩, ⟨(.l 25), .un .not (.l 24), none⟩, ⟨(.l 26), .mv (.l 25), none⟩, ⟨(.l 27), .load true 4 (.g 3), (some ((.l 26), false))⟩, ⟨(.l 28), .call fn_spec_PacketValid [(.l 27)], (some ((.l 26), false))⟩, ⟨(.l 29), .un .not (.l 28), (some ((.l 26), false))⟩, ⟨(.l 30), .pick (.l 26) (.c (.bool true)) (.l 29), none⟩, ⟨(.l 31), .mv (.l 30), none⟩, ⟨(.l 32), .mv (.g 6), (some ((.l 31), false))⟩, ⟨(.l 33), .un .not (.l 32), (some ((.l 31), false))⟩, ⟨(.l 34), .mv (.l 33), (some ((.l 31), false))⟩, ⟨(.l 35), .faddr 0 (.g 3), (some ((.l 34), true))⟩, ⟨(.l 36), .load false 1 (.l 35), (some ((.l 34), true))⟩, ⟨(.l 37), .faddr 0 (.g 2), (some ((.l 34), true))⟩, ⟨(.l 38), .load false 1 (.l 37), (some ((.l 34), true))⟩, ⟨(.l 39), .bin .neq (.l 36) (.l 38), (some ((.l 34), true))⟩, ⟨(.l 40), .mv (.l 39), (some ((.l 34), true))⟩, ⟨(.l 41), .faddr 1 (.g 3), (some ((.l 40), false))⟩, ⟨(.l 42), .load false 1 (.l 41), (some ((.l 40), false))⟩, ⟨(.l 43), .faddr 1 (.g 2), (some ((.l 40), false))⟩, ⟨(.l 44), .load false 1 (.l 43), (some ((.l 40), false))⟩, ⟨(.l 45), .bin .neq (.l 42) (.l 44), (some ((.l 40), false))⟩, ⟨(.l 46), .pick (.l 40) (.c (.bool true)) (.l 45), (some ((.l 34), true))⟩, ⟨(.l 47), .pick (.l 34) (.l 46) (.c (.bool false)), (some ((.l 31), false))⟩, ⟨(.g 48), .pick (.l 31) (.c (.bool true)) (.l 47), none⟩])
  (.cond (.g 48) (.seq (.region [⟨(.l 49), .build [(.int .i64 0), (.int .i64 0), (.int .i64 0), (.bool false), (.int .i64 0), (.int .i64 0), (.int .i64 0), .nils, (.int .i64 0), (.int .i64 0), (.int .i64 0), (.int .i64 0), .nils, (.int .i64 0)] [], none⟩, ⟨(.l 50), .lits 1 [], none⟩, ⟨.no, .store 14 (.g 4) (.l 49), none⟩, ⟨(.g 5), .mv (.l 50), none⟩])
   (.ret))
  (.skip)))
  (.seq (.region [⟨(.l 52), .load true 14 (.g 2), none⟩, ⟨(.l 53), .mv (.g 6), none⟩, ⟨(.l 54), .load true 4 (.g 3), none⟩, ⟨(.l 55), .call fn_spec_l31Step [(.l 52), (.l 53), (.l 54)], none⟩, ⟨(.l 51), .mv (.l 55), none⟩, ⟨(.l 56), .extract (.l 51) 0, none⟩, ⟨(.l 57), .extract (.l 51) 1, none⟩, ⟨(.g 7), .alloc [(.int .i64 0), (.int .i64 0), (.int .i64 0), (.bool false), (.int .i64 0), (.int .i64 0), (.int .i64 0), .nils, (.int .i64 0), (.int .i64 0), (.int .i64 0), (.int .i64 0), .nils, (.int .i64 0)], none⟩, ⟨.no, .store 14 (.g 7) (.l 56), none⟩, ⟨(.g 8), .mv (.l 57), none⟩])
  (.seq (.region [⟨(.l 58), .lits 1 [], none⟩, ⟨(.g 9), .mv (.l 58), none⟩])
  (.seq (.seq (.region [⟨(.g 10), .mv (.c (.int .i64 1)), none⟩])
  (.block 0 (.loop (.seq (.seq (.region [⟨(.l 59), .mv (.g 10), none⟩, ⟨(.l 60), .mv (.g 8), none⟩, ⟨(.l 61), .len (.l 60), none⟩, ⟨(.g 62), .bin .lss (.l 59) (.l 61), none⟩])
    (.cond (.g 62) (.skip)
    (.exit 0)))
    (.seq (.block 1 (.seq (.region [⟨(.l 65), .mv (.g 8), none⟩, ⟨(.l 66), .mv (.g 10), none⟩, ⟨(.l 67), .elS 1 (.l 65) (.l 66), none⟩, ⟨(.g 68), .load false 1 (.l 67), none⟩])
     (.cond (.g 68) (.region [⟨(.l 69), .mv (.g 9), none⟩, ⟨(.l 70), .mv (.g 10), none⟩, ⟨(.l 71), .lits 1 [(.l 70)], none⟩, ⟨(.l 72), .append 1 8 (.l 69) (.l 71), none⟩, ⟨(.g 9), .mv (.l 72), none⟩])
     (.skip))))
    (.region [⟨(.l 63), .mv (.g 10), none⟩, ⟨(.l 64), .bin .add (.l 63) (.c (.int .i64 1)), none⟩, ⟨(.g 10), .mv (.l 64), none⟩]))))))
  (.seq (.seq (.region [⟨(.l 73), .mv (.g 9), none⟩, ⟨(.l 74), .len (.l 73), none⟩, ⟨(.g 75), .bin .gtr (.l 74) (.c (.int .i64 0)), none⟩])
  (.cond (.g 75) (.seq (.region [⟨(.l 76), .load true 14 (.g 2), none⟩, ⟨(.l 77), .call fn_spec_l31Copy [(.l 76)], none⟩, ⟨(.l 78), .mv (.g 9), none⟩, ⟨.no, .store 14 (.g 4) (.l 77), none⟩, ⟨(.g 5), .mv (.l 78), none⟩])
   (.ret))
  (.skip)))
  (.seq (.region [⟨(.l 79), .load true 14 (.g 7), none⟩, ⟨(.l 80), .call fn_spec_l31Copy [(.l 79)], none⟩, ⟨(.l 81), .mv (.g 9), none⟩, ⟨.no, .store 14 (.g 4) (.l 80), none⟩, ⟨(.g 5), .mv (.l 81), none⟩])
  (.ret))))))))⟩
theorem ln_spec_AssocStep : Linked Tryz.prog fn_spec_AssocStep ac_spec_AssocStep := ⟨Tryz.f68, _, Tryz.func68, rfl, by kernel_rfl, by kernel_rfl, by kernel_rfl, by kernel_rfl⟩
def ac_spec_l6In : AF := ⟨[0, 1, 2, 6], [.t 6],
  .seq (.region [⟨(.g 6), .mv (.c (.bool false)), none⟩])
  (.seq (.region [⟨(.l 7), .mv (.g 0), none⟩, ⟨(.l 8), .mv (.g 1), none⟩, ⟨(.l 9), .bin .geq (.l 7) (.l 8), none⟩, ⟨(.l 10), .mv (.l 9), none⟩, ⟨(.l 11), .mv (.g 0), (some ((.l 10), true))⟩, ⟨(.l 12), .mv (.g 2), (some ((.l 10), true))⟩, ⟨(.l 13), .bin .leq (.l 11) (.l 12), (some ((.l 10), true))⟩, ⟨(.l 14), .pick (.l 10) (.l 13) (.c (.bool false)), none⟩, ⟨(.g 6), .mv (.l 14), none⟩])
  (.ret))⟩
theorem ln_spec_l6In : Linked Tryz.prog fn_spec_l6In ac_spec_l6In := ⟨Tryz.f69, _, Tryz.func69, rfl, by kernel_rfl, by kernel_rfl, by kernel_rfl, by kernel_rfl⟩
def ac_impl_initOk : AF := ⟨[0, 1, 2], [.t 2],
  .seq (.region [⟨(.g 1), .box (.g 0), none⟩, ⟨(.g 2), .mv (.c (.bool false)), none⟩])
  (.seq (.region [⟨(.l 3), .faddr 0 (.g 1), none⟩, ⟨(.l 4), .load false 1 (.l 3), none⟩, ⟨(.l 5), .bin .geq (.l 4) (.c (.int .i64 1)), none⟩, ⟨(.l 6), .mv (.l 5), none⟩, ⟨(.l 7), .faddr 0 (.g 1), (some ((.l 6), true))⟩, ⟨(.l 8), .load false 1 (.l 7), (some ((.l 6), true))⟩, ⟨(.l 9), .bin .leq (.l 8) (.c (.int .i64 4294967295)), (some ((.l 6), true))⟩, ⟨(.l 10), .pick (.l 6) (.l 9) (.c (.bool false)), none⟩, ⟨(.l 11), .mv (.l 10), none⟩, ⟨(.l 12), .faddr 1 (.g 1), (some ((.l 11), true))⟩, ⟨(.l 13), .load false 1 (.l 12), (some ((.l 11), true))⟩, ⟨(.l 14), .call fn_impl_serialOk [(.l 13)], (some ((.l 11), true))⟩, ⟨(.l 15), .pick (.l 11) (.l 14) (.c (.bool false)), none⟩, ⟨(.l 16), .mv (.l 15), none⟩, ⟨(.l 17), .faddr 2 (.g 1), (some ((.l 16), true))⟩, ⟨(.l 18), .load false 1 (.l 17), (some ((.l 16), true))⟩, ⟨(.l 19), .bin .geq (.l 18) (.c (.int .i64 1)), (some ((.l 16), true))⟩, ⟨(.l 20), .pick (.l 16) (.l 19) (.c (.bool false)), none⟩, ⟨(.l 21), .mv (.l 20), none⟩, ⟨(.l 22), .faddr 2 (.g 1), (some ((.l 21), true))⟩, ⟨(.l 23), .load false 1 (.l 22), (some ((.l 21), true))⟩, ⟨(.l 24), .bin .leq (.l 23) (.c (.int .i64 4)), (some ((.l 21), true))⟩, ⟨(.l 25), .pick (.l 21) (.l 24) (.c (.bool false)), none⟩, ⟨(.l 26), .mv (.l 25), none⟩, ⟨(.l 27), .faddr 3 (.g 1), (some ((.l 26), true))⟩, ⟨(.l 28), .load false 1 (.l 27), (some ((.l 26), true))⟩, ⟨(.l 29), .call fn_impl_serialOk [(.l 28)], (some ((.l 26), true))⟩, ⟨(.l 30), .pick (.l 26) (.l 29) (.c (.bool false)), none⟩, ⟨(.g 2), .mv (.l 30), none⟩])
  (.ret))⟩
theorem ln_impl_initOk : Linked Tryz.prog fn_impl_initOk ac_impl_initOk := ⟨Tryz.f70, _, Tryz.func70, rfl, by kernel_rfl, by kernel_rfl, by kernel_rfl, by kernel_rfl⟩
def ac_impl_SideValid : AF := ⟨[0, 1, 2, 3, 4, 7, 69, 71, 72, 73, 74, 105], [.t 2],
  .seq (.region [⟨(.g 1), .box (.g 0), none⟩, ⟨(.g 2), .mv (.c (.bool false)), none⟩])
  (.seq (.seq (.region [⟨(.l 5), .faddr 0 (.g 1), none⟩, ⟨(.l 6), .load false 1 (.l 5), none⟩, ⟨(.g 7), .bin .eql (.l 6) (.c (.int .i64 0)), none⟩])
  (.cond (.g 7) (.seq (.region [⟨(.l 8), .faddr 1 (.g 1), none⟩, ⟨(.l 9), .load false 1 (.l 8), none⟩, ⟨(.l 10), .bin .eql (.l 9) (.c (.int .i64 0)), none⟩, ⟨(.l 11), .mv (.l 10), none⟩, ⟨(.l 12), .faddr 2 (.g 1), (some ((.l 11), true))⟩, ⟨(.l 13), .load false 1 (.l 12), (some ((.l 11), true))⟩, ⟨(.l 14), .bin .eql (.l 13) (.c (.int .i64 0)), (some ((.l 11), true))⟩, ⟨(.l 15), .pick (.l 11) (.l 14) (.c (.bool false)), none⟩, ⟨(.l 16), .mv (.l 15), none⟩, ⟨(.l 17), .faddr 3 (.g 1), (some ((.l 16), true))⟩, ⟨(.l 18), .load false 1 (.l 17), (some ((.l 16), true))⟩, ⟨(.l 19), .len (.l 18), (some ((.l 16), true))⟩, ⟨(.l 20), .bin .eql (.l 19) (.c (.int .i64 0)), (some ((.l 16), true))⟩, ⟨(.l 21), .pick (.l 16) (.l 20) (.c (.bool false)), none⟩, ⟨(.l 22), .mv (.l 21), none⟩, ⟨(.l 23), .faddr 4 (.g 1), (some ((.l 22), true))⟩, ⟨(.l 24), .load false 1 (.l 23), (some ((.l 22), true))⟩, ⟨(.l 25), .bin .eql (.l 24) (.c (.int .i64 0)), (some ((.l 22), true))⟩, ⟨(.l 26), .pick (.l 22) (.l 25) (.c (.bool false)), none⟩, ⟨(.g 2), .mv (.l 26), none⟩])
   (.ret))
  (.skip)))
  (.seq (.seq (.region [⟨(.l 27), .faddr 0 (.g 1), none⟩, ⟨(.l 28), .load false 1 (.l 27), none⟩, ⟨(.l 29), .bin .lss (.l 28) (.c (.int .i64 1)), none⟩, ⟨(.l 30), .mv (.l 29), none⟩, ⟨(.l 31), .faddr 0 (.g 1), (some ((.l 30), false))⟩, ⟨(.l 32), .load false 1 (.l 31), (some ((.l 30), false))⟩, ⟨(.l 33), .bin .gtr (.l 32) (.c (.int .i64 4294967295)), (some ((.l 30), false))⟩, ⟨(.l 34), .pick (.l 30) (.c (.bool true)) (.l 33), none⟩, ⟨(.l 35), .mv (.l 34), none⟩, ⟨(.l 36), .faddr 1 (.g 1), (some ((.l 35), false))⟩, ⟨(.l 37), .load false 1 (.l 36), (some ((.l 35), false))⟩, ⟨(.l 38), .bin .lss (.l 37) (.c (.int .i64 1)), (some ((.l 35), false))⟩, ⟨(.l 39), .pick (.l 35) (.c (.bool true)) (.l 38), none⟩, ⟨(.l 40), .mv (.l 39), none⟩, ⟨(.l 41), .faddr 1 (.g 1), (some ((.l 40), false))⟩, ⟨(.l 42), .load false 1 (.l 41), (some ((.l 40), false))⟩, ⟨(.l 43), .bin .gtr (.l 42) (.c (.int .i64 4)), (some ((.l 40), false))⟩, ⟨(.l 44), .pick (.l 40) (.c (.bool true)) (.l 43), none⟩, ⟨(.l 45), .mv (.l 44), none⟩, ⟨(.l 46), .faddr 2 (.g 1), (some ((.l 45), false))⟩, ⟨(.l 47), .load false 1 (.l 46), (some ((.l 45), false))⟩, ⟨(.l 48), .call fn_impl_serialOk [(.l 47)], (some ((.l 45), false))⟩, ⟨(.l 49), .un .not (.l 48), (some ((.l 45), false))⟩, ⟨(.l 50), .pick (.l 45) (.c (.bool true)) (.l 49), none⟩, ⟨(.l 51), .mv (.l 50), none⟩, ⟨(.l 52), .faddr 3 (.g 1), (some ((.l 51), false))⟩, ⟨(.l 53), .load false 1 (.l 52), (some ((.l 51), false))⟩, ⟨(.l 54), .len (.l 53), (some ((.l 51), false))⟩, ⟨(.l 55), .bin .gtr (.l 54) (.c (.int .i64 12)), (some ((.l 51), false))⟩, ⟨(.l 56), .pick (.l 51) (.c (.bool true)) (.l 55), none⟩, ⟨(.l 57), .mv (.l 56), none⟩, ⟨(.l 58), .faddr 4 (.g 1), (some ((.l 57), false))⟩, ⟨(.l 59), .load false 1 (.l 58), (some ((.l 57), false))⟩, ⟨(.l 60), .bin .lss (.l 59) (.c (.int .i64 0)), (some ((.l 57), false))⟩, ⟨(.l 61), .pick (.l 57) (.c (.bool true)) (.l 60), none⟩, ⟨(.l 62), .mv (.l 61), none⟩, ⟨(.l 63), .faddr 4 (.g 1), (some ((.l 62), false))⟩, ⟨(.l 64), .load false 1 (.l 63), (some ((.l 62), false))⟩, ⟨(.l 65), .faddr 3 (.g 1), (some ((.l 62), false))⟩, ⟨(.l 66), .load false 1 (.l 65), (some ((.l 62), false))⟩, ⟨(.l 67), .len (.l 66), (some ((.l 62), false))⟩, ⟨(.l 68), .bin .gtr (.l 64) (.l 67), (some ((.l 62), false))⟩, ⟨(.g 69), .pick (.l 62) (.c (.bool true)) (.l 68), none⟩])
  (.cond (.g 69) (.seq (.region [⟨(.g 2), .mv (.c (.bool false)), none⟩])
   (.ret))
  (.skip)))
  (.seq (.seq (.region [⟨(.l 70), .faddr 3 (.g 1), none⟩, ⟨(.g 71), .load false 1 (.l 70), none⟩, ⟨(.g 72), .len (.g 71), none⟩, ⟨(.g 73), .mv (.c (.int .i64 0)), none⟩])
  (.block 0 (.loop (.seq (.region [⟨(.g 74), .bin .lss (.g 73) (.g 72), none⟩])
    (.seq (.cond (.g 74) (.skip)
    (.exit 0))
    (.seq (.block 1 (.seq (.region [⟨(.l 75), .mv (.g 73), none⟩, ⟨(.l 76), .elS 7 (.g 71) (.g 73), none⟩, ⟨(.l 77), .load true 7 (.l 76), none⟩, ⟨(.g 4), .alloc [(.int .i64 0), (.int .i64 0), (.int .i64 0), (.bool false), (.bool false), (.bool false), (.str [])], none⟩, ⟨(.g 3), .mv (.l 75), none⟩, ⟨.no, .store 7 (.g 4) (.l 77), none⟩])
     (.seq (.drawn [⟨(.l 78), .load true 7 (.g 4), none⟩, ⟨(.l 79), .call fn_impl_dataOk [(.l 78)], none⟩, ⟨(.l 80), .un .not (.l 79), none⟩, ⟨(.l 81), .mv (.l 80), none⟩, ⟨(.l 82), .faddr 0 (.g 4), (some ((.l 81), false))⟩, ⟨(.l 83), .load false 1 (.l 82), (some ((.l 81), false))⟩, ⟨(.l 84), .faddr 2 (.g 1), (some ((.l 81), false))⟩, ⟨(.l 85), .load false 1 (.l 84), (some ((.l 81), false))⟩, ⟨(.l 86), .mv (.g 3), (some ((.l 81), false))⟩, ⟨(.l 87), .call fn_impl_SerialAdd [(.l 85), (.l 86)], (some ((.l 81), false))⟩, ⟨(.l 88), .bin .neq (.l 83) (.l 87), (some ((.l 81), false))⟩, ⟨(.l 89), .pick (.l 81) (.c (.bool true)) (.l 88), none⟩, ⟨(.l 90), .mv (.l 89), none⟩, ⟨(.l 91), .faddr 1 (.g 4), (some ((.l 90), false))⟩, ⟨(.l 92), .load false 1 (.l 91), (some ((.l 90), false))⟩, ⟨(.l 93), .faddr 1 (.g 1), (some ((.l 90), false))⟩, ⟨(.l 94), .load false 1 (.l 93), (some ((.l 90), false))⟩, ⟨(.l 95), .bin .geq (.l 92) (.l 94), (some ((.l 90), false))⟩, ⟨(.l 96), .pick (.l 90) (.c (.bool true)) (.l 95), none⟩, ⟨(.l 97), .mv (.l 96), none⟩, ⟨(.l 98), .faddr 3 (.g 1), (some ((.l 97), false))⟩, ⟨(.l 99), .load false 1 (.l 98), (some ((.l 97), false))⟩, ⟨(.l 100), .mv (.g 3), (some ((.l 97), false))⟩, ⟨(.l 101), .cutSl 7 (.l 99) none (some (.l 100)), (some ((.l 97), false))⟩, ⟨(.l 102), .load true 7 (.g 4), (some ((.l 97), false))⟩] [[], [], [], [], [], [], [], [5], [], [5], [], [], [], [], [], [], [14], [], [], [], [], [], [], [], [23, 21]] [⟨(.l 103), .call fn_impl_mayFollow [(.l 101), (.l 102)], (some ((.l 97), false))⟩, ⟨(.l 104), .un .not (.l 103), (some ((.l 97), false))⟩, ⟨(.g 105), .pick (.l 97) (.c (.bool true)) (.l 104), none⟩])
     (.cond (.g 105) (.seq (.region [⟨(.g 2), .mv (.c (.bool false)), none⟩])
      (.ret))
     (.skip)))))
    (.region [⟨(.l 106), .bin .add (.g 73) (.c (.int .i64 1)), none⟩, ⟨(.g 73), .mv (.l 106), none⟩])))))))
  (.seq (.region [⟨(.g 2), .mv (.c (.bool true)), none⟩])
  (.ret)))))⟩
theorem ln_impl_SideValid : Linked Tryz.prog fn_impl_SideValid ac_impl_SideValid := ⟨Tryz.f71, _, Tryz.func71, rfl, by kernel_rfl, by kernel_rfl, by kernel_rfl, by kernel_rfl⟩
def ac_spec_PacketValid : AF := ⟨[0, 1, 2, 3, 8, 17], [.t 2],
  .seq (.region [⟨(.g 1), .box (.g 0), none⟩, ⟨(.g 2), .mv (.c (.bool false)), none⟩])
  (.seq (.seq (.region [⟨(.g 3), .mv (.c (.int .i64 0)), none⟩])
  (.block 0 (.loop (.seq (.seq (.region [⟨(.l 4), .mv (.g 3), none⟩, ⟨(.l 5), .faddr 3 (.g 1), none⟩, ⟨(.l 6), .load false 1 (.l 5), none⟩, ⟨(.l 7), .len (.l 6), none⟩, ⟨(.g 8), .bin .lss (.l 4) (.l 7), none⟩])
    (.cond (.g 8) (.skip)
    (.exit 0)))
    (.seq (.block 1 (.seq (.region [⟨(.l 11), .faddr 3 (.g 1), none⟩, ⟨(.l 12), .load false 1 (.l 11), none⟩, ⟨(.l 13), .mv (.g 3), none⟩, ⟨(.l 14), .elS 3 (.l 12) (.l 13), none⟩, ⟨(.l 15), .load true 3 (.l 14), none⟩, ⟨(.l 16), .call fn_spec_ChunkValid [(.l 15)], none⟩, ⟨(.g 17), .un .not (.l 16), none⟩])
     (.cond (.g 17) (.seq (.region [⟨(.g 2), .mv (.c (.bool false)), none⟩])
      (.ret))
     (.skip))))
    (.region [⟨(.l 9), .mv (.g 3), none⟩, ⟨(.l 10), .bin .add (.l 9) (.c (.int .i64 1)), none⟩, ⟨(.g 3), .mv (.l 10), none⟩]))))))
  (.seq (.region [⟨(.l 18), .faddr 0 (.g 1), none⟩, ⟨(.l 19), .load false 1 (.l 18), none⟩, ⟨(.l 20), .call fn_spec_l6In [(.l 19), (.c (.int .i64 1)), (.c (.int .i64 65535))], none⟩, ⟨(.l 21), .mv (.l 20), none⟩, ⟨(.l 22), .faddr 1 (.g 1), (some ((.l 21), true))⟩, ⟨(.l 23), .load false 1 (.l 22), (some ((.l 21), true))⟩, ⟨(.l 24), .call fn_spec_l6In [(.l 23), (.c (.int .i64 1)), (.c (.int .i64 65535))], (some ((.l 21), true))⟩, ⟨(.l 25), .pick (.l 21) (.l 24) (.c (.bool false)), none⟩, ⟨(.l 26), .mv (.l 25), none⟩, ⟨(.l 27), .faddr 0 (.g 1), (some ((.l 26), true))⟩, ⟨(.l 28), .load false 1 (.l 27), (some ((.l 26), true))⟩, ⟨(.l 29), .faddr 1 (.g 1), (some ((.l 26), true))⟩, ⟨(.l 30), .load false 1 (.l 29), (some ((.l 26), true))⟩, ⟨(.l 31), .bin .neq (.l 28) (.l 30), (some ((.l 26), true))⟩, ⟨(.l 32), .pick (.l 26) (.l 31) (.c (.bool false)), none⟩, ⟨(.l 33), .mv (.l 32), none⟩, ⟨(.l 34), .faddr 2 (.g 1), (some ((.l 33), true))⟩, ⟨(.l 35), .load false 1 (.l 34), (some ((.l 33), true))⟩, ⟨(.l 36), .call fn_spec_l6In [(.l 35), (.c (.int .i64 0)), (.c (.int .i64 4294967295))], (some ((.l 33), true))⟩, ⟨(.l 37), .pick (.l 33) (.l 36) (.c (.bool false)), none⟩, ⟨(.l 38), .mv (.l 37), none⟩, ⟨(.l 39), .faddr 3 (.g 1), (some ((.l 38), true))⟩, ⟨(.l 40), .load false 1 (.l 39), (some ((.l 38), true))⟩, ⟨(.l 41), .len (.l 40), (some ((.l 38), true))⟩, ⟨(.l 42), .call fn_spec_l6In [(.l 41), (.c (.int .i64 1)), (.c (.int .i64 4))], (some ((.l 38), true))⟩, ⟨(.l 43), .pick (.l 38) (.l 42) (.c (.bool false)), none⟩, ⟨(.g 2), .mv (.l 43), none⟩])
  (.ret)))⟩
theorem ln_spec_PacketValid : Linked Tryz.prog fn_spec_PacketValid ac_spec_PacketValid := ⟨Tryz.f73, _, Tryz.func73, rfl, by kernel_rfl, by kernel_rfl, by kernel_rfl, by kernel_rfl⟩
def ac_spec_l13Put : AF := ⟨[0, 1, 2, 3, 4, 21], [.t 2],
  .seq (.region [⟨(.g 1), .box (.g 0), none⟩, ⟨(.g 2), .mv (.c (.str [])), none⟩])
  (.seq (.drawn [⟨(.l 5), .faddr 0 (.g 1), none⟩, ⟨(.l 6), .load false 1 (.l 5), none⟩, ⟨(.l 7), .call fn_spec_l1Word [(.l 6)], none⟩, ⟨(.l 8), .faddr 1 (.g 1), none⟩, ⟨(.l 9), .load false 1 (.l 8), none⟩, ⟨(.l 10), .call fn_spec_l1Word [(.l 9)], none⟩, ⟨(.l 11), .bin .add (.l 7) (.l 10), none⟩, ⟨(.l 12), .faddr 2 (.g 1), none⟩, ⟨(.l 13), .load false 1 (.l 12), none⟩, ⟨(.l 14), .call fn_spec_l1Long [(.l 13)], none⟩] [[], [], [], [], [2, 1], [], [], [], [5, 4, 2, 1], []] [⟨(.l 15), .bin .add (.l 11) (.l 14), none⟩, ⟨(.l 16), .bin .add (.l 15) (.c (.str [0, 0, 0, 0])), none⟩, ⟨(.g 3), .mv (.l 16), none⟩])
  (.seq (.seq (.region [⟨(.g 4), .mv (.c (.int .i64 0)), none⟩])
  (.block 0 (.loop (.seq (.seq (.region [⟨(.l 17), .mv (.g 4), none⟩, ⟨(.l 18), .faddr 3 (.g 1), none⟩, ⟨(.l 19), .load false 1 (.l 18), none⟩, ⟨(.l 20), .len (.l 19), none⟩, ⟨(.g 21), .bin .lss (.l 17) (.l 20), none⟩])
    (.cond (.g 21) (.skip)
    (.exit 0)))
    (.seq (.block 1 (.region [⟨(.l 24), .mv (.g 3), none⟩, ⟨(.l 25), .faddr 3 (.g 1), none⟩, ⟨(.l 26), .load false 1 (.l 25), none⟩, ⟨(.l 27), .mv (.g 4), none⟩, ⟨(.l 28), .elS 3 (.l 26) (.l 27), none⟩, ⟨(.l 29), .load true 3 (.l 28), none⟩, ⟨(.l 30), .call fn_spec_l11Put [(.l 29)], none⟩, ⟨(.l 31), .bin .add (.l 24) (.l 30), none⟩, ⟨(.g 3), .mv (.l 31), none⟩]))
    (.region [⟨(.l 22), .mv (.g 4), none⟩, ⟨(.l 23), .bin .add (.l 22) (.c (.int .i64 1)), none⟩, ⟨(.g 4), .mv (.l 23), none⟩]))))))
  (.seq (.drawn [⟨(.l 32), .mv (.g 3), none⟩, ⟨(.l 33), .cutStr (.l 32) none (some (.c (.int .i64 8))), none⟩, ⟨(.l 34), .mv (.g 3), none⟩, ⟨(.l 35), .call fn_spec_l13Sum [(.l 34)], none⟩, ⟨(.l 36), .call fn_spec_l1Long [(.l 35)], none⟩, ⟨(.l 37), .bin .add (.l 33) (.l 36), none⟩, ⟨(.l 38), .mv (.g 3), none⟩, ⟨(.l 39), .cutStr (.l 38) (some (.c (.int .i64 12))) none, none⟩] [[], [], [], [], [], [], [], []] [⟨(.l 40), .bin .add (.l 37) (.l 39), none⟩, ⟨(.g 2), .mv (.l 40), none⟩])
  (.ret))))⟩
theorem ln_spec_l13Put : Linked Tryz.prog fn_spec_l13Put ac_spec_l13Put := ⟨Tryz.f74, _, Tryz.func74, rfl, by kernel_rfl, by kernel_rfl, by kernel_rfl, by kernel_rfl⟩
end Go.Proofs.YtpcfbgeabehmbaaGreat
