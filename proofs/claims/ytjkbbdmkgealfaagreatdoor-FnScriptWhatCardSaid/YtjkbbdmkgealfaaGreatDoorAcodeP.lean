/-
  The abstract code of the program's functions: written by a program, and compared by the kernel with what the model's code comes to.
-/
import Derived.Test.YtjkbbdmkgealfaaGreatDoorQ15
import Derived.Test.YtjkbbdmkgealfaaGreatDoorProg
import Derived.KernelRfl
namespace Go.Proofs.YtjkbbdmkgealfaaGreatDoor
set_option maxRecDepth 100000
set_option linter.all false
def fn_laws_FnScript : Nat := 3
def fn_laws_FnScriptCut : Nat := 4
def fn_laws_FnScriptWhat : Nat := 5
def fn_laws_FnExactExecute : Nat := 6
def fn_laws_FnScriptDrop : Nat := 7
def fn_laws_FnScriptFlip : Nat := 8
def fn_laws_FnScriptLoose : Nat := 9
def fn_laws_FnScriptNo : Nat := 10
def fn_laws_FnScriptTalk : Nat := 11
def fn_spec_DrawExecute : Nat := 12
def fn_impl_Execute : Nat := 13
def fn_spec_Execute : Nat := 14
def fn_laws_lastLine : Nat := 15
def fn_laws_completeLines : Nat := 16
def fn_spec_l6Open : Nat := 17
def fn_spec_l6Rd_pick : Nat := 18
def fn_spec_l92Line : Nat := 19
def fn_spec_l6Many : Nat := 20
def fn_strings_Split : Nat := 21
def fn_impl_desk_line : Nat := 22
def fn_strconv_Itoa : Nat := 23
def fn_spec_l51Talk : Nat := 24
def fn_spec_l42Cut : Nat := 25
def fn_spec_l51Line : Nat := 26
def fn_spec_l6Dec : Nat := 27
def fn_spec_l6Rd_of : Nat := 28
def fn_impl_wordNumber : Nat := 30
def fn_impl_TalkValid : Nat := 31
def fn_impl_TalkRecords : Nat := 32
def fn_impl_ReportText : Nat := 33
def fn_impl_MonitorRun : Nat := 34
def fn_impl_desk_change : Nat := 35
def fn_spec_l51Say : Nat := 37
def fn_spec_TalkRecords : Nat := 38
def fn_spec_l51Change : Nat := 39
def fn_spec_l42Number : Nat := 40
def fn_spec_ReportText : Nat := 41
def fn_spec_MonitorRun : Nat := 42
def fn_impl_smallNumber : Nat := 46
def fn_impl_initOk : Nat := 47
def fn_impl_TalkPackets : Nat := 48
def fn_impl_PacketPut : Nat := 49
def fn_impl_CaptureValid : Nat := 50
def fn_impl_MonitorValid : Nat := 51
def fn_strings_Builder_WriteString : Nat := 52
def fn_impl_sideLines : Nat := 53
def fn_impl_FindingsText : Nat := 54
def fn_strings_Builder_String : Nat := 55
def fn_impl_MonitorStep : Nat := 56
def fn_spec_TalkValid : Nat := 58
def fn_spec_TalkPackets : Nat := 59
def fn_spec_PacketPut : Nat := 60
def fn_spec_CaptureValid : Nat := 61
def fn_spec_l6In : Nat := 62
def fn_spec_MonitorValid : Nat := 63
def fn_spec_l42Side : Nat := 64
def fn_spec_l42Text : Nat := 65
def fn_spec_l32Step : Nat := 66
def fn_impl_serialOk : Nat := 71
def fn_impl_TalkPackets_1 : Nat := 72
def fn_impl_TalkPackets_2 : Nat := 73
def fn_impl_InitPut : Nat := 74
def fn_impl_partsOf : Nat := 75
def fn_impl_DataPut : Nat := 76
def fn_impl_SackPut : Nat := 77
def fn_impl_PacketValid : Nat := 78
def fn_impl_LongPut : Nat := 79
def fn_impl_words : Nat := 80
def fn_impl_ChunkPut : Nat := 81
def fn_impl_SumText : Nat := 82
def fn_impl_AssocValid : Nat := 83
def fn_impl_samePorts : Nat := 84
def fn_impl_foundOk : Nat := 85
def fn_strings_Builder_copyCheck : Nat := 86
def fn_impl_SideKnown : Nat := 87
def fn_impl_SideSaid : Nat := 88
def fn_impl_MessageText : Nat := 89
def fn_impl_copyAssoc : Nat := 90
def fn_impl_PacketGet : Nat := 91
def fn_impl_InitGet : Nat := 92
def fn_impl_AssocStep : Nat := 93
def fn_spec_l12Init : Nat := 98
def fn_spec_l41Many : Nat := 99
def fn_spec_l41Hello : Nat := 100
def fn_spec_l41Parts : Nat := 101
def fn_spec_DataPut : Nat := 102
def fn_spec_SackPut : Nat := 103
def fn_spec_l41Packet : Nat := 104
def fn_spec_l41One : Nat := 105
def fn_spec_PacketValid : Nat := 106
def fn_spec_l13Put : Nat := 107
def fn_spec_l14Record : Nat := 108
def fn_spec_AssocValid : Nat := 109
def fn_spec_l32Pair : Nat := 110
def fn_spec_l32Finding : Nat := 111
def fn_spec_l32Less : Nat := 112
def fn_spec_l31Said : Nat := 113
def fn_spec_l42Message : Nat := 114
def fn_spec_l32Copy : Nat := 115
def fn_spec_PacketGet : Nat := 116
def fn_spec_l32Note : Nat := 117
def fn_spec_l32Find : Nat := 118
def fn_spec_PacketAlone : Nat := 119
def fn_spec_InitGet : Nat := 120
def fn_spec_l32Begin : Nat := 121
def fn_spec_AssocStep : Nat := 122
def fn_impl_SerialAdd : Nat := 128
def fn_impl_dataOk : Nat := 129
def fn_impl_sackOk : Nat := 130
def fn_impl_ChunkValid : Nat := 131
def fn_impl_WordPut : Nat := 132
def fn_impl_sumOn : Nat := 133
def fn_impl_SideValid : Nat := 134
def fn_impl_saidIn : Nat := 136
def fn_impl_hexOf : Nat := 137
def fn_impl_LongGet : Nat := 138
def fn_impl_WordGet : Nat := 139
def fn_impl_ChunkGet : Nat := 140
def fn_impl_PacketAlone : Nat := 141
def fn_impl_Assoc_handle : Nat := 142
def fn_spec_l3Ok : Nat := 148
def fn_spec_InitPut : Nat := 149
def fn_spec_l31Ssn : Nat := 150
def fn_spec_l3Add : Nat := 151
def fn_spec_l12Data : Nat := 152
def fn_spec_l12Bit : Nat := 153
def fn_spec_l1Word : Nat := 154
def fn_spec_l12Sack : Nat := 155
def fn_spec_ChunkValid : Nat := 156
def fn_spec_l1Long : Nat := 157
def fn_spec_l11Put : Nat := 158
def fn_spec_l13Sum : Nat := 159
def fn_spec_SideValid : Nat := 160
def fn_spec_l31Open : Nat := 161
def fn_spec_l1Hex : Nat := 162
def fn_spec_l31Copy : Nat := 163
def fn_spec_l1At : Nat := 164
def fn_spec_ChunkGet : Nat := 165
def fn_spec_l13Alone : Nat := 166
def fn_spec_l31Step : Nat := 167
def fn_impl_mayFollow : Nat := 170
def fn_impl_Assoc_greet : Nat := 171
def fn_impl_Assoc_take : Nat := 172
def fn_impl_acknowledge : Nat := 173
def fn_spec_l2Next : Nat := 176
def fn_spec_l31Follows : Nat := 177
def fn_spec_l31Side2 : Nat := 178
def fn_spec_l31Tag : Nat := 179
def fn_spec_l31Chunk : Nat := 180
def fn_impl_likeParts : Nat := 181
def fn_impl_DataGet : Nat := 182
def fn_impl_SackGet : Nat := 183
def fn_impl_SerialDiff : Nat := 184
def fn_spec_l22Same : Nat := 185
def fn_spec_l31Side : Nat := 186
def fn_spec_l31Init : Nat := 187
def fn_spec_l31Data : Nat := 188
def fn_spec_l31Sack : Nat := 189
def fn_spec_l31End : Nat := 190
def fn_spec_l31Cookie : Nat := 191
def fn_spec_l31With : Nat := 192
def fn_spec_DataGet : Nat := 193
def fn_spec_SackGet : Nat := 194
def fn_spec_l3Diff : Nat := 195
def qL (d : Nat) (op : AO) : AOp := ⟨.l d, op, none⟩
def qG (d : Nat) (op : AO) : AOp := ⟨.g d, op, none⟩
def qN (op : AO) : AOp := ⟨.no, op, none⟩
def qT (d : Nat) (op : AO) (k : Nat) : AOp := ⟨.l d, op, some (.l k, true)⟩
def qF (d : Nat) (op : AO) (k : Nat) : AOp := ⟨.l d, op, some (.l k, false)⟩
def qa (d s : Nat) : AOp := ⟨.l d, .mv (.g s), none⟩
def qb (d s : Nat) : AOp := ⟨.g d, .mv (.l s), none⟩
def qc (d s : Nat) : AOp := ⟨.l d, .mv (.l s), none⟩
def qd (d k s : Nat) : AOp := ⟨.l d, .faddr k (.g s), none⟩
def qe (d k s : Nat) : AOp := ⟨.l d, .faddr k (.l s), none⟩
def qf (d n s : Nat) : AOp := ⟨.l d, .load false n (.l s), none⟩
def qg (d n s : Nat) : AOp := ⟨.l d, .load true n (.g s), none⟩
def qh (d n s : Nat) : AOp := ⟨.l d, .load true n (.l s), none⟩
def qi (n a b : Nat) : AOp := ⟨.no, .store n (.g a) (.l b), none⟩
def qj (n a b : Nat) : AOp := ⟨.no, .store n (.l a) (.l b), none⟩
def qn (n : Int) : AX := .c (.int .i64 n)
def qt : AX := .c (.bool true)
def qo : AX := .c (.bool false)
def qs (l : List UInt8) : AX := .c (.str l)
attribute [simp] qL qG qN qT qF qa qb qc qd qe qf qg qh qi qj qn qt qo qs
def ac_spec_DrawExecute : AF := ⟨[0, 2, 3, 4, 5, 6, 11, 16, 26, 35], [.t 2],
 .seq (.region [qG 2 (.mv (qs []))])
 (.seq (.region [qa 7 0, qL 8 (.call fn_spec_l6Open [.l 7]), qb 3 8])
 (.seq (.region [qG 4 (.mv (qs []))])
 (.seq (.seq (.region [qa 9 3, qL 10 (.call fn_spec_l6Rd_pick [.l 9, qn 2]), qG 11 (.bin .eql (.l 10) (qn 0))])
 (.cond (.g 11) (.region [qG 4 (.mv (qs [97, 32, 48, 32, 104, 101, 108, 108, 111, 10, 98, 32, 48, 32, 120, 10, 116, 97, 108, 107, 10]))])
 (.skip)))
 (.seq (.region [qa 12 3, qL 13 (.call fn_spec_l6Rd_pick [.l 12, qn 14]), qb 5 13])
 (.seq (.seq (.region [qG 6 (.mv (qn 0))])
 (.block 0 (.loop (.seq (.seq (.region [qa 14 6, qa 15 5, qG 16 (.bin .lss (.l 14) (.l 15))])
 (.cond (.g 16) (.skip)
 (.exit 0)))
 (.seq (.block 1 (.region [qa 19 4, qa 20 3, qL 21 (.call fn_spec_l92Line [.l 20]), qL 22 (.bin .add (.l 19) (.l 21)), qL 23 (.bin .add (.l 22) (qs [10])), qb 4 23]))
 (.region [qa 17 6, qL 18 (.bin .add (.l 17) (qn 1)), qb 6 18]))))))
 (.seq (.seq (.region [qa 24 3, qL 25 (.call fn_spec_l6Rd_pick [.l 24, qn 24]), qG 26 (.bin .eql (.l 25) (qn 0))])
 (.cond (.g 26) (.region [qa 27 4, qa 28 3, qL 29 (.call fn_spec_l6Rd_pick [.l 28, qn 6]), qL 30 (.bin .add (qn 82) (.l 29)), qL 31 (.call fn_spec_l6Many [qs [114, 101, 112, 111, 114, 116, 10], .l 30]), qL 32 (.bin .add (.l 27) (.l 31)), qb 4 32])
 (.skip)))
 (.seq (.seq (.region [qa 33 3, qL 34 (.call fn_spec_l6Rd_pick [.l 33, qn 8]), qG 35 (.bin .eql (.l 34) (qn 0))])
 (.cond (.g 35) (.region [qa 36 4, qa 37 3, qL 38 (.call fn_spec_l92Line [.l 37]), qL 39 (.bin .add (.l 36) (.l 38)), qb 4 39])
 (.skip)))
 (.seq (.region [qa 40 4, qb 2 40])
 (.ret)))))))))⟩
theorem ln_spec_DrawExecute : Linked Tryz.prog fn_spec_DrawExecute ac_spec_DrawExecute := ⟨Tryz.f12, _, Tryz.func12, rfl, by kernel_rfl, by kernel_rfl, by kernel_rfl, by kernel_rfl⟩
def ac_impl_Execute : AF := ⟨[0, 2, 3, 4, 5, 7, 10, 21, 22, 23, 24], [.t 2],
 .seq (.region [qG 2 (.mv (qs []))])
 (.seq (.seq (.region [qa 8 0, qL 9 (.lenStr (.l 8)), qG 10 (.bin .gtr (.l 9) (qn 600))])
 (.cond (.g 10) (.seq (.region [qG 2 (.mv (qs [116, 111, 111, 32, 108, 111, 110, 103, 10]))])
 (.ret))
 (.skip)))
 (.seq (.region [qL 11 (.build [.int .i64 0, .int .i64 0, .int .i64 0, .int .i64 0] [(0, 1, qn 11), (1, 1, qn 1000), (2, 1, qn 2), (3, 1, qn 100)]), qL 12 (.build [.int .i64 0, .int .i64 0, .int .i64 0, .int .i64 0] [(0, 1, qn 22), (1, 1, qn 1000), (2, 1, qn 1), (3, 1, qn 65535)]), qL 13 (.build [.int .i64 0, .int .i64 0, .int .i64 0, .int .i64 0, .int .i64 0, .int .i64 0, .int .i64 0, .int .i64 0, .int .i64 0, .int .i64 0, .int .i64 0, .nils] [(0, 1, qn 7), (1, 1, qn 9), (10, 1, qn 4), (2, 4, .l 11), (6, 4, .l 12)]), qL 14 (.build [.int .i64 0, .int .i64 0, .int .i64 0, .int .i64 0, .int .i64 0, .int .i64 0, .int .i64 0, .int .i64 0, .int .i64 0, .int .i64 0, .int .i64 0, .nils, .nils] [(0, 12, .l 13)]), qG 3 (.alloc [.int .i64 0, .int .i64 0, .int .i64 0, .int .i64 0, .int .i64 0, .int .i64 0, .int .i64 0, .int .i64 0, .int .i64 0, .int .i64 0, .int .i64 0, .nils, .nils]), qi 13 3 14])
 (.seq (.region [qG 4 (.mv (qs []))])
 (.seq (.region [qa 15 0, qL 16 (.call fn_strings_Split [.l 15, qs [10]]), qb 5 16])
 (.seq (.seq (.region [qa 17 5, qa 18 5, qL 19 (.len (.l 18)), qL 20 (.bin .sub (.l 19) (qn 1)), qG 21 (.cutSl 1 (.l 17) none (some (.l 20))), qG 22 (.len (.g 21)), qG 23 (.mv (qn 0))])
 (.block 0 (.loop (.seq (.region [qG 24 (.bin .lss (.g 23) (.g 22))])
 (.seq (.cond (.g 24) (.skip)
 (.exit 0))
 (.seq (.block 1 (.seq (.region [qL 25 (.elS 1 (.g 21) (.g 23)), qf 26 1 25, qb 7 26])
 (.region [qa 27 4, qa 28 7, qL 29 (.call fn_strings_Split [.l 28, qs [32]]), qL 30 (.call fn_impl_desk_line [.g 3, .l 29]), qL 31 (.bin .add (.l 27) (.l 30)), qb 4 31])))
 (.region [qL 32 (.bin .add (.g 23) (qn 1)), qb 23 32])))))))
 (.seq (.region [qa 33 4, qL 34 (.bin .add (.l 33) (qs [114, 101, 99, 111, 114, 100, 115, 32])), qd 35 12 3, qf 36 1 35, qL 37 (.len (.l 36)), qL 38 (.call fn_strconv_Itoa [.l 37]), qL 39 (.bin .add (.l 34) (.l 38)), qL 40 (.bin .add (.l 39) (qs [10])), qb 2 40])
 (.ret)))))))⟩
theorem ln_impl_Execute : Linked Tryz.prog fn_impl_Execute ac_impl_Execute := ⟨Tryz.f13, _, Tryz.func13, rfl, by kernel_rfl, by kernel_rfl, by kernel_rfl, by kernel_rfl⟩
def ac_spec_Execute : AF := ⟨[0, 2, 3, 4, 5, 6, 7, 8, 11, 21], [.t 2],
 .seq (.region [qG 2 (.mv (qs []))])
 (.seq (.seq (.region [qa 9 0, qL 10 (.lenStr (.l 9)), qG 11 (.bin .gtr (.l 10) (qn 600))])
 (.cond (.g 11) (.seq (.region [qG 2 (.mv (qs [116, 111, 111, 32, 108, 111, 110, 103, 10]))])
 (.ret))
 (.skip)))
 (.seq (.region [qL 12 (.call fn_spec_l51Talk []), qL 13 (.lits 2 []), qL 14 (.build [.int .i64 0, .int .i64 0, .int .i64 0, .int .i64 0, .int .i64 0, .int .i64 0, .int .i64 0, .int .i64 0, .int .i64 0, .int .i64 0, .int .i64 0, .nils, .nils] [(0, 12, .l 12), (12, 1, .l 13)]), qG 3 (.alloc [.int .i64 0, .int .i64 0, .int .i64 0, .int .i64 0, .int .i64 0, .int .i64 0, .int .i64 0, .int .i64 0, .int .i64 0, .int .i64 0, .int .i64 0, .nils, .nils]), qi 13 3 14])
 (.seq (.region [qG 4 (.mv (qs []))])
 (.seq (.region [qa 15 0, qL 16 (.call fn_spec_l42Cut [.l 15, (.c (.int .u8 10))]), qb 5 16])
 (.seq (.seq (.region [qG 6 (.mv (qn 0))])
 (.block 0 (.loop (.seq (.seq (.region [qa 17 6, qL 18 (.bin .add (.l 17) (qn 1)), qa 19 5, qL 20 (.len (.l 19)), qG 21 (.bin .lss (.l 18) (.l 20))])
 (.cond (.g 21) (.skip)
 (.exit 0)))
 (.seq (.block 1 (.seq (.drawn [qg 25 13 3, qa 26 5, qa 27 6, qL 28 (.elS 1 (.l 26) (.l 27)), qf 29 1 28, qL 30 (.call fn_spec_l51Line [.l 25, .l 29]), qc 24 30, qL 31 (.extract (.l 24) 0), qL 32 (.extract (.l 24) 1), qG 7 (.alloc [.int .i64 0, .int .i64 0, .int .i64 0, .int .i64 0, .int .i64 0, .int .i64 0, .int .i64 0, .int .i64 0, .int .i64 0, .int .i64 0, .int .i64 0, .nils, .nils]), qi 13 7 31] [[], [], [], [0], [0], [], [], [], [], [5, 4, 3, 0], []] [qb 8 32])
 (.seq (.region [qg 33 13 7, qi 13 3 33])
 (.region [qa 34 4, qa 35 8, qL 36 (.bin .add (.l 34) (.l 35)), qb 4 36]))))
 (.region [qa 22 6, qL 23 (.bin .add (.l 22) (qn 1)), qb 6 23]))))))
 (.seq (.region [qa 37 4, qL 38 (.bin .add (.l 37) (qs [114, 101, 99, 111, 114, 100, 115, 32])), qd 39 12 3, qf 40 1 39, qL 41 (.len (.l 40)), qL 42 (.call fn_spec_l6Dec [.l 41]), qL 43 (.bin .add (.l 38) (.l 42)), qL 44 (.bin .add (.l 43) (qs [10])), qb 2 44])
 (.ret)))))))⟩
theorem ln_spec_Execute : Linked Tryz.prog fn_spec_Execute ac_spec_Execute := ⟨Tryz.f14, _, Tryz.func14, rfl, by kernel_rfl, by kernel_rfl, by kernel_rfl, by kernel_rfl⟩
def ac_laws_lastLine : AF := ⟨[0, 2, 3, 8, 14], [.t 2],
 .seq (.region [qG 2 (.mv (qs []))])
 (.seq (.seq (.region [qa 4 0, qL 5 (.lenStr (.l 4)), qL 6 (.bin .sub (.l 5) (qn 2)), qb 3 6])
 (.block 0 (.loop (.seq (.seq (.region [qa 7 3, qG 8 (.bin .geq (.l 7) (qn 0))])
 (.cond (.g 8) (.skip)
 (.exit 0)))
 (.seq (.block 1 (.seq (.region [qa 11 0, qa 12 3, qL 13 (.idxStr (.l 11) (.l 12)), qG 14 (.bin .eql (.l 13) (.c (.int .u8 10)))])
 (.cond (.g 14) (.seq (.region [qa 15 0, qa 16 3, qL 17 (.bin .add (.l 16) (qn 1)), qL 18 (.cutStr (.l 15) (some (.l 17)) none), qb 2 18])
 (.ret))
 (.skip))))
 (.region [qa 9 3, qL 10 (.bin .sub (.l 9) (qn 1)), qb 3 10]))))))
 (.seq (.region [qa 19 0, qb 2 19])
 (.ret)))⟩
theorem ln_laws_lastLine : Linked Tryz.prog fn_laws_lastLine ac_laws_lastLine := ⟨Tryz.f15, _, Tryz.func15, rfl, by kernel_rfl, by kernel_rfl, by kernel_rfl, by kernel_rfl⟩
def ac_laws_completeLines : AF := ⟨[0, 2, 3, 7, 14], [.t 2],
 .seq (.region [qG 2 (.mv (qs []))])
 (.seq (.seq (.region [qa 4 0, qL 5 (.lenStr (.l 4)), qb 3 5])
 (.block 0 (.loop (.seq (.seq (.region [qa 6 3, qG 7 (.bin .gtr (.l 6) (qn 0))])
 (.cond (.g 7) (.skip)
 (.exit 0)))
 (.seq (.block 1 (.seq (.region [qa 10 0, qa 11 3, qL 12 (.bin .sub (.l 11) (qn 1)), qL 13 (.idxStr (.l 10) (.l 12)), qG 14 (.bin .eql (.l 13) (.c (.int .u8 10)))])
 (.cond (.g 14) (.seq (.region [qa 15 0, qa 16 3, qL 17 (.cutStr (.l 15) none (some (.l 16))), qb 2 17])
 (.ret))
 (.skip))))
 (.region [qa 8 3, qL 9 (.bin .sub (.l 8) (qn 1)), qb 3 9]))))))
 (.seq (.region [qG 2 (.mv (qs []))])
 (.ret)))⟩
theorem ln_laws_completeLines : Linked Tryz.prog fn_laws_completeLines ac_laws_completeLines := ⟨Tryz.f16, _, Tryz.func16, rfl, by kernel_rfl, by kernel_rfl, by kernel_rfl, by kernel_rfl⟩
def ac_spec_l6Open : AF := ⟨[0, 2, 5], [.t 2],
 .seq (.region [qG 2 (.mv (.c .nilp))])
 (.seq (.seq (.region [qa 3 0, qL 4 (.len (.l 3)), qG 5 (.bin .gtr (.l 4) (qn 2000))])
 (.cond (.g 5) (.region [qa 6 0, qL 7 (.cutSl 1 (.l 6) none (some (qn 2000))), qb 0 7])
 (.skip)))
 (.seq (.region [qa 8 0, qL 9 (.build [.nils, .int .i64 0] [(0, 1, .l 8)]), qL 10 (.box (.l 9)), qb 2 10])
 (.ret)))⟩
theorem ln_spec_l6Open : Linked Tryz.prog fn_spec_l6Open ac_spec_l6Open := ⟨Tryz.f17, _, Tryz.func17, rfl, by kernel_rfl, by kernel_rfl, by kernel_rfl, by kernel_rfl⟩
def ac_spec_l6Rd_pick : AF := ⟨[0, 1, 4, 5, 6, 24, 36], [.t 4],
 .seq (.region [qG 4 (.mv (qn 0))])
 (.seq (.region [qa 7 0, qa 8 0, qL 9 (.nilc (.l 8)), qe 10 1 9, qf 11 1 10, qL 12 (.bin .add (.l 11) (qn 1)), qL 13 (.nilc (.l 7)), qe 14 1 13, qj 1 14 12])
 (.seq (.seq (.region [qa 15 1, qL 16 (.bin .lss (.l 15) (qn 1)), qc 17 16, qF 18 (.mv (.g 0)) 17, qF 19 (.nilc (.l 18)) 17, qF 20 (.faddr 0 (.l 19)) 17, qF 21 (.load false 1 (.l 20)) 17, qF 22 (.len (.l 21)) 17, qF 23 (.bin .eql (.l 22) (qn 0)) 17, qG 24 (.pick (.l 17) qt (.l 23))])
 (.cond (.g 24) (.seq (.region [qG 4 (.mv (qn 0))])
 (.ret))
 (.skip)))
 (.seq (.region [qa 25 0, qL 26 (.nilc (.l 25)), qe 27 1 26, qf 28 1 27, qL 29 (.bin .sub (.l 28) (qn 1)), qb 5 29])
 (.seq (.seq (.region [qa 30 5, qa 31 0, qL 32 (.nilc (.l 31)), qe 33 0 32, qf 34 1 33, qL 35 (.len (.l 34)), qG 36 (.bin .lss (.l 30) (.l 35))])
 (.cond (.g 36) (.seq (.region [qa 37 0, qL 38 (.nilc (.l 37)), qe 39 0 38, qf 40 1 39, qa 41 5, qL 42 (.elS 1 (.l 40) (.l 41)), qf 43 1 42, qL 44 (.conv .i64 (.l 43)), qa 45 1, qL 46 (.bin .rem (.l 44) (.l 45)), qb 4 46])
 (.ret))
 (.skip)))
 (.seq (.drawn [qa 47 0, qL 48 (.nilc (.l 47)), qe 49 0 48, qf 50 1 49, qa 51 5, qa 52 0, qL 53 (.nilc (.l 52)), qe 54 0 53, qf 55 1 54, qL 56 (.len (.l 55)), qL 57 (.bin .rem (.l 51) (.l 56)), qL 58 (.elS 1 (.l 50) (.l 57)), qf 59 1 58, qL 60 (.conv .i64 (.l 59)), qL 61 (.bin .mul (.l 60) (qn 131)), qa 62 0, qL 63 (.nilc (.l 62)), qe 64 0 63, qf 65 1 64, qa 66 5, qL 67 (.bin .mul (.l 66) (qn 7)), qL 68 (.bin .add (.l 67) (qn 3)), qa 69 0, qL 70 (.nilc (.l 69)), qe 71 0 70, qf 72 1 71, qL 73 (.len (.l 72)), qL 74 (.bin .rem (.l 68) (.l 73)), qL 75 (.elS 1 (.l 65) (.l 74)), qf 76 1 75, qL 77 (.conv .i64 (.l 76)), qL 78 (.bin .mul (.l 77) (qn 1117)), qL 79 (.bin .add (.l 61) (.l 78)), qa 80 5, qL 81 (.bin .mul (.l 80) (qn 29)), qL 82 (.bin .add (.l 79) (.l 81)), qa 83 5, qa 84 0, qL 85 (.nilc (.l 84)), qe 86 0 85, qf 87 1 86, qL 88 (.len (.l 87)), qL 89 (.bin .quo (.l 83) (.l 88)), qL 90 (.bin .mul (.l 89) (qn 53))] [[], [], [], [], [], [], [], [], [3], [3], [], [], [], [], [], [], [], [], [12, 11, 9, 8, 3], [], [], [], [], [], [], [18, 12, 11, 9, 8, 3], [18, 12, 11, 9, 8, 3], [], [12, 11, 9, 8, 3], [12, 11, 9, 8, 3], [], [], [], [], [], [], [], [], [], [], [29, 28, 26, 25, 18, 12, 11, 9, 8, 3], [29, 28, 26, 25, 18, 12, 11, 9, 8, 3], [], []] [qL 91 (.bin .add (.l 82) (.l 90)), qb 6 91])
 (.seq (.region [qa 92 6, qa 93 6, qL 94 (.bin .quo (.l 93) (qn 64)), qL 95 (.bin .xor (.l 92) (.l 94)), qb 6 95])
 (.seq (.region [qa 96 6, qa 97 1, qL 98 (.bin .rem (.l 96) (.l 97)), qb 4 98])
 (.ret))))))))⟩
theorem ln_spec_l6Rd_pick : Linked Tryz.prog fn_spec_l6Rd_pick ac_spec_l6Rd_pick := ⟨Tryz.f18, _, Tryz.func18, rfl, by kernel_rfl, by kernel_rfl, by kernel_rfl, by kernel_rfl⟩
def ac_spec_l92Line : AF := ⟨[0, 2, 4, 5, 21, 24, 35], [.t 2],
 .seq (.region [qG 2 (.mv (qs []))])
 (.seq (.seq (.region [qa 3 0, qG 4 (.call fn_spec_l6Rd_pick [.l 3, qn 8])])
 (.block 0 (.seq (.seq (.region [qL 6 (.bin .eql (.g 4) (qn 0)), qb 5 6])
 (.cond (.g 5) (.skip)
 (.region [qL 7 (.bin .eql (.g 4) (qn 1)), qb 5 7])))
 (.cond (.g 5) (.seq (.region [qa 8 0, qL 9 (.lits 1 [qs [97], qs [98], qs [97, 97], qs [98, 98]]), qL 10 (.call fn_spec_l6Rd_of [.l 8, .l 9]), qL 11 (.bin .add (.l 10) (qs [32])), qa 12 0, qL 13 (.lits 1 [qs [48], qs [48], qs [49], qs [50], qs [120]]), qL 14 (.call fn_spec_l6Rd_of [.l 12, .l 13]), qL 15 (.bin .add (.l 11) (.l 14)), qL 16 (.bin .add (.l 15) (qs [32])), qa 17 0, qL 18 (.lits 1 [qs [104, 101, 108, 108, 111], qs [120], qs [], qs [116, 111, 109, 111, 114, 114, 111, 119]]), qL 19 (.call fn_spec_l6Rd_of [.l 17, .l 18]), qL 20 (.bin .add (.l 16) (.l 19)), qb 2 20])
 (.ret))
 (.seq (.seq (.region [qL 22 (.bin .eql (.g 4) (qn 2)), qb 21 22])
 (.cond (.g 21) (.skip)
 (.region [qL 23 (.bin .eql (.g 4) (qn 3)), qb 21 23])))
 (.cond (.g 21) (.seq (.region [qG 2 (.mv (qs [116, 97, 108, 107]))])
 (.ret))
 (.seq (.seq (.region [qL 25 (.bin .eql (.g 4) (qn 4)), qb 24 25])
 (.cond (.g 24) (.skip)
 (.region [qL 26 (.bin .eql (.g 4) (qn 5)), qb 24 26])))
 (.cond (.g 24) (.seq (.region [qa 27 0, qL 28 (.lits 1 [qs [100, 114, 111, 112], qs [116, 119, 105, 99, 101], qs [99, 117, 116], qs [102, 108, 105, 112]]), qL 29 (.call fn_spec_l6Rd_of [.l 27, .l 28]), qL 30 (.bin .add (.l 29) (qs [32])), qa 31 0, qL 32 (.lits 1 [qs [48], qs [49], qs [52], qs [53], qs [54], qs [55], qs [57, 57], qs [97]]), qL 33 (.call fn_spec_l6Rd_of [.l 31, .l 32]), qL 34 (.bin .add (.l 30) (.l 33)), qb 2 34])
 (.ret))
 (.seq (.region [qL 36 (.bin .eql (.g 4) (qn 6)), qb 35 36])
 (.cond (.g 35) (.seq (.region [qG 2 (.mv (qs [114, 101, 112, 111, 114, 116]))])
 (.ret))
 (.skip)))))))))))
 (.seq (.region [qa 37 0, qL 38 (.lits 1 [qs [], qs [119, 104, 97, 116], qs [97, 32, 48], qs [100, 114, 111, 112], qs [116, 97, 108, 107, 32, 110, 111, 119]]), qL 39 (.call fn_spec_l6Rd_of [.l 37, .l 38]), qb 2 39])
 (.ret)))⟩
theorem ln_spec_l92Line : Linked Tryz.prog fn_spec_l92Line ac_spec_l92Line := ⟨Tryz.f19, _, Tryz.func19, rfl, by kernel_rfl, by kernel_rfl, by kernel_rfl, by kernel_rfl⟩
def ac_spec_l6Many : AF := ⟨[0, 1, 4, 5, 7, 10], [.t 4],
 .seq (.region [qG 4 (.mv (qs []))])
 (.seq (.region [qG 5 (.mv (qs []))])
 (.seq (.block 0 (.loop (.seq (.seq (.region [qa 6 1, qG 7 (.bin .gtr (.l 6) (qn 0))])
 (.cond (.g 7) (.skip)
 (.exit 0)))
 (.block 1 (.seq (.seq (.region [qa 8 1, qL 9 (.bin .rem (.l 8) (qn 2)), qG 10 (.bin .eql (.l 9) (qn 1))])
 (.cond (.g 10) (.region [qa 11 5, qa 12 0, qL 13 (.bin .add (.l 11) (.l 12)), qb 5 13])
 (.skip)))
 (.seq (.region [qa 14 0, qa 15 0, qL 16 (.bin .add (.l 14) (.l 15)), qb 0 16])
 (.region [qa 17 1, qL 18 (.bin .quo (.l 17) (qn 2)), qb 1 18])))))))
 (.seq (.region [qa 19 5, qb 4 19])
 (.ret))))⟩
theorem ln_spec_l6Many : Linked Tryz.prog fn_spec_l6Many ac_spec_l6Many := ⟨Tryz.f20, _, Tryz.func20, rfl, by kernel_rfl, by kernel_rfl, by kernel_rfl, by kernel_rfl⟩
def ac_impl_desk_line : AF := ⟨[0, 1, 4, 5, 6, 7, 70, 75, 101, 117, 153], [.t 4],
 .seq (.region [qG 4 (.mv (qs []))])
 (.seq (.block 0 (.seq (.region [qa 8 1, qL 9 (.len (.l 8)), qL 10 (.bin .eql (.l 9) (qn 3)), qc 11 10, qT 12 (.mv (.g 1)) 11, qT 13 (.elS 1 (.l 12) (qn 0)) 11, qT 14 (.load false 1 (.l 13)) 11, qT 15 (.bin .eql (.l 14) (qs [97])) 11, qT 16 (.mv (.l 15)) 11, qF 17 (.mv (.g 1)) 16, qF 18 (.elS 1 (.l 17) (qn 0)) 16, qF 19 (.load false 1 (.l 18)) 16, qF 20 (.bin .eql (.l 19) (qs [98])) 16, qT 21 (.pick (.l 16) qt (.l 20)) 11, qT 22 (.mv (.l 21)) 11, qF 23 (.mv (.g 1)) 22, qF 24 (.elS 1 (.l 23) (qn 0)) 22, qF 25 (.load false 1 (.l 24)) 22, qF 26 (.bin .eql (.l 25) (qs [97, 97])) 22, qT 27 (.pick (.l 22) qt (.l 26)) 11, qT 28 (.mv (.l 27)) 11, qF 29 (.mv (.g 1)) 28, qF 30 (.elS 1 (.l 29) (qn 0)) 28, qF 31 (.load false 1 (.l 30)) 28, qF 32 (.bin .eql (.l 31) (qs [98, 98])) 28, qT 33 (.pick (.l 28) qt (.l 32)) 11, qL 34 (.pick (.l 11) (.l 33) qo), qb 7 34])
 (.cond (.g 7) (.seq (.drawn [qa 35 1, qL 36 (.elS 1 (.l 35) (qn 0)), qf 37 1 36, qL 38 (.idxStr (.l 37) (qn 0)), qL 39 (.bin .eql (.l 38) (.c (.int .u8 98))), qa 40 1, qL 41 (.elS 1 (.l 40) (qn 1)), qf 42 1 41, qL 43 (.call fn_impl_wordNumber [.l 42]), qa 44 1, qL 45 (.elS 1 (.l 44) (qn 0)), qf 46 1 45, qL 47 (.lenStr (.l 46)), qL 48 (.bin .eql (.l 47) (qn 2)), qa 49 1, qL 50 (.elS 1 (.l 49) (qn 2)), qf 51 1 50, qL 52 (.build [.bool false, .int .i64 0, .bool false, .str []] [(0, 1, .l 39), (1, 1, .l 43), (2, 1, .l 48), (3, 1, .l 51)]), qG 5 (.alloc [.bool false, .int .i64 0, .bool false, .str []])] [[], [], [], [], [], [], [2, 1], [2, 1], [2, 1], [], [8, 7, 6, 2, 1], [8, 7, 6, 2, 1], [], [], [], [11, 10, 8, 7, 6, 2, 1], [11, 10, 8, 7, 6, 2, 1], [], [16, 15, 11, 10, 8, 7, 6, 2, 1]] [qi 4 5 52])
 (.seq (.region [qa 53 0, qL 54 (.nilc (.l 53)), qe 55 0 54, qh 56 12 55, qG 6 (.alloc [.int .i64 0, .int .i64 0, .int .i64 0, .int .i64 0, .int .i64 0, .int .i64 0, .int .i64 0, .int .i64 0, .int .i64 0, .int .i64 0, .int .i64 0, .nils]), qi 12 6 56])
 (.seq (.drawn [qL 57 (.lits 4 []), qa 58 0, qL 59 (.nilc (.l 58)), qe 60 0 59, qe 61 11 60, qf 62 1 61, qL 63 (.append 4 40 (.l 57) (.l 62)), qg 64 4 5, qL 65 (.lits 4 [.l 64])] [[], [], [], [], [], [0], [], [6, 5, 0], [6, 5, 0]] [qL 66 (.append 4 40 (.l 63) (.l 65)), qd 67 11 6, qj 1 67 66])
 (.seq (.seq (.region [qg 68 12 6, qL 69 (.call fn_impl_TalkValid [.l 68]), qG 70 (.un .not (.l 69))])
 (.cond (.g 70) (.seq (.region [qG 4 (.mv (qs [110, 111, 10]))])
 (.ret))
 (.skip)))
 (.seq (.region [qa 71 0, qg 72 12 6, qL 73 (.nilc (.l 71)), qe 74 0 73, qj 12 74 72])
 (.seq (.region [qG 4 (.mv (qs [111, 107, 10]))])
 (.ret)))))))
 (.seq (.region [qa 76 1, qL 77 (.len (.l 76)), qL 78 (.bin .eql (.l 77) (qn 1)), qc 79 78, qT 80 (.mv (.g 1)) 79, qT 81 (.elS 1 (.l 80) (qn 0)) 79, qT 82 (.load false 1 (.l 81)) 79, qT 83 (.bin .eql (.l 82) (qs [116, 97, 108, 107])) 79, qL 84 (.pick (.l 79) (.l 83) qo), qb 75 84])
 (.cond (.g 75) (.seq (.region [qa 85 0, qa 86 0, qL 87 (.nilc (.l 86)), qe 88 0 87, qh 89 12 88, qL 90 (.call fn_impl_TalkRecords [.l 89, qn 0]), qL 91 (.nilc (.l 85)), qe 92 12 91, qj 1 92 90])
 (.seq (.region [qa 93 0, qL 94 (.nilc (.l 93)), qe 95 12 94, qf 96 1 95, qL 97 (.len (.l 96)), qL 98 (.call fn_strconv_Itoa [.l 97]), qL 99 (.bin .add (qs [114, 101, 99, 111, 114, 100, 115, 32]) (.l 98)), qL 100 (.bin .add (.l 99) (qs [10])), qb 4 100])
 (.ret)))
 (.seq (.region [qa 102 1, qL 103 (.len (.l 102)), qL 104 (.bin .eql (.l 103) (qn 1)), qc 105 104, qT 106 (.mv (.g 1)) 105, qT 107 (.elS 1 (.l 106) (qn 0)) 105, qT 108 (.load false 1 (.l 107)) 105, qT 109 (.bin .eql (.l 108) (qs [114, 101, 112, 111, 114, 116])) 105, qL 110 (.pick (.l 105) (.l 109) qo), qb 101 110])
 (.cond (.g 101) (.seq (.region [qa 111 0, qL 112 (.nilc (.l 111)), qe 113 12 112, qf 114 1 113, qL 115 (.call fn_impl_MonitorRun [.l 114]), qL 116 (.call fn_impl_ReportText [.l 115]), qb 4 116])
 (.ret))
 (.seq (.region [qa 118 1, qL 119 (.len (.l 118)), qL 120 (.bin .eql (.l 119) (qn 2)), qc 121 120, qT 122 (.mv (.g 1)) 121, qT 123 (.elS 1 (.l 122) (qn 0)) 121, qT 124 (.load false 1 (.l 123)) 121, qT 125 (.bin .eql (.l 124) (qs [100, 114, 111, 112])) 121, qT 126 (.mv (.l 125)) 121, qF 127 (.mv (.g 1)) 126, qF 128 (.elS 1 (.l 127) (qn 0)) 126, qF 129 (.load false 1 (.l 128)) 126, qF 130 (.bin .eql (.l 129) (qs [116, 119, 105, 99, 101])) 126, qT 131 (.pick (.l 126) qt (.l 130)) 121, qT 132 (.mv (.l 131)) 121, qF 133 (.mv (.g 1)) 132, qF 134 (.elS 1 (.l 133) (qn 0)) 132, qF 135 (.load false 1 (.l 134)) 132, qF 136 (.bin .eql (.l 135) (qs [99, 117, 116])) 132, qT 137 (.pick (.l 132) qt (.l 136)) 121, qT 138 (.mv (.l 137)) 121, qF 139 (.mv (.g 1)) 138, qF 140 (.elS 1 (.l 139) (qn 0)) 138, qF 141 (.load false 1 (.l 140)) 138, qF 142 (.bin .eql (.l 141) (qs [102, 108, 105, 112])) 138, qT 143 (.pick (.l 138) qt (.l 142)) 121, qL 144 (.pick (.l 121) (.l 143) qo), qb 117 144])
 (.cond (.g 117) (.seq (.seq (.drawn [qa 145 0, qa 146 1, qL 147 (.elS 1 (.l 146) (qn 0)), qf 148 1 147, qa 149 1, qL 150 (.elS 1 (.l 149) (qn 1)), qf 151 1 150, qL 152 (.call fn_impl_wordNumber [.l 151])] [[], [], [], [], [], [3, 2], [3, 2], [3, 2]] [qG 153 (.call fn_impl_desk_change [.l 145, .l 148, .l 152])])
 (.cond (.g 153) (.seq (.region [qG 4 (.mv (qs [111, 107, 10]))])
 (.ret))
 (.skip)))
 (.seq (.region [qG 4 (.mv (qs [110, 111, 10]))])
 (.ret)))
 (.skip))))))))))
 (.seq (.region [qG 4 (.mv (qs [119, 104, 97, 116, 10]))])
 (.ret)))⟩
theorem ln_impl_desk_line : Linked Tryz.prog fn_impl_desk_line ac_impl_desk_line := ⟨Tryz.f22, _, Tryz.func22, rfl, by kernel_rfl, by kernel_rfl, by kernel_rfl, by kernel_rfl⟩
def ac_spec_l51Talk : AF := ⟨[0], [.c 0 true 12],
 .seq (.region [qG 0 (.alloc [.int .i64 0, .int .i64 0, .int .i64 0, .int .i64 0, .int .i64 0, .int .i64 0, .int .i64 0, .int .i64 0, .int .i64 0, .int .i64 0, .int .i64 0, .nils])])
 (.seq (.region [qL 1 (.build [.int .i64 0, .int .i64 0, .int .i64 0, .int .i64 0] [(0, 1, qn 11), (1, 1, qn 1000), (2, 1, qn 2), (3, 1, qn 100)]), qL 2 (.build [.int .i64 0, .int .i64 0, .int .i64 0, .int .i64 0] [(0, 1, qn 22), (1, 1, qn 1000), (2, 1, qn 1), (3, 1, qn 65535)]), qL 3 (.lits 4 []), qL 4 (.build [.int .i64 0, .int .i64 0, .int .i64 0, .int .i64 0, .int .i64 0, .int .i64 0, .int .i64 0, .int .i64 0, .int .i64 0, .int .i64 0, .int .i64 0, .nils] [(0, 1, qn 7), (1, 1, qn 9), (2, 4, .l 1), (6, 4, .l 2), (10, 1, qn 4), (11, 1, .l 3)]), qi 12 0 4])
 (.ret))⟩
theorem ln_spec_l51Talk : Linked Tryz.prog fn_spec_l51Talk ac_spec_l51Talk := ⟨Tryz.f24, _, Tryz.func24, rfl, by kernel_rfl, by kernel_rfl, by kernel_rfl, by kernel_rfl⟩
def ac_spec_l42Cut : AF := ⟨[0, 1, 4, 5, 6, 7, 12, 19], [.t 4],
 .seq (.region [qG 4 (.mv (.c .nils))])
 (.seq (.region [qL 8 (.lits 1 []), qb 5 8])
 (.seq (.region [qG 6 (.mv (qn 0))])
 (.seq (.seq (.region [qG 7 (.mv (qn 0))])
 (.block 0 (.loop (.seq (.seq (.region [qa 9 7, qa 10 0, qL 11 (.lenStr (.l 10)), qG 12 (.bin .lss (.l 9) (.l 11))])
 (.cond (.g 12) (.skip)
 (.exit 0)))
 (.seq (.block 1 (.seq (.region [qa 15 0, qa 16 7, qL 17 (.idxStr (.l 15) (.l 16)), qa 18 1, qG 19 (.bin .eql (.l 17) (.l 18))])
 (.cond (.g 19) (.seq (.region [qa 20 5, qa 21 0, qa 22 6, qa 23 7, qL 24 (.cutStr (.l 21) (some (.l 22)) (some (.l 23))), qL 25 (.lits 1 [.l 24]), qL 26 (.append 1 16 (.l 20) (.l 25)), qb 5 26])
 (.region [qa 27 7, qL 28 (.bin .add (.l 27) (qn 1)), qb 6 28]))
 (.skip))))
 (.region [qa 13 7, qL 14 (.bin .add (.l 13) (qn 1)), qb 7 14]))))))
 (.seq (.region [qa 29 5, qa 30 0, qa 31 6, qL 32 (.cutStr (.l 30) (some (.l 31)) none), qL 33 (.lits 1 [.l 32]), qL 34 (.append 1 16 (.l 29) (.l 33)), qb 4 34])
 (.ret)))))⟩
theorem ln_spec_l42Cut : Linked Tryz.prog fn_spec_l42Cut ac_spec_l42Cut := ⟨Tryz.f25, _, Tryz.func25, rfl, by kernel_rfl, by kernel_rfl, by kernel_rfl, by kernel_rfl⟩
def ac_spec_l51Line : AF := ⟨[0, 1, 2, 4, 5, 6, 9, 42, 56, 95], [.c 4 true 13, .t 5],
 .seq (.region [qG 2 (.box (.g 0)), qG 4 (.alloc [.int .i64 0, .int .i64 0, .int .i64 0, .int .i64 0, .int .i64 0, .int .i64 0, .int .i64 0, .int .i64 0, .int .i64 0, .int .i64 0, .int .i64 0, .nils, .nils]), qG 5 (.mv (qs []))])
 (.seq (.region [qa 7 1, qL 8 (.call fn_spec_l42Cut [.l 7, (.c (.int .u8 32))]), qb 6 8])
 (.seq (.block 0 (.seq (.region [qa 10 6, qL 11 (.len (.l 10)), qL 12 (.bin .eql (.l 11) (qn 3)), qc 13 12, qT 14 (.mv (.g 6)) 13, qT 15 (.elS 1 (.l 14) (qn 0)) 13, qT 16 (.load false 1 (.l 15)) 13, qT 17 (.bin .eql (.l 16) (qs [97])) 13, qT 18 (.mv (.l 17)) 13, qF 19 (.mv (.g 6)) 18, qF 20 (.elS 1 (.l 19) (qn 0)) 18, qF 21 (.load false 1 (.l 20)) 18, qF 22 (.bin .eql (.l 21) (qs [98])) 18, qT 23 (.pick (.l 18) qt (.l 22)) 13, qT 24 (.mv (.l 23)) 13, qF 25 (.mv (.g 6)) 24, qF 26 (.elS 1 (.l 25) (qn 0)) 24, qF 27 (.load false 1 (.l 26)) 24, qF 28 (.bin .eql (.l 27) (qs [97, 97])) 24, qT 29 (.pick (.l 24) qt (.l 28)) 13, qT 30 (.mv (.l 29)) 13, qF 31 (.mv (.g 6)) 30, qF 32 (.elS 1 (.l 31) (qn 0)) 30, qF 33 (.load false 1 (.l 32)) 30, qF 34 (.bin .eql (.l 33) (qs [98, 98])) 30, qT 35 (.pick (.l 30) qt (.l 34)) 13, qL 36 (.pick (.l 13) (.l 35) qo), qb 9 36])
 (.cond (.g 9) (.seq (.region [qg 37 13 2, qa 38 6, qL 39 (.call fn_spec_l51Say [.l 37, .l 38]), qL 40 (.extract (.l 39) 0), qL 41 (.extract (.l 39) 1), qi 13 4 40, qb 5 41])
 (.ret))
 (.seq (.region [qa 43 1, qL 44 (.bin .eql (.l 43) (qs [116, 97, 108, 107])), qb 42 44])
 (.cond (.g 42) (.seq (.region [qd 45 0 2, qh 46 12 45, qL 47 (.call fn_spec_TalkRecords [.l 46, qn 0]), qd 48 12 2, qj 1 48 47])
 (.seq (.drawn [qg 49 13 2, qd 50 12 2, qf 51 1 50, qL 52 (.len (.l 51)), qL 53 (.call fn_spec_l6Dec [.l 52]), qL 54 (.bin .add (qs [114, 101, 99, 111, 114, 100, 115, 32]) (.l 53)), qL 55 (.bin .add (.l 54) (qs [10])), qi 13 4 49] [[], [], [0], [0], [0], [], [], []] [qb 5 55])
 (.ret)))
 (.seq (.region [qa 57 6, qL 58 (.len (.l 57)), qL 59 (.bin .eql (.l 58) (qn 2)), qc 60 59, qT 61 (.mv (.g 6)) 60, qT 62 (.elS 1 (.l 61) (qn 0)) 60, qT 63 (.load false 1 (.l 62)) 60, qT 64 (.bin .eql (.l 63) (qs [100, 114, 111, 112])) 60, qT 65 (.mv (.l 64)) 60, qF 66 (.mv (.g 6)) 65, qF 67 (.elS 1 (.l 66) (qn 0)) 65, qF 68 (.load false 1 (.l 67)) 65, qF 69 (.bin .eql (.l 68) (qs [116, 119, 105, 99, 101])) 65, qT 70 (.pick (.l 65) qt (.l 69)) 60, qT 71 (.mv (.l 70)) 60, qF 72 (.mv (.g 6)) 71, qF 73 (.elS 1 (.l 72) (qn 0)) 71, qF 74 (.load false 1 (.l 73)) 71, qF 75 (.bin .eql (.l 74) (qs [99, 117, 116])) 71, qT 76 (.pick (.l 71) qt (.l 75)) 60, qT 77 (.mv (.l 76)) 60, qF 78 (.mv (.g 6)) 77, qF 79 (.elS 1 (.l 78) (qn 0)) 77, qF 80 (.load false 1 (.l 79)) 77, qF 81 (.bin .eql (.l 80) (qs [102, 108, 105, 112])) 77, qT 82 (.pick (.l 77) qt (.l 81)) 60, qL 83 (.pick (.l 60) (.l 82) qo), qb 56 83])
 (.cond (.g 56) (.seq (.drawn [qg 84 13 2, qa 85 6, qL 86 (.elS 1 (.l 85) (qn 0)), qf 87 1 86, qa 88 6, qL 89 (.elS 1 (.l 88) (qn 1)), qf 90 1 89, qL 91 (.call fn_spec_l42Number [.l 90]), qL 92 (.call fn_spec_l51Change [.l 84, .l 87, .l 91]), qL 93 (.extract (.l 92) 0), qL 94 (.extract (.l 92) 1)] [[], [], [0], [0], [], [3, 2, 0], [3, 2, 0], [3, 2, 0], [], [], []] [qi 13 4 93, qb 5 94])
 (.ret))
 (.seq (.region [qa 96 1, qL 97 (.bin .eql (.l 96) (qs [114, 101, 112, 111, 114, 116])), qb 95 97])
 (.cond (.g 95) (.seq (.drawn [qg 98 13 2, qd 99 12 2, qf 100 1 99, qL 101 (.call fn_spec_MonitorRun [.l 100]), qL 102 (.call fn_spec_ReportText [.l 101])] [[], [], [0], [0], [0]] [qi 13 4 98, qb 5 102])
 (.ret))
 (.skip))))))))))
 (.seq (.region [qg 103 13 2, qi 13 4 103, qG 5 (.mv (qs [119, 104, 97, 116, 10]))])
 (.ret))))⟩
theorem ln_spec_l51Line : Linked Tryz.prog fn_spec_l51Line ac_spec_l51Line := ⟨Tryz.f26, _, Tryz.func26, rfl, by kernel_rfl, by kernel_rfl, by kernel_rfl, by kernel_rfl⟩
def ac_spec_l6Dec : AF := ⟨[0, 2, 4, 6, 12], [.t 2],
 .seq (.region [qG 2 (.mv (qs []))])
 (.seq (.seq (.region [qa 3 0, qG 4 (.bin .lss (.l 3) (qn (-9223372036854775807)))])
 (.cond (.g 4) (.seq (.region [qG 2 (.mv (qs [45, 57, 50, 50, 51, 51, 55, 50, 48, 51, 54, 56, 53, 52, 55, 55, 53, 56, 48, 56]))])
 (.ret))
 (.skip)))
 (.seq (.seq (.region [qa 5 0, qG 6 (.bin .lss (.l 5) (qn 0))])
 (.cond (.g 6) (.seq (.region [qa 7 0, qL 8 (.un .neg (.l 7)), qL 9 (.call fn_spec_l6Dec [.l 8]), qL 10 (.bin .add (qs [45]) (.l 9)), qb 2 10])
 (.ret))
 (.skip)))
 (.seq (.seq (.region [qa 11 0, qG 12 (.bin .lss (.l 11) (qn 10))])
 (.cond (.g 12) (.seq (.region [qa 13 0, qL 14 (.bin .add (qn 48) (.l 13)), qL 15 (.conv .u8 (.l 14)), qL 16 (.lits 1 [.l 15]), qL 17 (.toStr (.l 16)), qb 2 17])
 (.ret))
 (.skip)))
 (.seq (.drawn [qa 18 0, qL 19 (.bin .quo (.l 18) (qn 10)), qL 20 (.call fn_spec_l6Dec [.l 19]), qa 21 0, qL 22 (.bin .rem (.l 21) (qn 10)), qL 23 (.bin .add (qn 48) (.l 22)), qL 24 (.conv .u8 (.l 23)), qL 25 (.lits 1 [.l 24]), qL 26 (.toStr (.l 25))] [[], [], [], [], [], [], [], [2], [2]] [qL 27 (.bin .add (.l 20) (.l 26)), qb 2 27])
 (.ret)))))⟩
theorem ln_spec_l6Dec : Linked Tryz.prog fn_spec_l6Dec ac_spec_l6Dec := ⟨Tryz.f27, _, Tryz.func27, rfl, by kernel_rfl, by kernel_rfl, by kernel_rfl, by kernel_rfl⟩
def ac_spec_l6Rd_of : AF := ⟨[0, 1, 4], [.t 4],
 .seq (.region [qG 4 (.mv (qs []))])
 (.seq (.region [qa 5 1, qa 6 0, qa 7 1, qL 8 (.len (.l 7)), qL 9 (.call fn_spec_l6Rd_pick [.l 6, .l 8]), qL 10 (.elS 1 (.l 5) (.l 9)), qf 11 1 10, qb 4 11])
 (.ret))⟩
theorem ln_spec_l6Rd_of : Linked Tryz.prog fn_spec_l6Rd_of ac_spec_l6Rd_of := ⟨Tryz.f28, _, Tryz.func28, rfl, by kernel_rfl, by kernel_rfl, by kernel_rfl, by kernel_rfl⟩
def ac_impl_wordNumber : AF := ⟨[0, 2, 3, 4, 11], [.t 2],
 .seq (.region [qG 2 (.mv (qn 0))])
 (.seq (.region [qa 6 0, qL 7 (.call fn_impl_smallNumber [.l 6]), qc 5 7, qL 8 (.extract (.l 5) 0), qL 9 (.extract (.l 5) 1), qb 3 8, qb 4 9])
 (.seq (.seq (.region [qa 10 4, qG 11 (.un .not (.l 10))])
 (.cond (.g 11) (.seq (.region [qG 2 (.mv (qn (-1)))])
 (.ret))
 (.skip)))
 (.seq (.region [qa 12 3, qb 2 12])
 (.ret))))⟩
theorem ln_impl_wordNumber : Linked Tryz.prog fn_impl_wordNumber ac_impl_wordNumber := ⟨Tryz.f30, _, Tryz.func30, rfl, by kernel_rfl, by kernel_rfl, by kernel_rfl, by kernel_rfl⟩
def ac_impl_TalkValid : AF := ⟨[0, 1, 2, 3, 5, 6, 7, 60, 63, 64, 65, 66, 73, 97], [.t 2],
 .seq (.region [qG 1 (.box (.g 0)), qG 2 (.mv qo)])
 (.seq (.seq (.region [qd 8 0 1, qf 9 1 8, qL 10 (.bin .lss (.l 9) (qn 1)), qc 11 10, qF 12 (.faddr 0 (.g 1)) 11, qF 13 (.load false 1 (.l 12)) 11, qF 14 (.bin .gtr (.l 13) (qn 65535)) 11, qL 15 (.pick (.l 11) qt (.l 14)), qc 16 15, qF 17 (.faddr 1 (.g 1)) 16, qF 18 (.load false 1 (.l 17)) 16, qF 19 (.bin .lss (.l 18) (qn 1)) 16, qL 20 (.pick (.l 16) qt (.l 19)), qc 21 20, qF 22 (.faddr 1 (.g 1)) 21, qF 23 (.load false 1 (.l 22)) 21, qF 24 (.bin .gtr (.l 23) (qn 65535)) 21, qL 25 (.pick (.l 21) qt (.l 24)), qc 26 25, qF 27 (.faddr 0 (.g 1)) 26, qF 28 (.load false 1 (.l 27)) 26, qF 29 (.faddr 1 (.g 1)) 26, qF 30 (.load false 1 (.l 29)) 26, qF 31 (.bin .eql (.l 28) (.l 30)) 26, qL 32 (.pick (.l 26) qt (.l 31)), qc 33 32, qF 34 (.faddr 2 (.g 1)) 33, qF 35 (.load true 4 (.l 34)) 33, qF 36 (.call fn_impl_initOk [.l 35]) 33, qF 37 (.un .not (.l 36)) 33, qL 38 (.pick (.l 33) qt (.l 37)), qc 39 38, qF 40 (.faddr 6 (.g 1)) 39, qF 41 (.load true 4 (.l 40)) 39, qF 42 (.call fn_impl_initOk [.l 41]) 39, qF 43 (.un .not (.l 42)) 39, qL 44 (.pick (.l 39) qt (.l 43)), qc 45 44, qF 46 (.faddr 10 (.g 1)) 45, qF 47 (.load false 1 (.l 46)) 45, qF 48 (.bin .lss (.l 47) (qn 1)) 45, qL 49 (.pick (.l 45) qt (.l 48)), qc 50 49, qF 51 (.faddr 10 (.g 1)) 50, qF 52 (.load false 1 (.l 51)) 50, qF 53 (.bin .gtr (.l 52) (qn 20)) 50, qL 54 (.pick (.l 50) qt (.l 53)), qc 55 54, qF 56 (.faddr 11 (.g 1)) 55, qF 57 (.load false 1 (.l 56)) 55, qF 58 (.len (.l 57)) 55, qF 59 (.bin .gtr (.l 58) (qn 4)) 55, qG 60 (.pick (.l 55) qt (.l 59))])
 (.cond (.g 60) (.seq (.region [qG 2 (.mv qo)])
 (.ret))
 (.skip)))
 (.seq (.region [qL 61 (.build [.int .i64 0, .int .i64 0] []), qG 3 (.alloc [.int .i64 0, .int .i64 0]), qi 2 3 61])
 (.seq (.seq (.region [qd 62 11 1, qG 63 (.load false 1 (.l 62)), qG 64 (.len (.g 63)), qG 65 (.mv (qn 0))])
 (.block 0 (.loop (.seq (.region [qG 66 (.bin .lss (.g 65) (.g 64))])
 (.seq (.cond (.g 66) (.skip)
 (.exit 0))
 (.seq (.block 1 (.seq (.region [qL 67 (.elS 4 (.g 63) (.g 65)), qh 68 4 67, qG 5 (.alloc [.bool false, .int .i64 0, .bool false, .str []]), qi 4 5 68])
 (.seq (.drawn [qd 69 2 1, qe 70 2 69, qf 71 1 70, qG 6 (.mv (qn 0))] [[], [], [], []] [qb 7 71])
 (.seq (.seq (.region [qd 72 0 5, qG 73 (.load false 1 (.l 72))])
 (.cond (.g 73) (.drawn [qd 74 6 1, qe 75 2 74, qf 76 1 75, qG 6 (.mv (qn 1))] [[], [], [], []] [qb 7 76])
 (.skip)))
 (.seq (.seq (.region [qd 77 3 5, qf 78 1 77, qL 79 (.lenStr (.l 78)), qL 80 (.bin .lss (.l 79) (qn 1)), qc 81 80, qF 82 (.faddr 3 (.g 5)) 81, qF 83 (.load false 1 (.l 82)) 81, qF 84 (.lenStr (.l 83)) 81, qF 85 (.bin .gtr (.l 84) (qn 60)) 81, qL 86 (.pick (.l 81) qt (.l 85)), qc 87 86, qF 88 (.faddr 1 (.g 5)) 87, qF 89 (.load false 1 (.l 88)) 87, qF 90 (.bin .lss (.l 89) (qn 0)) 87, qL 91 (.pick (.l 87) qt (.l 90)), qc 92 91, qF 93 (.faddr 1 (.g 5)) 92, qF 94 (.load false 1 (.l 93)) 92, qF 95 (.mv (.g 7)) 92, qF 96 (.bin .geq (.l 94) (.l 95)) 92, qG 97 (.pick (.l 92) qt (.l 96))])
 (.cond (.g 97) (.seq (.region [qG 2 (.mv qo)])
 (.ret))
 (.skip)))
 (.drawn [qa 98 6, qL 99 (.elA 2 1 (.g 3) (.l 98)), qf 100 1 99, qd 101 3 5, qf 102 1 101, qL 103 (.lenStr (.l 102)), qd 104 10 1, qf 105 1 104, qL 106 (.bin .add (.l 103) (.l 105)), qL 107 (.bin .sub (.l 106) (qn 1)), qd 108 10 1, qf 109 1 108, qL 110 (.bin .quo (.l 107) (.l 109))] [[], [], [], [], [2], [], [], [4, 2], [], [], [], [7, 4, 2], []] [qL 111 (.bin .add (.l 100) (.l 110)), qL 112 (.elA 2 1 (.g 3) (.l 98)), qj 1 112 111]))))))
 (.region [qL 113 (.bin .add (.g 65) (qn 1)), qb 65 113])))))))
 (.seq (.region [qL 114 (.elA 2 1 (.g 3) (qn 0)), qf 115 1 114, qL 116 (.bin .leq (.l 115) (qn 12)), qc 117 116, qT 118 (.elA 2 1 (.g 3) (qn 1)) 117, qT 119 (.load false 1 (.l 118)) 117, qT 120 (.bin .leq (.l 119) (qn 12)) 117, qL 121 (.pick (.l 117) (.l 120) qo), qb 2 121])
 (.ret)))))⟩
theorem ln_impl_TalkValid : Linked Tryz.prog fn_impl_TalkValid ac_impl_TalkValid := ⟨Tryz.f31, _, Tryz.func31, rfl, by kernel_rfl, by kernel_rfl, by kernel_rfl, by kernel_rfl⟩
def ac_impl_TalkRecords : AF := ⟨[0, 1, 2, 4, 5, 6, 7, 8, 16, 18, 19, 20, 21, 37], [.t 4],
 .seq (.region [qG 2 (.box (.g 0)), qG 4 (.mv (.c .nils))])
 (.seq (.region [qg 9 12 2, qL 10 (.call fn_impl_TalkPackets [.l 9]), qb 5 10])
 (.seq (.seq (.region [qa 11 1, qL 12 (.bin .lss (.l 11) (qn 0)), qc 13 12, qF 14 (.mv (.g 1)) 13, qF 15 (.bin .gtr (.l 14) (qn 4294967295)) 13, qG 16 (.pick (.l 13) qt (.l 15))])
 (.cond (.g 16) (.seq (.region [qG 4 (.mv (.c .nils))])
 (.ret))
 (.skip)))
 (.seq (.region [qL 17 (.lits 2 []), qb 6 17])
 (.seq (.seq (.region [qG 18 (.mv (.g 5)), qG 19 (.len (.g 18)), qG 20 (.mv (qn 0))])
 (.block 0 (.loop (.seq (.region [qG 21 (.bin .lss (.g 20) (.g 19))])
 (.seq (.cond (.g 21) (.skip)
 (.exit 0))
 (.seq (.block 1 (.seq (.region [qa 22 20, qL 23 (.elS 4 (.g 18) (.g 20)), qh 24 4 23, qG 8 (.alloc [.int .i64 0, .int .i64 0, .int .i64 0, .nils]), qb 7 22, qi 4 8 24])
 (.region [qa 25 6, qa 26 1, qa 27 7, qL 28 (.bin .add (.l 26) (.l 27)), qg 29 4 8, qL 30 (.call fn_impl_PacketPut [.l 29]), qL 31 (.build [.int .i64 0, .str []] [(0, 1, .l 28), (1, 1, .l 30)]), qL 32 (.lits 2 [.l 31]), qL 33 (.append 2 24 (.l 25) (.l 32)), qb 6 33])))
 (.region [qL 34 (.bin .add (.g 20) (qn 1)), qb 20 34])))))))
 (.seq (.seq (.region [qa 35 6, qL 36 (.call fn_impl_CaptureValid [.l 35]), qG 37 (.un .not (.l 36))])
 (.cond (.g 37) (.seq (.region [qG 4 (.mv (.c .nils))])
 (.ret))
 (.skip)))
 (.seq (.region [qa 38 6, qb 4 38])
 (.ret)))))))⟩
theorem ln_impl_TalkRecords : Linked Tryz.prog fn_impl_TalkRecords ac_impl_TalkRecords := ⟨Tryz.f32, _, Tryz.func32, rfl, by kernel_rfl, by kernel_rfl, by kernel_rfl, by kernel_rfl⟩
def ac_impl_ReportText : AF := ⟨[0, 1, 2, 3, 4, 6, 9, 18, 19, 20, 21], [.t 2],
 .seq (.region [qG 1 (.box (.g 0)), qG 2 (.mv (qs []))])
 (.seq (.seq (.region [qg 7 3 1, qL 8 (.call fn_impl_MonitorValid [.l 7]), qG 9 (.un .not (.l 8))])
 (.cond (.g 9) (.seq (.region [qG 2 (.mv (qs []))])
 (.ret))
 (.skip)))
 (.seq (.region [qL 10 (.build [.str [], .str [], .str [], .str [], .str [], .str [], .str [], .str []] [(0, 1, qs [110, 101, 119]), (1, 1, qs [105, 110, 105, 116]), (2, 1, qs [105, 110, 105, 116, 97, 99, 107]), (3, 1, qs [99, 111, 111, 107, 105, 101]), (4, 1, qs [111, 112, 101, 110]), (5, 1, qs [115, 104, 117, 116]), (6, 1, qs [115, 104, 117, 116, 97, 99, 107]), (7, 1, qs [111, 118, 101, 114])]), qG 3 (.alloc [.str [], .str [], .str [], .str [], .str [], .str [], .str [], .str []]), qi 8 3 10])
 (.seq (.region [qG 4 (.allocN 87 [.nils])])
 (.seq (.region [qd 11 0 1, qf 12 1 11, qL 13 (.call fn_strconv_Itoa [.l 12]), qL 14 (.bin .add (qs [114, 101, 99, 111, 114, 100, 115, 32]) (.l 13)), qL 15 (.bin .add (.l 14) (qs [10])), qL 16 (.call fn_strings_Builder_WriteString [.g 4, .l 15])])
 (.seq (.seq (.region [qd 17 1 1, qG 18 (.load false 1 (.l 17)), qG 19 (.len (.g 18)), qG 20 (.mv (qn 0))])
 (.block 0 (.loop (.seq (.region [qG 21 (.bin .lss (.g 20) (.g 19))])
 (.seq (.cond (.g 21) (.skip)
 (.exit 0))
 (.seq (.block 1 (.seq (.region [qL 22 (.elS 14 (.g 18) (.g 20)), qh 23 14 22, qG 6 (.alloc [.int .i64 0, .int .i64 0, .int .i64 0, .bool false, .int .i64 0, .int .i64 0, .int .i64 0, .nils, .int .i64 0, .int .i64 0, .int .i64 0, .int .i64 0, .nils, .int .i64 0]), qi 14 6 23])
 (.seq (.drawn [qd 24 0 6, qf 25 1 24, qL 26 (.call fn_strconv_Itoa [.l 25]), qL 27 (.bin .add (qs [102, 114, 111, 109, 32]) (.l 26)), qL 28 (.bin .add (.l 27) (qs [32, 116, 111, 32])), qd 29 1 6, qf 30 1 29, qL 31 (.call fn_strconv_Itoa [.l 30]), qL 32 (.bin .add (.l 28) (.l 31)), qL 33 (.bin .add (.l 32) (qs [32])), qd 34 2 6, qf 35 1 34, qL 36 (.elA 8 1 (.g 3) (.l 35)), qf 37 1 36] [[], [], [], [], [], [], [2, 1], [], [], [], [], [7, 6, 2, 1], [], [7, 6, 2, 1]] [qL 38 (.bin .add (.l 33) (.l 37)), qL 39 (.bin .add (.l 38) (qs [10])), qL 40 (.call fn_strings_Builder_WriteString [.g 4, .l 39])])
 (.seq (.region [qd 41 4 6, qh 42 5 41, qL 43 (.call fn_impl_sideLines [.g 4, qs [97], .l 42])])
 (.region [qd 44 9 6, qh 45 5 44, qL 46 (.call fn_impl_sideLines [.g 4, qs [98], .l 45])])))))
 (.region [qL 47 (.bin .add (.g 20) (qn 1)), qb 20 47])))))))
 (.seq (.drawn [qd 48 2 1, qf 49 1 48, qL 50 (.len (.l 49)), qL 51 (.call fn_strconv_Itoa [.l 50]), qL 52 (.bin .add (qs [102, 111, 117, 110, 100, 32]) (.l 51)), qL 53 (.bin .add (.l 52) (qs [10])), qd 54 2 1, qf 55 1 54, qL 56 (.call fn_impl_FindingsText [.l 55])] [[], [], [], [], [], [], [], [3, 2, 1], []] [qL 57 (.bin .add (.l 53) (.l 56)), qL 58 (.call fn_strings_Builder_WriteString [.g 4, .l 57])])
 (.seq (.region [qL 59 (.call fn_strings_Builder_String [.g 4]), qb 2 59])
 (.ret))))))))⟩
theorem ln_impl_ReportText : Linked Tryz.prog fn_impl_ReportText ac_impl_ReportText := ⟨Tryz.f33, _, Tryz.func33, rfl, by kernel_rfl, by kernel_rfl, by kernel_rfl, by kernel_rfl⟩
def ac_impl_MonitorRun : AF := ⟨[0, 2, 3, 5, 9, 11, 12, 13, 14], [.c 2 true 3],
 .seq (.region [qG 2 (.alloc [.int .i64 0, .nils, .nils])])
 (.seq (.region [qL 6 (.build [.int .i64 0, .nils, .nils] []), qG 3 (.alloc [.int .i64 0, .nils, .nils]), qi 3 3 6])
 (.seq (.seq (.region [qa 7 0, qL 8 (.call fn_impl_CaptureValid [.l 7]), qG 9 (.un .not (.l 8))])
 (.cond (.g 9) (.seq (.region [qg 10 3 3, qi 3 2 10])
 (.ret))
 (.skip)))
 (.seq (.seq (.region [qG 11 (.mv (.g 0)), qG 12 (.len (.g 11)), qG 13 (.mv (qn 0))])
 (.block 0 (.loop (.seq (.region [qG 14 (.bin .lss (.g 13) (.g 12))])
 (.seq (.cond (.g 14) (.skip)
 (.exit 0))
 (.seq (.block 1 (.seq (.region [qL 15 (.elS 2 (.g 11) (.g 13)), qh 16 2 15, qG 5 (.alloc [.int .i64 0, .str []]), qi 2 5 16])
 (.region [qg 17 3 3, qd 18 1 5, qf 19 1 18, qL 20 (.call fn_impl_MonitorStep [.l 17, .l 19]), qi 3 3 20])))
 (.region [qL 21 (.bin .add (.g 13) (qn 1)), qb 13 21])))))))
 (.seq (.region [qg 22 3 3, qi 3 2 22])
 (.ret)))))⟩
theorem ln_impl_MonitorRun : Linked Tryz.prog fn_impl_MonitorRun ac_impl_MonitorRun := ⟨Tryz.f34, _, Tryz.func34, rfl, by kernel_rfl, by kernel_rfl, by kernel_rfl, by kernel_rfl⟩
def ac_impl_desk_change : AF := ⟨[0, 1, 2, 6, 7, 8, 9, 20, 32, 33, 52, 59, 84, 87, 100], [.t 6],
 .seq (.region [qG 6 (.mv qo)])
 (.seq (.seq (.region [qa 10 2, qL 11 (.bin .lss (.l 10) (qn 0)), qc 12 11, qF 13 (.mv (.g 2)) 12, qF 14 (.mv (.g 0)) 12, qF 15 (.nilc (.l 14)) 12, qF 16 (.faddr 12 (.l 15)) 12, qF 17 (.load false 1 (.l 16)) 12, qF 18 (.len (.l 17)) 12, qF 19 (.bin .geq (.l 13) (.l 18)) 12, qG 20 (.pick (.l 12) qt (.l 19))])
 (.cond (.g 20) (.seq (.region [qG 6 (.mv qo)])
 (.ret))
 (.skip)))
 (.seq (.region [qa 21 0, qL 22 (.nilc (.l 21)), qe 23 12 22, qf 24 1 23, qa 25 2, qL 26 (.elS 2 (.l 24) (.l 25)), qh 27 2 26, qG 7 (.alloc [.int .i64 0, .str []]), qi 2 7 27])
 (.seq (.region [qd 28 1 7, qf 29 1 28, qL 30 (.lenStr (.l 29)), qL 31 (.bin .sub (.l 30) (qn 1)), qb 8 31])
 (.seq (.seq (.region [qG 32 (.mv (.g 1))])
 (.block 0 (.seq (.region [qL 34 (.bin .eql (.g 32) (qs [100, 114, 111, 112])), qb 33 34])
 (.cond (.g 33) (.seq (.drawn [qa 35 0, qa 36 0, qL 37 (.nilc (.l 36)), qe 38 12 37, qf 39 1 38, qa 40 2, qL 41 (.cutSl 2 (.l 39) none (some (.l 40))), qa 42 0, qL 43 (.nilc (.l 42)), qe 44 12 43, qf 45 1 44, qa 46 2, qL 47 (.bin .add (.l 46) (qn 1)), qL 48 (.cutSl 2 (.l 45) (some (.l 47)) none), qL 49 (.append 2 24 (.l 41) (.l 48))] [[], [], [], [], [], [], [], [], [], [], [6, 4], [], [], [6, 4], []] [qL 50 (.nilc (.l 35)), qe 51 12 50, qj 1 51 49])
 (.seq (.region [qG 6 (.mv qt)])
 (.ret)))
 (.seq (.region [qL 53 (.bin .eql (.g 32) (qs [116, 119, 105, 99, 101])), qb 52 53])
 (.cond (.g 52) (.seq (.seq (.region [qa 54 0, qL 55 (.nilc (.l 54)), qe 56 12 55, qf 57 1 56, qL 58 (.len (.l 57)), qG 59 (.bin .geq (.l 58) (qn 60))])
 (.cond (.g 59) (.seq (.region [qG 6 (.mv qo)])
 (.ret))
 (.skip)))
 (.seq (.region [qL 60 (.lits 2 []), qa 61 0, qL 62 (.nilc (.l 61)), qe 63 12 62, qf 64 1 63, qa 65 2, qL 66 (.bin .add (.l 65) (qn 1)), qL 67 (.cutSl 2 (.l 64) none (some (.l 66))), qL 68 (.append 2 24 (.l 60) (.l 67)), qb 9 68])
 (.seq (.drawn [qa 69 0, qa 70 9, qg 71 2 7, qL 72 (.lits 2 [.l 71]), qL 73 (.append 2 24 (.l 70) (.l 72)), qa 74 0, qL 75 (.nilc (.l 74)), qe 76 12 75, qf 77 1 76, qa 78 2, qL 79 (.bin .add (.l 78) (qn 1)), qL 80 (.cutSl 2 (.l 77) (some (.l 79)) none), qL 81 (.append 2 24 (.l 73) (.l 80))] [[], [], [], [], [], [], [], [], [4, 3, 2], [], [], [4, 3, 2], []] [qL 82 (.nilc (.l 69)), qe 83 12 82, qj 1 83 81])
 (.seq (.region [qG 6 (.mv qt)])
 (.ret)))))
 (.seq (.region [qL 85 (.bin .eql (.g 32) (qs [99, 117, 116])), qb 84 85])
 (.cond (.g 84) (.seq (.seq (.region [qa 86 8, qG 87 (.bin .lss (.l 86) (qn 0))])
 (.cond (.g 87) (.seq (.region [qG 6 (.mv qo)])
 (.ret))
 (.skip)))
 (.seq (.drawn [qa 88 0, qL 89 (.nilc (.l 88)), qe 90 12 89, qf 91 1 90, qa 92 2, qd 93 1 7, qf 94 1 93, qa 95 8, qL 96 (.cutStr (.l 94) none (some (.l 95)))] [[], [], [], [], [], [], [3], [], []] [qL 97 (.elS 2 (.l 91) (.l 92)), qe 98 1 97, qj 1 98 96])
 (.seq (.region [qG 6 (.mv qt)])
 (.ret))))
 (.skip)))))))))
 (.seq (.seq (.region [qa 99 8, qG 100 (.bin .lss (.l 99) (qn 0))])
 (.cond (.g 100) (.seq (.region [qG 6 (.mv qo)])
 (.ret))
 (.skip)))
 (.seq (.drawn [qa 101 0, qL 102 (.nilc (.l 101)), qe 103 12 102, qf 104 1 103, qa 105 2, qd 106 1 7, qf 107 1 106, qa 108 8, qL 109 (.cutStr (.l 107) none (some (.l 108))), qd 110 1 7, qf 111 1 110, qa 112 8, qL 113 (.idxStr (.l 111) (.l 112)), qL 114 (.bin .xor (.l 113) (.c (.int .u8 1))), qL 115 (.lits 1 [.l 114]), qL 116 (.toStr (.l 115)), qL 117 (.bin .add (.l 109) (.l 116))] [[], [], [], [], [], [], [3], [], [], [], [6, 3], [], [], [], [6, 3], [6, 3], []] [qL 118 (.elS 2 (.l 104) (.l 105)), qe 119 1 118, qj 1 119 117])
 (.seq (.region [qG 6 (.mv qt)])
 (.ret))))))))⟩
theorem ln_impl_desk_change : Linked Tryz.prog fn_impl_desk_change ac_impl_desk_change := ⟨Tryz.f35, _, Tryz.func35, rfl, by kernel_rfl, by kernel_rfl, by kernel_rfl, by kernel_rfl⟩
def ac_spec_l51Say : AF := ⟨[0, 1, 2, 4, 5, 6, 7, 44], [.c 4 true 13, .t 5],
 .seq (.region [qG 2 (.box (.g 0)), qG 4 (.alloc [.int .i64 0, .int .i64 0, .int .i64 0, .int .i64 0, .int .i64 0, .int .i64 0, .int .i64 0, .int .i64 0, .int .i64 0, .int .i64 0, .int .i64 0, .nils, .nils]), qG 5 (.mv (qs []))])
 (.seq (.drawn [qa 8 1, qL 9 (.elS 1 (.l 8) (qn 0)), qf 10 1 9, qL 11 (.bin .eql (.l 10) (qs [98])), qc 12 11, qF 13 (.mv (.g 1)) 12, qF 14 (.elS 1 (.l 13) (qn 0)) 12, qF 15 (.load false 1 (.l 14)) 12, qF 16 (.bin .eql (.l 15) (qs [98, 98])) 12, qL 17 (.pick (.l 12) qt (.l 16)), qa 18 1, qL 19 (.elS 1 (.l 18) (qn 0)), qf 20 1 19, qL 21 (.lenStr (.l 20)), qL 22 (.bin .eql (.l 21) (qn 2)), qa 23 1, qL 24 (.elS 1 (.l 23) (qn 2)), qf 25 1 24, qL 26 (.build [.bool false, .int .i64 0, .bool false, .str []] [(0, 1, .l 17), (2, 1, .l 22), (3, 1, .l 25)]), qG 6 (.alloc [.bool false, .int .i64 0, .bool false, .str []])] [[], [], [], [], [], [], [], [], [], [], [], [7, 6, 2, 1], [7, 6, 2, 1], [], [], [], [12, 11, 7, 6, 2, 1], [12, 11, 7, 6, 2, 1], [], [17, 16, 12, 11, 7, 6, 2, 1]] [qi 4 6 26])
 (.seq (.region [qa 27 1, qL 28 (.elS 1 (.l 27) (qn 1)), qf 29 1 28, qL 30 (.call fn_spec_l42Number [.l 29]), qd 31 1 6, qj 1 31 30])
 (.seq (.region [qd 32 0 2, qh 33 12 32, qG 7 (.alloc [.int .i64 0, .int .i64 0, .int .i64 0, .int .i64 0, .int .i64 0, .int .i64 0, .int .i64 0, .int .i64 0, .int .i64 0, .int .i64 0, .int .i64 0, .nils]), qi 12 7 33])
 (.seq (.drawn [qL 34 (.lits 4 []), qd 35 11 7, qf 36 1 35, qL 37 (.append 4 40 (.l 34) (.l 36)), qg 38 4 6, qL 39 (.lits 4 [.l 38])] [[], [], [0], [], [3, 2, 0], [3, 2, 0]] [qL 40 (.append 4 40 (.l 37) (.l 39)), qd 41 11 7, qj 1 41 40])
 (.seq (.seq (.region [qg 42 12 7, qL 43 (.call fn_spec_TalkValid [.l 42]), qG 44 (.un .not (.l 43))])
 (.cond (.g 44) (.seq (.region [qg 45 13 2, qi 13 4 45, qG 5 (.mv (qs [110, 111, 10]))])
 (.ret))
 (.skip)))
 (.seq (.region [qg 46 12 7, qd 47 0 2, qj 12 47 46])
 (.seq (.region [qg 48 13 2, qi 13 4 48, qG 5 (.mv (qs [111, 107, 10]))])
 (.ret))))))))⟩
theorem ln_spec_l51Say : Linked Tryz.prog fn_spec_l51Say ac_spec_l51Say := ⟨Tryz.f37, _, Tryz.func37, rfl, by kernel_rfl, by kernel_rfl, by kernel_rfl, by kernel_rfl⟩
def ac_spec_TalkRecords : AF := ⟨[0, 1, 2, 4, 5, 6, 7, 14, 35], [.t 4],
 .seq (.region [qG 2 (.box (.g 0)), qG 4 (.mv (.c .nils))])
 (.seq (.region [qL 8 (.lits 2 []), qb 5 8])
 (.seq (.region [qg 9 12 2, qL 10 (.call fn_spec_TalkPackets [.l 9]), qb 6 10])
 (.seq (.seq (.region [qG 7 (.mv (qn 0))])
 (.block 0 (.loop (.seq (.seq (.region [qa 11 7, qa 12 6, qL 13 (.len (.l 12)), qG 14 (.bin .lss (.l 11) (.l 13))])
 (.cond (.g 14) (.skip)
 (.exit 0)))
 (.seq (.block 1 (.region [qa 17 5, qa 18 1, qa 19 7, qL 20 (.bin .add (.l 18) (.l 19)), qa 21 6, qa 22 7, qL 23 (.elS 4 (.l 21) (.l 22)), qh 24 4 23, qL 25 (.call fn_spec_PacketPut [.l 24]), qL 26 (.build [.int .i64 0, .str []] [(0, 1, .l 20), (1, 1, .l 25)]), qL 27 (.lits 2 [.l 26]), qL 28 (.append 2 24 (.l 17) (.l 27)), qb 5 28]))
 (.region [qa 15 7, qL 16 (.bin .add (.l 15) (qn 1)), qb 7 16]))))))
 (.seq (.seq (.region [qa 29 1, qL 30 (.bin .lss (.l 29) (qn 0)), qc 31 30, qF 32 (.mv (.g 5)) 31, qF 33 (.call fn_spec_CaptureValid [.l 32]) 31, qF 34 (.un .not (.l 33)) 31, qG 35 (.pick (.l 31) qt (.l 34))])
 (.cond (.g 35) (.seq (.region [qL 36 (.lits 2 []), qb 4 36])
 (.ret))
 (.skip)))
 (.seq (.region [qa 37 5, qb 4 37])
 (.ret))))))⟩
theorem ln_spec_TalkRecords : Linked Tryz.prog fn_spec_TalkRecords ac_spec_TalkRecords := ⟨Tryz.f38, _, Tryz.func38, rfl, by kernel_rfl, by kernel_rfl, by kernel_rfl, by kernel_rfl⟩
def ac_spec_l51Change : AF := ⟨[0, 1, 2, 3, 6, 7, 8, 9, 16, 36, 38, 39, 51, 67, 80, 106], [.c 6 true 13, .t 7],
 .seq (.region [qG 3 (.box (.g 0)), qG 6 (.alloc [.int .i64 0, .int .i64 0, .int .i64 0, .int .i64 0, .int .i64 0, .int .i64 0, .int .i64 0, .int .i64 0, .int .i64 0, .int .i64 0, .int .i64 0, .nils, .nils]), qG 7 (.mv (qs []))])
 (.seq (.seq (.region [qa 10 2, qd 11 12 3, qf 12 1 11, qL 13 (.len (.l 12)), qL 14 (.bin .sub (.l 13) (qn 1)), qL 15 (.call fn_spec_l6In [.l 10, qn 0, .l 14]), qG 16 (.un .not (.l 15))])
 (.cond (.g 16) (.seq (.region [qg 17 13 3, qi 13 6 17, qG 7 (.mv (qs [110, 111, 10]))])
 (.ret))
 (.skip)))
 (.seq (.region [qL 18 (.lits 2 []), qd 19 12 3, qf 20 1 19, qL 21 (.append 2 24 (.l 18) (.l 20)), qb 8 21])
 (.seq (.region [qa 22 8, qa 23 2, qL 24 (.elS 2 (.l 22) (.l 23)), qh 25 2 24, qG 9 (.alloc [.int .i64 0, .str []]), qi 2 9 25])
 (.seq (.seq (.region [qd 26 1 9, qf 27 1 26, qL 28 (.bin .eql (.l 27) (qs [])), qc 29 28, qT 30 (.mv (.g 1)) 29, qT 31 (.bin .neq (.l 30) (qs [100, 114, 111, 112])) 29, qL 32 (.pick (.l 29) (.l 31) qo), qc 33 32, qT 34 (.mv (.g 1)) 33, qT 35 (.bin .neq (.l 34) (qs [116, 119, 105, 99, 101])) 33, qG 36 (.pick (.l 33) (.l 35) qo)])
 (.cond (.g 36) (.seq (.region [qg 37 13 3, qi 13 6 37, qG 7 (.mv (qs [110, 111, 10]))])
 (.ret))
 (.skip)))
 (.seq (.seq (.region [qG 38 (.mv (.g 1))])
 (.block 0 (.seq (.region [qL 40 (.bin .eql (.g 38) (qs [100, 114, 111, 112])), qb 39 40])
 (.cond (.g 39) (.drawn [qL 41 (.lits 2 []), qa 42 8, qa 43 2, qL 44 (.cutSl 2 (.l 42) none (some (.l 43))), qL 45 (.append 2 24 (.l 41) (.l 44)), qa 46 8, qa 47 2, qL 48 (.bin .add (.l 47) (qn 1)), qL 49 (.cutSl 2 (.l 46) (some (.l 48)) none)] [[], [], [], [0], [], [], [], [], [4, 3, 0]] [qL 50 (.append 2 24 (.l 45) (.l 49)), qb 8 50])
 (.seq (.region [qL 52 (.bin .eql (.g 38) (qs [116, 119, 105, 99, 101])), qb 51 52])
 (.cond (.g 51) (.drawn [qL 53 (.lits 2 []), qa 54 8, qa 55 2, qL 56 (.bin .add (.l 55) (qn 1)), qL 57 (.cutSl 2 (.l 54) none (some (.l 56))), qL 58 (.append 2 24 (.l 53) (.l 57)), qg 59 2 9, qL 60 (.lits 2 [.l 59]), qL 61 (.append 2 24 (.l 58) (.l 60)), qa 62 8, qa 63 2, qL 64 (.bin .add (.l 63) (qn 1)), qL 65 (.cutSl 2 (.l 62) (some (.l 64)) none)] [[], [], [], [], [0], [], [5, 4, 0], [5, 4, 0], [], [], [], [], [8, 7, 6, 5, 4, 0]] [qL 66 (.append 2 24 (.l 61) (.l 65)), qb 8 66])
 (.seq (.region [qL 68 (.bin .eql (.g 38) (qs [99, 117, 116])), qb 67 68])
 (.cond (.g 67) (.region [qa 69 8, qa 70 2, qd 71 1 9, qf 72 1 71, qd 73 1 9, qf 74 1 73, qL 75 (.lenStr (.l 74)), qL 76 (.bin .sub (.l 75) (qn 1)), qL 77 (.cutStr (.l 72) none (some (.l 76))), qL 78 (.elS 2 (.l 69) (.l 70)), qe 79 1 78, qj 1 79 77])
 (.seq (.region [qL 81 (.bin .eql (.g 38) (qs [102, 108, 105, 112])), qb 80 81])
 (.cond (.g 80) (.drawn [qa 82 8, qa 83 2, qd 84 1 9, qf 85 1 84, qd 86 1 9, qf 87 1 86, qL 88 (.lenStr (.l 87)), qL 89 (.bin .sub (.l 88) (qn 1)), qL 90 (.cutStr (.l 85) none (some (.l 89))), qd 91 1 9, qf 92 1 91, qd 93 1 9, qf 94 1 93, qL 95 (.lenStr (.l 94)), qL 96 (.bin .sub (.l 95) (qn 1)), qL 97 (.idxStr (.l 92) (.l 96)), qL 98 (.bin .xor (.l 97) (.c (.int .u8 1))), qL 99 (.lits 1 [.l 98]), qL 100 (.toStr (.l 99)), qL 101 (.bin .add (.l 90) (.l 100))] [[], [], [], [], [], [3], [], [], [], [], [5, 3], [], [10, 5, 3], [], [], [], [], [5, 3], [5, 3], []] [qL 102 (.elS 2 (.l 82) (.l 83)), qe 103 1 102, qj 1 103 101])
 (.skip)))))))))))
 (.seq (.seq (.region [qa 104 8, qL 105 (.len (.l 104)), qG 106 (.bin .gtr (.l 105) (qn 60))])
 (.cond (.g 106) (.seq (.region [qg 107 13 3, qi 13 6 107, qG 7 (.mv (qs [110, 111, 10]))])
 (.ret))
 (.skip)))
 (.seq (.region [qa 108 8, qd 109 12 3, qj 1 109 108])
 (.seq (.region [qg 110 13 3, qi 13 6 110, qG 7 (.mv (qs [111, 107, 10]))])
 (.ret)))))))))⟩
theorem ln_spec_l51Change : Linked Tryz.prog fn_spec_l51Change ac_spec_l51Change := ⟨Tryz.f39, _, Tryz.func39, rfl, by kernel_rfl, by kernel_rfl, by kernel_rfl, by kernel_rfl⟩
def ac_spec_l42Number : AF := ⟨[0, 2, 3, 4, 18, 22, 34], [.t 2],
 .seq (.region [qG 2 (.mv (qn 0))])
 (.seq (.seq (.region [qa 5 0, qL 6 (.lenStr (.l 5)), qL 7 (.call fn_spec_l6In [.l 6, qn 1, qn 3]), qL 8 (.un .not (.l 7)), qc 9 8, qF 10 (.mv (.g 0)) 9, qF 11 (.lenStr (.l 10)) 9, qF 12 (.bin .gtr (.l 11) (qn 1)) 9, qF 13 (.mv (.l 12)) 9, qT 14 (.mv (.g 0)) 13, qT 15 (.idxStr (.l 14) (qn 0)) 13, qT 16 (.bin .eql (.l 15) (.c (.int .u8 48))) 13, qF 17 (.pick (.l 13) (.l 16) qo) 9, qG 18 (.pick (.l 9) qt (.l 17))])
 (.cond (.g 18) (.seq (.region [qG 2 (.mv (qn (-1)))])
 (.ret))
 (.skip)))
 (.seq (.region [qG 3 (.mv (qn 0))])
 (.seq (.seq (.region [qG 4 (.mv (qn 0))])
 (.block 0 (.loop (.seq (.seq (.region [qa 19 4, qa 20 0, qL 21 (.lenStr (.l 20)), qG 22 (.bin .lss (.l 19) (.l 21))])
 (.cond (.g 22) (.skip)
 (.exit 0)))
 (.seq (.block 1 (.seq (.seq (.region [qa 25 0, qa 26 4, qL 27 (.idxStr (.l 25) (.l 26)), qL 28 (.bin .lss (.l 27) (.c (.int .u8 48))), qc 29 28, qF 30 (.mv (.g 0)) 29, qF 31 (.mv (.g 4)) 29, qF 32 (.idxStr (.l 30) (.l 31)) 29, qF 33 (.bin .gtr (.l 32) (.c (.int .u8 57))) 29, qG 34 (.pick (.l 29) qt (.l 33))])
 (.cond (.g 34) (.seq (.region [qG 2 (.mv (qn (-1)))])
 (.ret))
 (.skip)))
 (.region [qa 35 3, qL 36 (.bin .mul (qn 10) (.l 35)), qa 37 0, qa 38 4, qL 39 (.idxStr (.l 37) (.l 38)), qL 40 (.bin .sub (.l 39) (.c (.int .u8 48))), qL 41 (.conv .i64 (.l 40)), qL 42 (.bin .add (.l 36) (.l 41)), qb 3 42])))
 (.region [qa 23 4, qL 24 (.bin .add (.l 23) (qn 1)), qb 4 24]))))))
 (.seq (.region [qa 43 3, qb 2 43])
 (.ret)))))⟩
theorem ln_spec_l42Number : Linked Tryz.prog fn_spec_l42Number ac_spec_l42Number := ⟨Tryz.f40, _, Tryz.func40, rfl, by kernel_rfl, by kernel_rfl, by kernel_rfl, by kernel_rfl⟩
def ac_spec_ReportText : AF := ⟨[0, 1, 2, 3, 4, 5, 6, 9, 19], [.t 2],
 .seq (.region [qG 1 (.box (.g 0)), qG 2 (.mv (qs []))])
 (.seq (.seq (.region [qg 7 3 1, qL 8 (.call fn_spec_MonitorValid [.l 7]), qG 9 (.un .not (.l 8))])
 (.cond (.g 9) (.seq (.region [qG 2 (.mv (qs []))])
 (.ret))
 (.skip)))
 (.seq (.region [qd 10 0 1, qf 11 1 10, qL 12 (.call fn_spec_l6Dec [.l 11]), qL 13 (.bin .add (qs [114, 101, 99, 111, 114, 100, 115, 32]) (.l 12)), qL 14 (.bin .add (.l 13) (qs [10])), qb 3 14])
 (.seq (.seq (.region [qG 4 (.mv (qn 0))])
 (.block 0 (.loop (.seq (.seq (.region [qa 15 4, qd 16 1 1, qf 17 1 16, qL 18 (.len (.l 17)), qG 19 (.bin .lss (.l 15) (.l 18))])
 (.cond (.g 19) (.skip)
 (.exit 0)))
 (.seq (.block 1 (.seq (.region [qd 22 1 1, qf 23 1 22, qa 24 4, qL 25 (.elS 14 (.l 23) (.l 24)), qh 26 14 25, qG 5 (.alloc [.int .i64 0, .int .i64 0, .int .i64 0, .bool false, .int .i64 0, .int .i64 0, .int .i64 0, .nils, .int .i64 0, .int .i64 0, .int .i64 0, .int .i64 0, .nils, .int .i64 0]), qi 14 5 26])
 (.seq (.region [qL 27 (.lits 1 [qs [110, 101, 119], qs [105, 110, 105, 116], qs [105, 110, 105, 116, 97, 99, 107], qs [99, 111, 111, 107, 105, 101], qs [111, 112, 101, 110], qs [115, 104, 117, 116], qs [115, 104, 117, 116, 97, 99, 107], qs [111, 118, 101, 114]]), qd 28 2 5, qf 29 1 28, qL 30 (.elS 1 (.l 27) (.l 29)), qf 31 1 30, qb 6 31])
 (.drawn [qa 32 3, qL 33 (.bin .add (.l 32) (qs [102, 114, 111, 109, 32])), qd 34 0 5, qf 35 1 34, qL 36 (.call fn_spec_l6Dec [.l 35]), qL 37 (.bin .add (.l 33) (.l 36)), qL 38 (.bin .add (.l 37) (qs [32, 116, 111, 32])), qd 39 1 5, qf 40 1 39, qL 41 (.call fn_spec_l6Dec [.l 40]), qL 42 (.bin .add (.l 38) (.l 41)), qL 43 (.bin .add (.l 42) (qs [32])), qa 44 6, qL 45 (.bin .add (.l 43) (.l 44)), qL 46 (.bin .add (.l 45) (qs [10])), qd 47 4 5, qh 48 5 47, qL 49 (.call fn_spec_l42Side [qs [97], .l 48]), qL 50 (.bin .add (.l 46) (.l 49)), qd 51 9 5, qh 52 5 51, qL 53 (.call fn_spec_l42Side [qs [98], .l 52])] [[], [], [], [], [], [], [], [], [4, 3], [], [], [], [], [], [], [], [9, 8, 4, 3], [], [], [], [17, 16, 9, 8, 4, 3], []] [qL 54 (.bin .add (.l 50) (.l 53)), qb 3 54]))))
 (.region [qa 20 4, qL 21 (.bin .add (.l 20) (qn 1)), qb 4 21]))))))
 (.seq (.drawn [qa 55 3, qL 56 (.bin .add (.l 55) (qs [102, 111, 117, 110, 100, 32])), qd 57 2 1, qf 58 1 57, qL 59 (.len (.l 58)), qL 60 (.call fn_spec_l6Dec [.l 59]), qL 61 (.bin .add (.l 56) (.l 60)), qL 62 (.bin .add (.l 61) (qs [10])), qd 63 2 1, qf 64 1 63, qL 65 (.call fn_spec_l42Text [.l 64])] [[], [], [], [], [], [], [], [], [], [5, 4, 3], []] [qL 66 (.bin .add (.l 62) (.l 65)), qb 2 66])
 (.ret)))))⟩
theorem ln_spec_ReportText : Linked Tryz.prog fn_spec_ReportText ac_spec_ReportText := ⟨Tryz.f41, _, Tryz.func41, rfl, by kernel_rfl, by kernel_rfl, by kernel_rfl, by kernel_rfl⟩
def ac_spec_MonitorRun : AF := ⟨[0, 2, 3, 4, 15], [.c 2 true 3],
 .seq (.region [qG 2 (.alloc [.int .i64 0, .nils, .nils])])
 (.seq (.region [qL 5 (.lits 14 []), qL 6 (.lits 2 []), qL 7 (.build [.int .i64 0, .nils, .nils] [(1, 1, .l 5), (2, 1, .l 6)]), qG 3 (.alloc [.int .i64 0, .nils, .nils]), qi 3 3 7])
 (.seq (.seq (.region [qG 4 (.mv (qn 0))])
 (.block 0 (.loop (.seq (.seq (.region [qa 8 4, qa 9 0, qL 10 (.len (.l 9)), qL 11 (.bin .lss (.l 8) (.l 10)), qc 12 11, qT 13 (.mv (.g 0)) 12, qT 14 (.call fn_spec_CaptureValid [.l 13]) 12, qG 15 (.pick (.l 12) (.l 14) qo)])
 (.cond (.g 15) (.skip)
 (.exit 0)))
 (.seq (.block 1 (.drawn [qg 18 3 3, qa 19 0, qa 20 4, qL 21 (.elS 2 (.l 19) (.l 20)), qe 22 1 21, qf 23 1 22] [[], [], [], [0], [], [0]] [qL 24 (.call fn_spec_l32Step [.l 18, .l 23]), qi 3 3 24]))
 (.region [qa 16 4, qL 17 (.bin .add (.l 16) (qn 1)), qb 4 17]))))))
 (.seq (.region [qg 25 3 3, qi 3 2 25])
 (.ret))))⟩
theorem ln_spec_MonitorRun : Linked Tryz.prog fn_spec_MonitorRun ac_spec_MonitorRun := ⟨Tryz.f42, _, Tryz.func42, rfl, by kernel_rfl, by kernel_rfl, by kernel_rfl, by kernel_rfl⟩
def ac_impl_smallNumber : AF := ⟨[0, 2, 3, 4, 5, 23, 27, 39], [.t 2, .t 3],
 .seq (.region [qG 2 (.mv (qn 0)), qG 3 (.mv qo)])
 (.seq (.seq (.region [qa 6 0, qL 7 (.lenStr (.l 6)), qL 8 (.bin .lss (.l 7) (qn 1)), qc 9 8, qF 10 (.mv (.g 0)) 9, qF 11 (.lenStr (.l 10)) 9, qF 12 (.bin .gtr (.l 11) (qn 3)) 9, qL 13 (.pick (.l 9) qt (.l 12)), qc 14 13, qF 15 (.mv (.g 0)) 14, qF 16 (.lenStr (.l 15)) 14, qF 17 (.bin .gtr (.l 16) (qn 1)) 14, qF 18 (.mv (.l 17)) 14, qT 19 (.mv (.g 0)) 18, qT 20 (.idxStr (.l 19) (qn 0)) 18, qT 21 (.bin .eql (.l 20) (.c (.int .u8 48))) 18, qF 22 (.pick (.l 18) (.l 21) qo) 14, qG 23 (.pick (.l 14) qt (.l 22))])
 (.cond (.g 23) (.seq (.region [qG 2 (.mv (qn 0)), qG 3 (.mv qo)])
 (.ret))
 (.skip)))
 (.seq (.region [qG 4 (.mv (qn 0))])
 (.seq (.seq (.region [qG 5 (.mv (qn 0))])
 (.block 0 (.loop (.seq (.seq (.region [qa 24 5, qa 25 0, qL 26 (.lenStr (.l 25)), qG 27 (.bin .lss (.l 24) (.l 26))])
 (.cond (.g 27) (.skip)
 (.exit 0)))
 (.seq (.block 1 (.seq (.seq (.region [qa 30 0, qa 31 5, qL 32 (.idxStr (.l 30) (.l 31)), qL 33 (.bin .lss (.l 32) (.c (.int .u8 48))), qc 34 33, qF 35 (.mv (.g 0)) 34, qF 36 (.mv (.g 5)) 34, qF 37 (.idxStr (.l 35) (.l 36)) 34, qF 38 (.bin .gtr (.l 37) (.c (.int .u8 57))) 34, qG 39 (.pick (.l 34) qt (.l 38))])
 (.cond (.g 39) (.seq (.region [qG 2 (.mv (qn 0)), qG 3 (.mv qo)])
 (.ret))
 (.skip)))
 (.region [qa 40 4, qL 41 (.bin .mul (.l 40) (qn 10)), qa 42 0, qa 43 5, qL 44 (.idxStr (.l 42) (.l 43)), qL 45 (.bin .sub (.l 44) (.c (.int .u8 48))), qL 46 (.conv .i64 (.l 45)), qL 47 (.bin .add (.l 41) (.l 46)), qb 4 47])))
 (.region [qa 28 5, qL 29 (.bin .add (.l 28) (qn 1)), qb 5 29]))))))
 (.seq (.region [qa 48 4, qb 2 48, qG 3 (.mv qt)])
 (.ret)))))⟩
theorem ln_impl_smallNumber : Linked Tryz.prog fn_impl_smallNumber ac_impl_smallNumber := ⟨Tryz.f46, _, Tryz.func46, rfl, by kernel_rfl, by kernel_rfl, by kernel_rfl, by kernel_rfl⟩
def ac_impl_initOk : AF := ⟨[0, 1, 2], [.t 2],
 .seq (.region [qG 1 (.box (.g 0)), qG 2 (.mv qo)])
 (.seq (.region [qd 3 0 1, qf 4 1 3, qL 5 (.bin .geq (.l 4) (qn 1)), qc 6 5, qT 7 (.faddr 0 (.g 1)) 6, qT 8 (.load false 1 (.l 7)) 6, qT 9 (.bin .leq (.l 8) (qn 4294967295)) 6, qL 10 (.pick (.l 6) (.l 9) qo), qc 11 10, qT 12 (.faddr 1 (.g 1)) 11, qT 13 (.load false 1 (.l 12)) 11, qT 14 (.call fn_impl_serialOk [.l 13]) 11, qL 15 (.pick (.l 11) (.l 14) qo), qc 16 15, qT 17 (.faddr 2 (.g 1)) 16, qT 18 (.load false 1 (.l 17)) 16, qT 19 (.bin .geq (.l 18) (qn 1)) 16, qL 20 (.pick (.l 16) (.l 19) qo), qc 21 20, qT 22 (.faddr 2 (.g 1)) 21, qT 23 (.load false 1 (.l 22)) 21, qT 24 (.bin .leq (.l 23) (qn 4)) 21, qL 25 (.pick (.l 21) (.l 24) qo), qc 26 25, qT 27 (.faddr 3 (.g 1)) 26, qT 28 (.load false 1 (.l 27)) 26, qT 29 (.call fn_impl_serialOk [.l 28]) 26, qL 30 (.pick (.l 26) (.l 29) qo), qb 2 30])
 (.ret))⟩
theorem ln_impl_initOk : Linked Tryz.prog fn_impl_initOk ac_impl_initOk := ⟨Tryz.f47, _, Tryz.func47, rfl, by kernel_rfl, by kernel_rfl, by kernel_rfl, by kernel_rfl⟩
def ac_impl_TalkPackets : AF := ⟨[0, 1, 2, 3, 4, 5, 6, 8, 11, 13, 14, 16, 20, 49, 50, 51, 52, 55, 56, 57, 58], [.t 2],
 .seq (.region [qG 1 (.box (.g 0)), qG 2 (.mv (.c .nils))])
 (.seq (.seq (.region [qg 18 12 1, qL 19 (.call fn_impl_TalkValid [.l 18]), qG 20 (.un .not (.l 19))])
 (.cond (.g 20) (.seq (.region [qG 2 (.mv (.c .nils))])
 (.ret))
 (.skip)))
 (.seq (.region [qL 21 (.lits 4 []), qG 3 (.alloc [.nils]), qi 1 3 21])
 (.seq (.region [qL 22 (.mkfn fn_impl_TalkPackets_1 [.g 1, .g 3]), qG 4 (.alloc [.undef]), qi 1 4 22])
 (.seq (.region [qL 23 (.mkfn fn_impl_TalkPackets_2 [.g 4, .g 1]), qb 5 23])
 (.seq (.region [qd 25 2 1, qh 26 4 25, qL 27 (.call fn_impl_InitPut [.l 26, qo]), qc 24 27, qL 28 (.extract (.l 24) 0), qL 29 (.extract (.l 24) 1), qG 6 (.alloc [.int .i64 0, .int .i64 0, .str []]), qi 3 6 28, qc 7 29])
 (.seq (.region [qd 31 6 1, qh 32 4 31, qL 33 (.call fn_impl_InitPut [.l 32, qt]), qc 30 33, qL 34 (.extract (.l 30) 0), qL 35 (.extract (.l 30) 1), qG 8 (.alloc [.int .i64 0, .int .i64 0, .str []]), qi 3 8 34, qc 9 35])
 (.seq (.region [qL 36 (.load false 1 (.g 4)), qg 37 3 6, qL 38 (.callv (.l 36) [qo, .l 37, qn 0])])
 (.seq (.region [qa 39 5, qg 40 3 8, qL 41 (.callv (.l 39) [qt, .l 40])])
 (.seq (.region [qa 42 5, qL 43 (.build [.int .i64 0, .int .i64 0, .str []] [(0, 1, qn 10)]), qL 44 (.callv (.l 42) [qo, .l 43])])
 (.seq (.region [qa 45 5, qL 46 (.build [.int .i64 0, .int .i64 0, .str []] [(0, 1, qn 11)]), qL 47 (.callv (.l 45) [qt, .l 46])])
 (.seq (.seq (.region [qg 48 12 1, qG 49 (.call fn_impl_partsOf [.l 48]), qG 50 (.len (.g 49)), qG 51 (.mv (qn 0))])
 (.block 0 (.loop (.seq (.region [qG 52 (.bin .lss (.g 51) (.g 50))])
 (.seq (.cond (.g 52) (.skip)
 (.exit 0))
 (.seq (.block 1 (.seq (.region [qL 53 (.elS 1 (.g 49) (.g 51)), qf 54 1 53, qb 11 54])
 (.seq (.region [qG 55 (.mv (.g 11)), qG 56 (.len (.g 55)), qG 57 (.mv (qn 0))])
 (.block 2 (.loop (.seq (.region [qG 58 (.bin .lss (.g 57) (.g 56))])
 (.seq (.cond (.g 58) (.skip)
 (.exit 2))
 (.seq (.block 3 (.seq (.region [qL 59 (.elS 8 (.g 55) (.g 57)), qh 60 8 59, qG 13 (.alloc [.bool false, .int .i64 0, .int .i64 0, .int .i64 0, .bool false, .bool false, .bool false, .str []]), qi 8 13 60])
 (.seq (.region [qd 62 1 13, qh 63 7 62, qL 64 (.call fn_impl_DataPut [.l 63]), qc 61 64, qL 65 (.extract (.l 61) 0), qL 66 (.extract (.l 61) 1), qG 14 (.alloc [.int .i64 0, .int .i64 0, .str []]), qi 3 14 65, qc 15 66])
 (.seq (.region [qd 68 1 13, qe 69 0 68, qf 70 1 69, qL 71 (.build [.int .i64 0, .nils] [(0, 1, .l 70)]), qL 72 (.call fn_impl_SackPut [.l 71]), qc 67 72, qL 73 (.extract (.l 67) 0), qL 74 (.extract (.l 67) 1), qG 16 (.alloc [.int .i64 0, .int .i64 0, .str []]), qi 3 16 73, qc 17 74])
 (.seq (.region [qa 75 5, qd 76 0 13, qf 77 1 76, qg 78 3 14, qL 79 (.callv (.l 75) [.l 77, .l 78])])
 (.region [qa 80 5, qd 81 0 13, qf 82 1 81, qL 83 (.un .not (.l 82)), qg 84 3 16, qL 85 (.callv (.l 80) [.l 83, .l 84])]))))))
 (.region [qL 86 (.bin .add (.g 57) (qn 1)), qb 57 86])))))))))
 (.region [qL 87 (.bin .add (.g 51) (qn 1)), qb 51 87])))))))
 (.seq (.region [qa 88 5, qL 89 (.build [.int .i64 0, .int .i64 0, .str []] [(0, 1, qn 7)]), qL 90 (.callv (.l 88) [qo, .l 89])])
 (.seq (.region [qa 91 5, qL 92 (.build [.int .i64 0, .int .i64 0, .str []] [(0, 1, qn 8)]), qL 93 (.callv (.l 91) [qt, .l 92])])
 (.seq (.region [qa 94 5, qL 95 (.build [.int .i64 0, .int .i64 0, .str []] [(0, 1, qn 14)]), qL 96 (.callv (.l 94) [qo, .l 95])])
 (.seq (.region [qL 97 (.load false 1 (.g 3)), qb 2 97])
 (.ret))))))))))))))))⟩
theorem ln_impl_TalkPackets : Linked Tryz.prog fn_impl_TalkPackets ac_impl_TalkPackets := ⟨Tryz.f48, _, Tryz.func48, rfl, by kernel_rfl, by kernel_rfl, by kernel_rfl, by kernel_rfl⟩
def ac_impl_PacketPut : AF := ⟨[0, 1, 2, 3, 5, 6, 8, 9, 13, 29, 30, 31, 32], [.t 2],
 .seq (.region [qG 1 (.box (.g 0)), qG 2 (.mv (qs []))])
 (.seq (.seq (.region [qg 11 4 1, qL 12 (.call fn_impl_PacketValid [.l 11]), qG 13 (.un .not (.l 12))])
 (.cond (.g 13) (.seq (.region [qG 2 (.mv (qs []))])
 (.ret))
 (.skip)))
 (.seq (.region [qd 15 2 1, qf 16 1 15, qL 17 (.call fn_impl_LongPut [.l 16]), qc 14 17, qL 18 (.extract (.l 14) 0), qL 19 (.extract (.l 14) 1), qb 3 18, qc 4 19])
 (.seq (.region [qd 20 0 1, qf 21 1 20, qd 22 1 1, qf 23 1 22, qL 24 (.lits 1 [.l 21, .l 23]), qL 25 (.call fn_impl_words [.l 24]), qa 26 3, qL 27 (.bin .add (.l 25) (.l 26)), qb 5 27])
 (.seq (.region [qG 6 (.mv (qs []))])
 (.seq (.seq (.region [qd 28 3 1, qG 29 (.load false 1 (.l 28)), qG 30 (.len (.g 29)), qG 31 (.mv (qn 0))])
 (.block 0 (.loop (.seq (.region [qG 32 (.bin .lss (.g 31) (.g 30))])
 (.seq (.cond (.g 32) (.skip)
 (.exit 0))
 (.seq (.block 1 (.seq (.region [qL 33 (.elS 3 (.g 29) (.g 31)), qh 34 3 33, qG 8 (.alloc [.int .i64 0, .int .i64 0, .str []]), qi 3 8 34])
 (.region [qa 35 6, qg 36 3 8, qL 37 (.call fn_impl_ChunkPut [.l 36]), qL 38 (.bin .add (.l 35) (.l 37)), qb 6 38])))
 (.region [qL 39 (.bin .add (.g 31) (qn 1)), qb 31 39])))))))
 (.seq (.region [qa 41 5, qL 42 (.bin .add (.l 41) (qs [0, 0, 0, 0])), qa 43 6, qL 44 (.bin .add (.l 42) (.l 43)), qL 45 (.call fn_impl_SumText [.l 44]), qL 46 (.call fn_impl_LongPut [.l 45]), qc 40 46, qL 47 (.extract (.l 40) 0), qL 48 (.extract (.l 40) 1), qb 9 47, qc 10 48])
 (.seq (.region [qa 49 5, qa 50 9, qL 51 (.bin .add (.l 49) (.l 50)), qa 52 6, qL 53 (.bin .add (.l 51) (.l 52)), qb 2 53])
 (.ret))))))))⟩
theorem ln_impl_PacketPut : Linked Tryz.prog fn_impl_PacketPut ac_impl_PacketPut := ⟨Tryz.f49, _, Tryz.func49, rfl, by kernel_rfl, by kernel_rfl, by kernel_rfl, by kernel_rfl⟩
def ac_impl_CaptureValid : AF := ⟨[0, 2, 3, 5, 8, 9, 10, 11, 12, 29], [.t 2],
 .seq (.region [qG 2 (.mv qo)])
 (.seq (.seq (.region [qa 6 0, qL 7 (.len (.l 6)), qG 8 (.bin .gtr (.l 7) (qn 60))])
 (.cond (.g 8) (.seq (.region [qG 2 (.mv qo)])
 (.ret))
 (.skip)))
 (.seq (.region [qG 3 (.mv (qn 0))])
 (.seq (.seq (.region [qG 9 (.mv (.g 0)), qG 10 (.len (.g 9)), qG 11 (.mv (qn 0))])
 (.block 0 (.loop (.seq (.region [qG 12 (.bin .lss (.g 11) (.g 10))])
 (.seq (.cond (.g 12) (.skip)
 (.exit 0))
 (.seq (.block 1 (.seq (.region [qL 13 (.elS 2 (.g 9) (.g 11)), qh 14 2 13, qG 5 (.alloc [.int .i64 0, .str []]), qi 2 5 14])
 (.seq (.seq (.region [qd 15 0 5, qf 16 1 15, qa 17 3, qL 18 (.bin .lss (.l 16) (.l 17)), qc 19 18, qF 20 (.faddr 0 (.g 5)) 19, qF 21 (.load false 1 (.l 20)) 19, qF 22 (.bin .gtr (.l 21) (qn 4294967295)) 19, qL 23 (.pick (.l 19) qt (.l 22)), qc 24 23, qF 25 (.faddr 1 (.g 5)) 24, qF 26 (.load false 1 (.l 25)) 24, qF 27 (.lenStr (.l 26)) 24, qF 28 (.bin .gtr (.l 27) (qn 120)) 24, qG 29 (.pick (.l 24) qt (.l 28))])
 (.cond (.g 29) (.seq (.region [qG 2 (.mv qo)])
 (.ret))
 (.skip)))
 (.region [qd 30 0 5, qf 31 1 30, qb 3 31]))))
 (.region [qL 32 (.bin .add (.g 11) (qn 1)), qb 11 32])))))))
 (.seq (.region [qG 2 (.mv qt)])
 (.ret)))))⟩
theorem ln_impl_CaptureValid : Linked Tryz.prog fn_impl_CaptureValid ac_impl_CaptureValid := ⟨Tryz.f50, _, Tryz.func50, rfl, by kernel_rfl, by kernel_rfl, by kernel_rfl, by kernel_rfl⟩
def ac_impl_MonitorValid : AF := ⟨[0, 1, 2, 3, 4, 6, 20, 22, 23, 24, 25, 36, 40, 41, 42, 43, 51], [.t 2],
 .seq (.region [qG 1 (.box (.g 0)), qG 2 (.mv qo)])
 (.seq (.seq (.region [qd 7 0 1, qf 8 1 7, qL 9 (.bin .lss (.l 8) (qn 0)), qc 10 9, qF 11 (.faddr 0 (.g 1)) 10, qF 12 (.load false 1 (.l 11)) 10, qF 13 (.bin .gtr (.l 12) (qn 60)) 10, qL 14 (.pick (.l 10) qt (.l 13)), qc 15 14, qF 16 (.faddr 1 (.g 1)) 15, qF 17 (.load false 1 (.l 16)) 15, qF 18 (.len (.l 17)) 15, qF 19 (.bin .gtr (.l 18) (qn 3)) 15, qG 20 (.pick (.l 15) qt (.l 19))])
 (.cond (.g 20) (.seq (.region [qG 2 (.mv qo)])
 (.ret))
 (.skip)))
 (.seq (.seq (.region [qd 21 1 1, qG 22 (.load false 1 (.l 21)), qG 23 (.len (.g 22)), qG 24 (.mv (qn 0))])
 (.block 0 (.loop (.seq (.region [qG 25 (.bin .lss (.g 24) (.g 23))])
 (.seq (.cond (.g 25) (.skip)
 (.exit 0))
 (.seq (.block 1 (.seq (.region [qa 26 24, qL 27 (.elS 14 (.g 22) (.g 24)), qh 28 14 27, qG 4 (.alloc [.int .i64 0, .int .i64 0, .int .i64 0, .bool false, .int .i64 0, .int .i64 0, .int .i64 0, .nils, .int .i64 0, .int .i64 0, .int .i64 0, .int .i64 0, .nils, .int .i64 0]), qb 3 26, qi 14 4 28])
 (.seq (.seq (.region [qg 29 14 4, qL 30 (.call fn_impl_AssocValid [.l 29]), qL 31 (.un .not (.l 30)), qc 32 31, qF 33 (.faddr 2 (.g 4)) 32, qF 34 (.load false 1 (.l 33)) 32, qF 35 (.bin .eql (.l 34) (qn 0)) 32, qG 36 (.pick (.l 32) qt (.l 35))])
 (.cond (.g 36) (.seq (.region [qG 2 (.mv qo)])
 (.ret))
 (.skip)))
 (.seq (.region [qd 37 1 1, qf 38 1 37, qa 39 3, qG 40 (.cutSl 14 (.l 38) none (some (.l 39))), qG 41 (.len (.g 40)), qG 42 (.mv (qn 0))])
 (.block 2 (.loop (.seq (.region [qG 43 (.bin .lss (.g 42) (.g 41))])
 (.seq (.cond (.g 43) (.skip)
 (.exit 2))
 (.seq (.block 3 (.seq (.region [qL 44 (.elS 14 (.g 40) (.g 42)), qh 45 14 44, qG 6 (.alloc [.int .i64 0, .int .i64 0, .int .i64 0, .bool false, .int .i64 0, .int .i64 0, .int .i64 0, .nils, .int .i64 0, .int .i64 0, .int .i64 0, .int .i64 0, .nils, .int .i64 0]), qi 14 6 45])
 (.seq (.region [qg 46 14 6, qd 47 0 4, qf 48 1 47, qd 49 1 4, qf 50 1 49, qG 51 (.call fn_impl_samePorts [.l 46, .l 48, .l 50])])
 (.cond (.g 51) (.seq (.region [qG 2 (.mv qo)])
 (.ret))
 (.skip)))))
 (.region [qL 52 (.bin .add (.g 42) (qn 1)), qb 42 52]))))))))))
 (.region [qL 53 (.bin .add (.g 24) (qn 1)), qb 24 53])))))))
 (.seq (.region [qd 54 2 1, qf 55 1 54, qd 56 0 1, qf 57 1 56, qL 58 (.call fn_impl_foundOk [.l 55, .l 57]), qb 2 58])
 (.ret))))⟩
theorem ln_impl_MonitorValid : Linked Tryz.prog fn_impl_MonitorValid ac_impl_MonitorValid := ⟨Tryz.f51, _, Tryz.func51, rfl, by kernel_rfl, by kernel_rfl, by kernel_rfl, by kernel_rfl⟩
def ac_strings_Builder_WriteString : AF := ⟨[0, 1, 4, 5], [.t 4, .t 5],
 .seq (.region [qG 4 (.mv (qn 0)), qG 5 (.mv (.c .undef))])
 (.seq (.region [qa 6 0, qL 7 (.call fn_strings_Builder_copyCheck [.l 6])])
 (.seq (.region [qa 8 0, qa 9 0, qL 10 (.nilc (.l 9)), qe 11 1 10, qf 12 1 11, qa 13 1, qL 14 (.appStr 5 (.l 12) (.l 13)), qL 15 (.nilc (.l 8)), qe 16 1 15, qj 1 16 14])
 (.seq (.region [qa 17 1, qL 18 (.lenStr (.l 17)), qb 4 18, qG 5 (.mv (.c .undef))])
 (.ret))))⟩
theorem ln_strings_Builder_WriteString : Linked Tryz.prog fn_strings_Builder_WriteString ac_strings_Builder_WriteString := ⟨Tryz.f52, _, Tryz.func52, rfl, by kernel_rfl, by kernel_rfl, by kernel_rfl, by kernel_rfl⟩
def ac_impl_sideLines : AF := ⟨[0, 1, 2, 5, 6, 7, 8, 13, 14, 15, 16, 29], [],
 .seq (.region [qG 5 (.box (.g 2))])
 (.seq (.region [qg 9 5 5, qL 10 (.call fn_impl_SideKnown [.l 9]), qL 11 (.len (.l 10)), qb 6 11])
 (.seq (.region [qg 12 5 5, qG 13 (.call fn_impl_SideSaid [.l 12]), qG 14 (.len (.g 13)), qG 15 (.mv (qn 0))])
 (.block 0 (.loop (.seq (.region [qG 16 (.bin .lss (.g 15) (.g 14))])
 (.seq (.cond (.g 16) (.skip)
 (.exit 0))
 (.seq (.block 1 (.seq (.region [qa 17 15, qL 18 (.elS 4 (.g 13) (.g 15)), qh 19 4 18, qG 8 (.alloc [.int .i64 0, .int .i64 0, .bool false, .str []]), qb 7 17, qi 4 8 19])
 (.seq (.region [qa 20 0, qa 21 1, qL 22 (.bin .add (.l 21) (qs [32])), qg 23 4 8, qL 24 (.call fn_impl_MessageText [.l 23]), qL 25 (.bin .add (.l 22) (.l 24)), qL 26 (.call fn_strings_Builder_WriteString [.l 20, .l 25])])
 (.seq (.seq (.region [qa 27 7, qa 28 6, qG 29 (.bin .lss (.l 27) (.l 28))])
 (.cond (.g 29) (.region [qa 30 0, qL 31 (.call fn_strings_Builder_WriteString [.l 30, qs [32, 111, 107]])])
 (.skip)))
 (.region [qa 32 0, qL 33 (.call fn_strings_Builder_WriteString [.l 32, qs [10]])])))))
 (.region [qL 34 (.bin .add (.g 15) (qn 1)), qb 15 34]))))))))⟩
theorem ln_impl_sideLines : Linked Tryz.prog fn_impl_sideLines ac_impl_sideLines := ⟨Tryz.f53, _, Tryz.func53, rfl, by kernel_rfl, by kernel_rfl, by kernel_rfl, by kernel_rfl⟩
def ac_impl_FindingsText : AF := ⟨[0, 2, 3, 5, 8, 9, 10, 11, 12], [.t 2],
 .seq (.region [qG 2 (.mv (qs []))])
 (.seq (.seq (.region [qa 6 0, qL 7 (.call fn_impl_foundOk [.l 6, qn 60]), qG 8 (.un .not (.l 7))])
 (.cond (.g 8) (.seq (.region [qG 2 (.mv (qs []))])
 (.ret))
 (.skip)))
 (.seq (.region [qG 3 (.mv (qs []))])
 (.seq (.seq (.region [qG 9 (.mv (.g 0)), qG 10 (.len (.g 9)), qG 11 (.mv (qn 0))])
 (.block 0 (.loop (.seq (.region [qG 12 (.bin .lss (.g 11) (.g 10))])
 (.seq (.cond (.g 12) (.skip)
 (.exit 0))
 (.seq (.block 1 (.seq (.region [qL 13 (.elS 2 (.g 9) (.g 11)), qh 14 2 13, qG 5 (.alloc [.int .i64 0, .int .i64 0]), qi 2 5 14])
 (.drawn [qa 15 3, qd 16 0 5, qf 17 1 16, qL 18 (.call fn_strconv_Itoa [.l 17]), qL 19 (.bin .add (.l 18) (qs [32])), qd 20 1 5, qf 21 1 20, qL 22 (.call fn_strconv_Itoa [.l 21]), qL 23 (.bin .add (.l 19) (.l 22)), qL 24 (.bin .add (.l 23) (qs [10]))] [[], [], [], [], [], [], [3, 2], [], [], []] [qL 25 (.bin .add (.l 15) (.l 24)), qb 3 25])))
 (.region [qL 26 (.bin .add (.g 11) (qn 1)), qb 11 26])))))))
 (.seq (.region [qa 27 3, qb 2 27])
 (.ret)))))⟩
theorem ln_impl_FindingsText : Linked Tryz.prog fn_impl_FindingsText ac_impl_FindingsText := ⟨Tryz.f54, _, Tryz.func54, rfl, by kernel_rfl, by kernel_rfl, by kernel_rfl, by kernel_rfl⟩
-- NOT TAKEN strings_Builder_String: [DRAWN, builder.go:47: some 7, builder.go:47: some 13]
def ac_impl_MonitorStep : AF := ⟨[0, 1, 2, 4, 5, 7, 8, 9, 10, 11, 12, 14, 15, 16, 18, 26, 37, 38, 39, 40, 57, 71, 72, 73, 74, 83, 115, 124, 149, 153, 163, 180, 190, 191, 192, 193], [.c 4 true 3],
 .seq (.region [qG 2 (.box (.g 0)), qG 4 (.alloc [.int .i64 0, .nils, .nils])])
 (.seq (.seq (.region [qg 19 3 2, qL 20 (.call fn_impl_MonitorValid [.l 19]), qL 21 (.un .not (.l 20)), qc 22 21, qF 23 (.faddr 0 (.g 2)) 22, qF 24 (.load false 1 (.l 23)) 22, qF 25 (.bin .geq (.l 24) (qn 60)) 22, qG 26 (.pick (.l 22) qt (.l 25))])
 (.cond (.g 26) (.seq (.region [qL 27 (.build [.int .i64 0, .nils, .nils] []), qi 3 4 27])
 (.ret))
 (.skip)))
 (.seq (.drawn [qd 28 0 2, qf 29 1 28, qL 30 (.bin .add (.l 29) (qn 1)), qL 31 (.lits 2 []), qd 32 2 2, qf 33 1 32, qL 34 (.append 2 16 (.l 31) (.l 33)), qL 35 (.build [.int .i64 0, .nils, .nils] [(0, 1, .l 30), (2, 1, .l 34)]), qG 5 (.alloc [.int .i64 0, .nils, .nils])] [[], [], [], [1], [], [3, 1], [1], [], [6, 5, 3, 1]] [qi 3 5 35])
 (.seq (.seq (.region [qd 36 1 2, qG 37 (.load false 1 (.l 36)), qG 38 (.len (.g 37)), qG 39 (.mv (qn 0))])
 (.block 0 (.loop (.seq (.region [qG 40 (.bin .lss (.g 39) (.g 38))])
 (.seq (.cond (.g 40) (.skip)
 (.exit 0))
 (.seq (.block 1 (.seq (.region [qL 41 (.elS 14 (.g 37) (.g 39)), qh 42 14 41, qG 7 (.alloc [.int .i64 0, .int .i64 0, .int .i64 0, .bool false, .int .i64 0, .int .i64 0, .int .i64 0, .nils, .int .i64 0, .int .i64 0, .int .i64 0, .int .i64 0, .nils, .int .i64 0]), qi 14 7 42])
 (.drawn [qd 43 1 5, qf 44 1 43, qg 45 14 7, qL 46 (.call fn_impl_copyAssoc [.l 45]), qL 47 (.lits 14 [.l 46])] [[], [], [1], [1], [1]] [qL 48 (.append 14 144 (.l 44) (.l 47)), qd 49 1 5, qj 1 49 48])))
 (.region [qL 50 (.bin .add (.g 39) (qn 1)), qb 39 50])))))))
 (.seq (.region [qa 52 1, qL 53 (.call fn_impl_PacketGet [.l 52]), qc 51 53, qL 54 (.extract (.l 51) 0), qL 55 (.extract (.l 51) 1), qG 8 (.alloc [.int .i64 0, .int .i64 0, .int .i64 0, .nils]), qi 4 8 54, qb 9 55])
 (.seq (.seq (.region [qa 56 9, qG 57 (.bin .neq (.l 56) (qn 0))])
 (.cond (.g 57) (.seq (.region [qd 58 2 5, qf 59 1 58, qd 60 0 2, qf 61 1 60, qa 62 9, qL 63 (.bin .add (qn 101) (.l 62)), qL 64 (.bin .sub (.l 63) (qn 1)), qL 65 (.build [.int .i64 0, .int .i64 0] [(0, 1, .l 61), (1, 1, .l 64)]), qL 66 (.lits 2 [.l 65]), qL 67 (.append 2 16 (.l 59) (.l 66)), qd 68 2 5, qj 1 68 67])
 (.seq (.region [qg 69 3 5, qi 3 4 69])
 (.ret)))
 (.skip)))
 (.seq (.region [qG 10 (.mv (qn (-1)))])
 (.seq (.seq (.region [qd 70 1 5, qG 71 (.load false 1 (.l 70)), qG 72 (.len (.g 71)), qG 73 (.mv (qn 0))])
 (.block 2 (.loop (.seq (.region [qG 74 (.bin .lss (.g 73) (.g 72))])
 (.seq (.cond (.g 74) (.skip)
 (.exit 2))
 (.seq (.block 3 (.seq (.region [qa 75 73, qL 76 (.elS 14 (.g 71) (.g 73)), qh 77 14 76, qG 12 (.alloc [.int .i64 0, .int .i64 0, .int .i64 0, .bool false, .int .i64 0, .int .i64 0, .int .i64 0, .nils, .int .i64 0, .int .i64 0, .int .i64 0, .int .i64 0, .nils, .int .i64 0]), qb 11 75, qi 14 12 77])
 (.seq (.region [qg 78 14 12, qd 79 0 8, qf 80 1 79, qd 81 1 8, qf 82 1 81, qG 83 (.call fn_impl_samePorts [.l 78, .l 80, .l 82])])
 (.cond (.g 83) (.region [qa 84 11, qb 10 84])
 (.skip)))))
 (.region [qL 85 (.bin .add (.g 73) (qn 1)), qb 73 85])))))))
 (.seq (.seq (.region [qa 86 10, qL 87 (.bin .geq (.l 86) (qn 0)), qc 88 87, qT 89 (.faddr 1 (.g 5)) 88, qT 90 (.load false 1 (.l 89)) 88, qT 91 (.mv (.g 10)) 88, qT 92 (.elS 14 (.l 90) (.l 91)) 88, qT 93 (.faddr 2 (.l 92)) 88, qT 94 (.load false 1 (.l 93)) 88, qT 95 (.bin .eql (.l 94) (qn 7)) 88, qL 96 (.pick (.l 88) (.l 95) qo), qc 97 96, qT 98 (.faddr 2 (.g 8)) 97, qT 99 (.load false 1 (.l 98)) 97, qT 100 (.bin .eql (.l 99) (qn 0)) 97, qL 101 (.pick (.l 97) (.l 100) qo), qc 102 101, qT 103 (.faddr 3 (.g 8)) 102, qT 104 (.load false 1 (.l 103)) 102, qT 105 (.len (.l 104)) 102, qT 106 (.bin .eql (.l 105) (qn 1)) 102, qL 107 (.pick (.l 102) (.l 106) qo), qc 108 107, qT 109 (.faddr 3 (.g 8)) 108, qT 110 (.load false 1 (.l 109)) 108, qT 111 (.elS 3 (.l 110) (qn 0)) 108, qT 112 (.faddr 0 (.l 111)) 108, qT 113 (.load false 1 (.l 112)) 108, qT 114 (.bin .eql (.l 113) (qn 1)) 108, qG 115 (.pick (.l 108) (.l 114) qo)])
 (.cond (.g 115) (.seq (.region [qd 117 3 8, qf 118 1 117, qL 119 (.elS 3 (.l 118) (qn 0)), qh 120 3 119, qL 121 (.call fn_impl_InitGet [.l 120]), qc 116 121, qL 122 (.extract (.l 116) 0), qL 123 (.extract (.l 116) 1), qL 13 (.alloc [.int .i64 0, .int .i64 0, .int .i64 0, .int .i64 0]), qj 4 13 122, qb 14 123])
 (.seq (.region [qG 124 (.mv (.g 14))])
 (.cond (.g 124) (.seq (.drawn [qd 125 1 5, qf 126 1 125, qa 127 10, qL 128 (.cutSl 14 (.l 126) none (some (.l 127))), qd 129 1 5, qf 130 1 129, qa 131 10, qL 132 (.bin .add (.l 131) (qn 1)), qL 133 (.cutSl 14 (.l 130) (some (.l 132)) none)] [[], [], [], [], [], [3, 1], [], [], [3, 1]] [qL 134 (.append 14 144 (.l 128) (.l 133)), qd 135 1 5, qj 1 135 134])
 (.region [qG 10 (.mv (qn (-1)))]))
 (.skip))))
 (.skip)))
 (.seq (.region [qL 136 (.lits 1 []), qb 15 136])
 (.seq (.block 4 (.seq (.region [qa 164 10, qL 165 (.bin .geq (.l 164) (qn 0)), qb 163 165])
 (.cond (.g 163) (.drawn [qd 167 1 5, qf 168 1 167, qa 169 10, qd 170 1 5, qf 171 1 170, qa 172 10, qL 173 (.elS 14 (.l 171) (.l 172)), qh 174 14 173, qg 175 4 8, qL 176 (.call fn_impl_AssocStep [.l 174, .l 175]), qc 166 176, qL 177 (.extract (.l 166) 0), qL 178 (.extract (.l 166) 1), qL 179 (.elS 14 (.l 168) (.l 169)), qj 14 179 177] [[], [], [], [], [1], [], [1], [1], [7, 6, 4, 1], [1], [], [], [], [], []] [qb 15 178])
 (.seq (.region [qd 181 3 8, qf 182 1 181, qL 183 (.elS 3 (.l 182) (qn 0)), qe 184 0 183, qf 185 1 184, qL 186 (.bin .neq (.l 185) (qn 1)), qb 180 186])
 (.cond (.g 180) (.region [qa 187 15, qL 188 (.lits 1 [qn 104]), qL 189 (.append 1 8 (.l 187) (.l 188)), qb 15 189])
 (.seq (.region [qG 16 (.alloc [.int .i64 0, .int .i64 0, .int .i64 0, .bool false, .int .i64 0, .int .i64 0, .int .i64 0, .nils, .int .i64 0, .int .i64 0, .int .i64 0, .int .i64 0, .nils, .int .i64 0])])
 (.seq (.region [qd 138 0 8, qf 139 1 138, qd 140 1 8, qf 141 1 140, qL 142 (.build [.int .i64 0, .int .i64 0, .int .i64 0, .bool false, .int .i64 0, .int .i64 0, .int .i64 0, .nils, .int .i64 0, .int .i64 0, .int .i64 0, .int .i64 0, .nils, .int .i64 0] [(0, 1, .l 139), (1, 1, .l 141), (2, 1, qn 0)]), qg 143 4 8, qL 144 (.call fn_impl_AssocStep [.l 142, .l 143]), qc 137 144, qL 145 (.extract (.l 137) 0), qL 146 (.extract (.l 137) 1), qi 14 16 145, qb 15 146])
 (.seq (.region [qa 147 15, qL 148 (.len (.l 147)), qG 149 (.bin .eql (.l 148) (qn 0))])
 (.cond (.g 149) (.seq (.region [qd 150 1 5, qf 151 1 150, qL 152 (.len (.l 151)), qG 153 (.bin .geq (.l 152) (qn 3))])
 (.cond (.g 153) (.region [qa 154 15, qL 155 (.lits 1 [qn 105]), qL 156 (.append 1 8 (.l 154) (.l 155)), qb 15 156])
 (.region [qd 157 1 5, qf 158 1 157, qg 159 14 16, qL 160 (.lits 14 [.l 159]), qL 161 (.append 14 144 (.l 158) (.l 160)), qd 162 1 5, qj 1 162 161])))
 (.skip))))))))))
 (.seq (.seq (.region [qG 190 (.mv (.g 15)), qG 191 (.len (.g 190)), qG 192 (.mv (qn 0))])
 (.block 5 (.loop (.seq (.region [qG 193 (.bin .lss (.g 192) (.g 191))])
 (.seq (.cond (.g 193) (.skip)
 (.exit 5))
 (.seq (.block 6 (.seq (.region [qL 194 (.elS 1 (.g 190) (.g 192)), qf 195 1 194, qb 18 195])
 (.region [qd 196 2 5, qf 197 1 196, qd 198 0 2, qf 199 1 198, qa 200 18, qL 201 (.build [.int .i64 0, .int .i64 0] [(0, 1, .l 199), (1, 1, .l 200)]), qL 202 (.lits 2 [.l 201]), qL 203 (.append 2 16 (.l 197) (.l 202)), qd 204 2 5, qj 1 204 203])))
 (.region [qL 205 (.bin .add (.g 192) (qn 1)), qb 192 205])))))))
 (.seq (.region [qg 206 3 5, qi 3 4 206])
 (.ret)))))))))))))⟩
theorem ln_impl_MonitorStep : Linked Tryz.prog fn_impl_MonitorStep ac_impl_MonitorStep := ⟨Tryz.f56, _, Tryz.func56, rfl, by kernel_rfl, by kernel_rfl, by kernel_rfl, by kernel_rfl⟩
def ac_spec_TalkValid : AF := ⟨[0, 1, 2, 3, 4, 5, 6, 41, 46, 87, 89], [.t 2],
 .seq (.region [qG 1 (.box (.g 0)), qG 2 (.mv qo)])
 (.seq (.seq (.region [qd 7 0 1, qf 8 1 7, qL 9 (.call fn_spec_l6In [.l 8, qn 1, qn 65535]), qL 10 (.un .not (.l 9)), qc 11 10, qF 12 (.faddr 1 (.g 1)) 11, qF 13 (.load false 1 (.l 12)) 11, qF 14 (.call fn_spec_l6In [.l 13, qn 1, qn 65535]) 11, qF 15 (.un .not (.l 14)) 11, qL 16 (.pick (.l 11) qt (.l 15)), qc 17 16, qF 18 (.faddr 0 (.g 1)) 17, qF 19 (.load false 1 (.l 18)) 17, qF 20 (.faddr 1 (.g 1)) 17, qF 21 (.load false 1 (.l 20)) 17, qF 22 (.bin .eql (.l 19) (.l 21)) 17, qL 23 (.pick (.l 17) qt (.l 22)), qc 24 23, qF 25 (.faddr 2 (.g 1)) 24, qF 26 (.load true 4 (.l 25)) 24, qF 27 (.call fn_spec_l12Init [.l 26]) 24, qF 28 (.un .not (.l 27)) 24, qL 29 (.pick (.l 24) qt (.l 28)), qc 30 29, qF 31 (.faddr 6 (.g 1)) 30, qF 32 (.load true 4 (.l 31)) 30, qF 33 (.call fn_spec_l12Init [.l 32]) 30, qF 34 (.un .not (.l 33)) 30, qL 35 (.pick (.l 30) qt (.l 34)), qc 36 35, qF 37 (.faddr 10 (.g 1)) 36, qF 38 (.load false 1 (.l 37)) 36, qF 39 (.call fn_spec_l6In [.l 38, qn 1, qn 20]) 36, qF 40 (.un .not (.l 39)) 36, qG 41 (.pick (.l 36) qt (.l 40))])
 (.cond (.g 41) (.seq (.region [qG 2 (.mv qo)])
 (.ret))
 (.skip)))
 (.seq (.region [qG 3 (.mv (qn 0))])
 (.seq (.region [qG 4 (.mv (qn 0))])
 (.seq (.seq (.region [qG 5 (.mv (qn 0))])
 (.block 0 (.loop (.seq (.seq (.region [qa 42 5, qd 43 11 1, qf 44 1 43, qL 45 (.len (.l 44)), qG 46 (.bin .lss (.l 42) (.l 45))])
 (.cond (.g 46) (.skip)
 (.exit 0)))
 (.seq (.block 1 (.seq (.region [qd 49 11 1, qf 50 1 49, qa 51 5, qL 52 (.elS 4 (.l 50) (.l 51)), qh 53 4 52, qG 6 (.alloc [.bool false, .int .i64 0, .bool false, .str []]), qi 4 6 53])
 (.seq (.seq (.region [qd 54 3 6, qf 55 1 54, qL 56 (.lenStr (.l 55)), qL 57 (.call fn_spec_l6In [.l 56, qn 1, qn 60]), qL 58 (.un .not (.l 57)), qc 59 58, qF 60 (.faddr 0 (.g 6)) 59, qF 61 (.load false 1 (.l 60)) 59, qF 62 (.mv (.l 61)) 59, qT 63 (.faddr 1 (.g 6)) 62, qT 64 (.load false 1 (.l 63)) 62, qT 65 (.faddr 6 (.g 1)) 62, qT 66 (.faddr 2 (.l 65)) 62, qT 67 (.load false 1 (.l 66)) 62, qT 68 (.bin .sub (.l 67) (qn 1)) 62, qT 69 (.call fn_spec_l6In [.l 64, qn 0, .l 68]) 62, qT 70 (.un .not (.l 69)) 62, qF 71 (.pick (.l 62) (.l 70) qo) 59, qL 72 (.pick (.l 59) qt (.l 71)), qc 73 72, qF 74 (.faddr 0 (.g 6)) 73, qF 75 (.load false 1 (.l 74)) 73, qF 76 (.un .not (.l 75)) 73, qF 77 (.mv (.l 76)) 73, qT 78 (.faddr 1 (.g 6)) 77, qT 79 (.load false 1 (.l 78)) 77, qT 80 (.faddr 2 (.g 1)) 77, qT 81 (.faddr 2 (.l 80)) 77, qT 82 (.load false 1 (.l 81)) 77, qT 83 (.bin .sub (.l 82) (qn 1)) 77, qT 84 (.call fn_spec_l6In [.l 79, qn 0, .l 83]) 77, qT 85 (.un .not (.l 84)) 77, qF 86 (.pick (.l 77) (.l 85) qo) 73, qG 87 (.pick (.l 73) qt (.l 86))])
 (.cond (.g 87) (.seq (.region [qG 2 (.mv qo)])
 (.ret))
 (.skip)))
 (.seq (.region [qd 88 0 6, qG 89 (.load false 1 (.l 88))])
 (.cond (.g 89) (.region [qa 90 4, qd 91 3 6, qf 92 1 91, qd 93 10 1, qf 94 1 93, qL 95 (.call fn_spec_l41Many [.l 92, .l 94]), qL 96 (.bin .add (.l 90) (.l 95)), qb 4 96])
 (.region [qa 97 3, qd 98 3 6, qf 99 1 98, qd 100 10 1, qf 101 1 100, qL 102 (.call fn_spec_l41Many [.l 99, .l 101]), qL 103 (.bin .add (.l 97) (.l 102)), qb 3 103]))))))
 (.region [qa 47 5, qL 48 (.bin .add (.l 47) (qn 1)), qb 5 48]))))))
 (.seq (.region [qd 104 11 1, qf 105 1 104, qL 106 (.len (.l 105)), qL 107 (.bin .leq (.l 106) (qn 4)), qc 108 107, qT 109 (.mv (.g 3)) 108, qT 110 (.bin .leq (.l 109) (qn 12)) 108, qL 111 (.pick (.l 108) (.l 110) qo), qc 112 111, qT 113 (.mv (.g 4)) 112, qT 114 (.bin .leq (.l 113) (qn 12)) 112, qL 115 (.pick (.l 112) (.l 114) qo), qb 2 115])
 (.ret))))))⟩
theorem ln_spec_TalkValid : Linked Tryz.prog fn_spec_TalkValid ac_spec_TalkValid := ⟨Tryz.f58, _, Tryz.func58, rfl, by kernel_rfl, by kernel_rfl, by kernel_rfl, by kernel_rfl⟩
def ac_spec_TalkPackets : AF := ⟨[0, 1, 2, 3, 4, 5, 6, 7, 8, 9, 10, 12, 16, 28, 47, 51], [.t 2],
 .seq (.region [qG 1 (.box (.g 0)), qG 2 (.mv (.c .nils))])
 (.seq (.seq (.region [qg 14 12 1, qL 15 (.call fn_spec_TalkValid [.l 14]), qG 16 (.un .not (.l 15))])
 (.cond (.g 16) (.seq (.region [qL 17 (.lits 4 []), qb 2 17])
 (.ret))
 (.skip)))
 (.seq (.region [qg 18 12 1, qL 19 (.call fn_spec_l41Hello [.l 18]), qb 3 19])
 (.seq (.region [qg 20 12 1, qL 21 (.call fn_spec_l41Parts [.l 20, qo]), qb 4 21])
 (.seq (.region [qg 22 12 1, qL 23 (.call fn_spec_l41Parts [.l 22, qt]), qb 5 23])
 (.seq (.seq (.region [qG 6 (.mv (qn 0))])
 (.block 0 (.loop (.seq (.seq (.region [qa 24 6, qd 25 11 1, qf 26 1 25, qL 27 (.len (.l 26)), qG 28 (.bin .lss (.l 24) (.l 27))])
 (.cond (.g 28) (.skip)
 (.exit 0)))
 (.seq (.block 1 (.seq (.region [qd 31 11 1, qf 32 1 31, qa 33 6, qL 34 (.elS 4 (.l 32) (.l 33)), qe 35 0 34, qf 36 1 35, qb 7 36])
 (.seq (.drawn [qd 37 11 1, qf 38 1 37, qa 39 6, qL 40 (.elS 4 (.l 38) (.l 39)), qe 41 3 40, qf 42 1 41, qd 43 10 1, qf 44 1 43] [[], [], [], [], [], [], [], [5, 3, 1]] [qL 45 (.call fn_spec_l41Many [.l 42, .l 44]), qb 8 45])
 (.block 2 (.loop (.seq (.seq (.region [qa 46 8, qG 47 (.bin .gtr (.l 46) (qn 0))])
 (.cond (.g 47) (.skip)
 (.exit 2)))
 (.seq (.block 3 (.seq (.region [qL 50 (.build [.int .i64 0, .int .i64 0, .int .i64 0, .bool false, .bool false, .bool false, .str []] []), qG 9 (.alloc [.int .i64 0, .int .i64 0, .int .i64 0, .bool false, .bool false, .bool false, .str []]), qi 7 9 50])
 (.seq (.seq (.region [qG 51 (.mv (.g 7))])
 (.cond (.g 51) (.seq (.region [qa 52 5, qL 53 (.elS 7 (.l 52) (qn 0)), qh 54 7 53, qi 7 9 54])
 (.region [qa 55 5, qL 56 (.cutSl 7 (.l 55) (some (qn 1)) none), qb 5 56]))
 (.seq (.region [qa 57 4, qL 58 (.elS 7 (.l 57) (qn 0)), qh 59 7 58, qi 7 9 59])
 (.region [qa 60 4, qL 61 (.cutSl 7 (.l 60) (some (qn 1)) none), qb 4 61]))))
 (.seq (.region [qg 63 7 9, qL 64 (.call fn_spec_DataPut [.l 63]), qc 62 64, qL 65 (.extract (.l 62) 0), qL 66 (.extract (.l 62) 1), qG 10 (.alloc [.int .i64 0, .int .i64 0, .str []]), qi 3 10 65, qc 11 66])
 (.seq (.region [qd 68 0 9, qf 69 1 68, qL 70 (.build [.int .i64 0, .nils] [(0, 1, .l 69)]), qL 71 (.call fn_spec_SackPut [.l 70]), qc 67 71, qL 72 (.extract (.l 67) 0), qL 73 (.extract (.l 67) 1), qG 12 (.alloc [.int .i64 0, .int .i64 0, .str []]), qi 3 12 72, qc 13 73])
 (.drawn [qa 74 3, qg 75 12 1, qa 76 7, qg 77 3 10, qL 78 (.lits 3 [.l 77]), qL 79 (.call fn_spec_l41Packet [.l 75, .l 76, .l 78]), qg 80 12 1, qa 81 7, qL 82 (.un .not (.l 81)), qg 83 3 12, qL 84 (.lits 3 [.l 83]), qL 85 (.call fn_spec_l41Packet [.l 80, .l 82, .l 84]), qL 86 (.lits 4 [.l 79, .l 85])] [[], [], [], [1], [1], [], [5, 4, 3, 1], [], [], [6, 5, 4, 3, 1], [6, 5, 4, 3, 1], [], []] [qL 87 (.append 4 48 (.l 74) (.l 86)), qb 3 87]))))))
 (.region [qa 48 8, qL 49 (.bin .sub (.l 48) (qn 1)), qb 8 49]))))))))
 (.region [qa 29 6, qL 30 (.bin .add (.l 29) (qn 1)), qb 6 30]))))))
 (.seq (.drawn [qa 88 3, qg 89 12 1, qL 90 (.call fn_spec_l41One [.l 89, qo, qn 7]), qg 91 12 1, qL 92 (.call fn_spec_l41One [.l 91, qt, qn 8]), qg 93 12 1, qL 94 (.call fn_spec_l41One [.l 93, qo, qn 14]), qL 95 (.lits 4 [.l 90, .l 92, .l 94])] [[], [], [], [2, 1], [], [4, 3, 2, 1], [], []] [qL 96 (.append 4 48 (.l 88) (.l 95)), qb 2 96])
 (.ret)))))))⟩
theorem ln_spec_TalkPackets : Linked Tryz.prog fn_spec_TalkPackets ac_spec_TalkPackets := ⟨Tryz.f59, _, Tryz.func59, rfl, by kernel_rfl, by kernel_rfl, by kernel_rfl, by kernel_rfl⟩
def ac_spec_PacketPut : AF := ⟨[0, 1, 2, 5], [.t 2],
 .seq (.region [qG 1 (.box (.g 0)), qG 2 (.mv (qs []))])
 (.seq (.seq (.region [qg 3 4 1, qL 4 (.call fn_spec_PacketValid [.l 3]), qG 5 (.un .not (.l 4))])
 (.cond (.g 5) (.seq (.region [qG 2 (.mv (qs []))])
 (.ret))
 (.skip)))
 (.seq (.region [qg 6 4 1, qL 7 (.call fn_spec_l13Put [.l 6]), qb 2 7])
 (.ret)))⟩
theorem ln_spec_PacketPut : Linked Tryz.prog fn_spec_PacketPut ac_spec_PacketPut := ⟨Tryz.f60, _, Tryz.func60, rfl, by kernel_rfl, by kernel_rfl, by kernel_rfl, by kernel_rfl⟩
def ac_spec_CaptureValid : AF := ⟨[0, 2, 3, 4, 8, 17], [.t 2],
 .seq (.region [qG 2 (.mv qo)])
 (.seq (.region [qG 3 (.mv (qn 0))])
 (.seq (.seq (.region [qG 4 (.mv (qn 0))])
 (.block 0 (.loop (.seq (.seq (.region [qa 5 4, qa 6 0, qL 7 (.len (.l 6)), qG 8 (.bin .lss (.l 5) (.l 7))])
 (.cond (.g 8) (.skip)
 (.exit 0)))
 (.seq (.block 1 (.seq (.seq (.region [qa 11 0, qa 12 4, qL 13 (.elS 2 (.l 11) (.l 12)), qh 14 2 13, qa 15 3, qL 16 (.call fn_spec_l14Record [.l 14, .l 15]), qG 17 (.un .not (.l 16))])
 (.cond (.g 17) (.seq (.region [qG 2 (.mv qo)])
 (.ret))
 (.skip)))
 (.region [qa 18 0, qa 19 4, qL 20 (.elS 2 (.l 18) (.l 19)), qe 21 0 20, qf 22 1 21, qb 3 22])))
 (.region [qa 9 4, qL 10 (.bin .add (.l 9) (qn 1)), qb 4 10]))))))
 (.seq (.region [qa 23 0, qL 24 (.len (.l 23)), qL 25 (.bin .leq (.l 24) (qn 60)), qb 2 25])
 (.ret))))⟩
theorem ln_spec_CaptureValid : Linked Tryz.prog fn_spec_CaptureValid ac_spec_CaptureValid := ⟨Tryz.f61, _, Tryz.func61, rfl, by kernel_rfl, by kernel_rfl, by kernel_rfl, by kernel_rfl⟩
def ac_spec_l6In : AF := ⟨[0, 1, 2, 6], [.t 6],
 .seq (.region [qG 6 (.mv qo)])
 (.seq (.region [qa 7 0, qa 8 1, qL 9 (.bin .geq (.l 7) (.l 8)), qc 10 9, qT 11 (.mv (.g 0)) 10, qT 12 (.mv (.g 2)) 10, qT 13 (.bin .leq (.l 11) (.l 12)) 10, qL 14 (.pick (.l 10) (.l 13) qo), qb 6 14])
 (.ret))⟩
theorem ln_spec_l6In : Linked Tryz.prog fn_spec_l6In ac_spec_l6In := ⟨Tryz.f62, _, Tryz.func62, rfl, by kernel_rfl, by kernel_rfl, by kernel_rfl, by kernel_rfl⟩
def ac_spec_MonitorValid : AF := ⟨[0, 1, 2, 3, 4, 5, 10, 28, 31, 44, 49, 79], [.t 2],
 .seq (.region [qG 1 (.box (.g 0)), qG 2 (.mv qo)])
 (.seq (.seq (.region [qG 3 (.mv (qn 0))])
 (.block 0 (.loop (.seq (.seq (.region [qa 6 3, qd 7 1 1, qf 8 1 7, qL 9 (.len (.l 8)), qG 10 (.bin .lss (.l 6) (.l 9))])
 (.cond (.g 10) (.skip)
 (.exit 0)))
 (.seq (.block 1 (.seq (.seq (.region [qd 13 1 1, qf 14 1 13, qa 15 3, qL 16 (.elS 14 (.l 14) (.l 15)), qh 17 14 16, qL 18 (.call fn_spec_AssocValid [.l 17]), qL 19 (.un .not (.l 18)), qc 20 19, qF 21 (.faddr 1 (.g 1)) 20, qF 22 (.load false 1 (.l 21)) 20, qF 23 (.mv (.g 3)) 20, qF 24 (.elS 14 (.l 22) (.l 23)) 20, qF 25 (.faddr 2 (.l 24)) 20, qF 26 (.load false 1 (.l 25)) 20, qF 27 (.bin .eql (.l 26) (qn 0)) 20, qG 28 (.pick (.l 20) qt (.l 27))])
 (.cond (.g 28) (.seq (.region [qG 2 (.mv qo)])
 (.ret))
 (.skip)))
 (.seq (.region [qG 4 (.mv (qn 0))])
 (.block 2 (.loop (.seq (.seq (.region [qa 29 4, qa 30 3, qG 31 (.bin .lss (.l 29) (.l 30))])
 (.cond (.g 31) (.skip)
 (.exit 2)))
 (.seq (.block 3 (.seq (.drawn [qd 34 1 1, qf 35 1 34, qa 36 4, qL 37 (.elS 14 (.l 35) (.l 36)), qh 38 14 37, qd 39 1 1, qf 40 1 39, qa 41 3, qL 42 (.elS 14 (.l 40) (.l 41)), qh 43 14 42] [[], [], [], [], [], [], [4, 3, 1], [], [4, 3, 1], [4, 3, 1]] [qG 44 (.call fn_spec_l32Pair [.l 38, .l 43])])
 (.cond (.g 44) (.seq (.region [qG 2 (.mv qo)])
 (.ret))
 (.skip))))
 (.region [qa 32 4, qL 33 (.bin .add (.l 32) (qn 1)), qb 4 33]))))))))
 (.region [qa 11 3, qL 12 (.bin .add (.l 11) (qn 1)), qb 3 12]))))))
 (.seq (.seq (.region [qG 5 (.mv (qn 0))])
 (.block 4 (.loop (.seq (.seq (.region [qa 45 5, qd 46 2 1, qf 47 1 46, qL 48 (.len (.l 47)), qG 49 (.bin .lss (.l 45) (.l 48))])
 (.cond (.g 49) (.skip)
 (.exit 4)))
 (.seq (.block 5 (.seq (.drawn [qd 52 2 1, qf 53 1 52, qa 54 5, qL 55 (.elS 2 (.l 53) (.l 54)), qh 56 2 55, qd 57 0 1, qf 58 1 57, qL 59 (.call fn_spec_l32Finding [.l 56, .l 58]), qL 60 (.un .not (.l 59)), qc 61 60, qF 62 (.mv (.g 5)) 61, qF 63 (.bin .gtr (.l 62) (qn 0)) 61, qF 64 (.mv (.l 63)) 61, qT 65 (.faddr 2 (.g 1)) 64, qT 66 (.load false 1 (.l 65)) 64, qT 67 (.mv (.g 5)) 64, qT 68 (.bin .sub (.l 67) (qn 1)) 64, qT 69 (.elS 2 (.l 66) (.l 68)) 64, qT 70 (.load true 2 (.l 69)) 64, qT 71 (.faddr 2 (.g 1)) 64, qT 72 (.load false 1 (.l 71)) 64, qT 73 (.mv (.g 5)) 64, qT 74 (.elS 2 (.l 72) (.l 73)) 64, qT 75 (.load true 2 (.l 74)) 64] [[], [], [], [], [], [], [4, 3, 1], [], [], [], [], [], [], [], [], [], [], [], [], [], [18, 17, 14], [], [18, 17, 14], [18, 17, 14]] [qT 76 (.call fn_spec_l32Less [.l 70, .l 75]) 64, qT 77 (.un .not (.l 76)) 64, qF 78 (.pick (.l 64) (.l 77) qo) 61, qG 79 (.pick (.l 61) qt (.l 78))])
 (.cond (.g 79) (.seq (.region [qG 2 (.mv qo)])
 (.ret))
 (.skip))))
 (.region [qa 50 5, qL 51 (.bin .add (.l 50) (qn 1)), qb 5 51]))))))
 (.seq (.region [qd 80 0 1, qf 81 1 80, qL 82 (.call fn_spec_l6In [.l 81, qn 0, qn 60]), qc 83 82, qT 84 (.faddr 1 (.g 1)) 83, qT 85 (.load false 1 (.l 84)) 83, qT 86 (.len (.l 85)) 83, qT 87 (.bin .leq (.l 86) (qn 3)) 83, qL 88 (.pick (.l 83) (.l 87) qo), qb 2 88])
 (.ret))))⟩
theorem ln_spec_MonitorValid : Linked Tryz.prog fn_spec_MonitorValid ac_spec_MonitorValid := ⟨Tryz.f63, _, Tryz.func63, rfl, by kernel_rfl, by kernel_rfl, by kernel_rfl, by kernel_rfl⟩
def ac_spec_l42Side : AF := ⟨[0, 1, 3, 4, 5, 6, 7, 8, 22, 37], [.t 4],
 .seq (.region [qG 3 (.box (.g 1)), qG 4 (.mv (qs []))])
 (.seq (.region [qG 5 (.mv (qs []))])
 (.seq (.region [qd 9 3 3, qf 10 1 9, qL 11 (.call fn_spec_l31Said [.l 10]), qb 6 11])
 (.seq (.region [qd 12 3 3, qf 13 1 12, qd 14 4 3, qf 15 1 14, qL 16 (.cutSl 7 (.l 13) none (some (.l 15))), qL 17 (.call fn_spec_l31Said [.l 16]), qL 18 (.len (.l 17)), qb 7 18])
 (.seq (.seq (.region [qG 8 (.mv (qn 0))])
 (.block 0 (.loop (.seq (.seq (.region [qa 19 8, qa 20 6, qL 21 (.len (.l 20)), qG 22 (.bin .lss (.l 19) (.l 21))])
 (.cond (.g 22) (.skip)
 (.exit 0)))
 (.seq (.block 1 (.seq (.region [qa 25 5, qa 26 0, qL 27 (.bin .add (.l 25) (.l 26)), qL 28 (.bin .add (.l 27) (qs [32])), qa 29 6, qa 30 8, qL 31 (.elS 4 (.l 29) (.l 30)), qh 32 4 31, qL 33 (.call fn_spec_l42Message [.l 32]), qL 34 (.bin .add (.l 28) (.l 33)), qb 5 34])
 (.seq (.seq (.region [qa 35 8, qa 36 7, qG 37 (.bin .lss (.l 35) (.l 36))])
 (.cond (.g 37) (.region [qa 38 5, qL 39 (.bin .add (.l 38) (qs [32, 111, 107])), qb 5 39])
 (.skip)))
 (.region [qa 40 5, qL 41 (.bin .add (.l 40) (qs [10])), qb 5 41]))))
 (.region [qa 23 8, qL 24 (.bin .add (.l 23) (qn 1)), qb 8 24]))))))
 (.seq (.region [qa 42 5, qb 4 42])
 (.ret))))))⟩
theorem ln_spec_l42Side : Linked Tryz.prog fn_spec_l42Side ac_spec_l42Side := ⟨Tryz.f64, _, Tryz.func64, rfl, by kernel_rfl, by kernel_rfl, by kernel_rfl, by kernel_rfl⟩
def ac_spec_l42Text : AF := ⟨[0, 2, 3, 4, 8], [.t 2],
 .seq (.region [qG 2 (.mv (qs []))])
 (.seq (.region [qG 3 (.mv (qs []))])
 (.seq (.seq (.region [qG 4 (.mv (qn 0))])
 (.block 0 (.loop (.seq (.seq (.region [qa 5 4, qa 6 0, qL 7 (.len (.l 6)), qG 8 (.bin .lss (.l 5) (.l 7))])
 (.cond (.g 8) (.skip)
 (.exit 0)))
 (.seq (.block 1 (.drawn [qa 11 3, qa 12 0, qa 13 4, qL 14 (.elS 2 (.l 12) (.l 13)), qe 15 0 14, qf 16 1 15, qL 17 (.call fn_spec_l6Dec [.l 16]), qL 18 (.bin .add (.l 11) (.l 17)), qL 19 (.bin .add (.l 18) (qs [32])), qa 20 0, qa 21 4, qL 22 (.elS 2 (.l 20) (.l 21)), qe 23 1 22, qf 24 1 23, qL 25 (.call fn_spec_l6Dec [.l 24])] [[], [], [], [], [], [], [], [], [], [], [], [6, 5, 3], [], [6, 5, 3], []] [qL 26 (.bin .add (.l 19) (.l 25)), qL 27 (.bin .add (.l 26) (qs [10])), qb 3 27]))
 (.region [qa 9 4, qL 10 (.bin .add (.l 9) (qn 1)), qb 4 10]))))))
 (.seq (.region [qa 28 3, qb 2 28])
 (.ret))))⟩
theorem ln_spec_l42Text : Linked Tryz.prog fn_spec_l42Text ac_spec_l42Text := ⟨Tryz.f65, _, Tryz.func65, rfl, by kernel_rfl, by kernel_rfl, by kernel_rfl, by kernel_rfl⟩
def ac_spec_l32Step : AF := ⟨[0, 1, 2, 4, 5, 6, 7, 8, 10, 11, 12, 13, 26, 65, 74, 89, 111], [.c 4 true 3],
 .seq (.region [qG 2 (.box (.g 0)), qG 4 (.alloc [.int .i64 0, .nils, .nils])])
 (.seq (.region [qg 14 3 2, qL 15 (.call fn_spec_l32Copy [.l 14]), qG 5 (.alloc [.int .i64 0, .nils, .nils]), qi 3 5 15])
 (.seq (.region [qd 16 0 2, qf 17 1 16, qL 18 (.bin .add (.l 17) (qn 1)), qd 19 0 5, qj 1 19 18])
 (.seq (.region [qa 21 1, qL 22 (.call fn_spec_PacketGet [.l 21]), qc 20 22, qL 23 (.extract (.l 20) 0), qL 24 (.extract (.l 20) 1), qG 6 (.alloc [.int .i64 0, .int .i64 0, .int .i64 0, .nils]), qi 4 6 23, qb 7 24])
 (.seq (.seq (.region [qa 25 7, qG 26 (.bin .neq (.l 25) (qn 0))])
 (.cond (.g 26) (.seq (.region [qg 27 3 5, qa 28 7, qL 29 (.bin .add (qn 101) (.l 28)), qL 30 (.bin .sub (.l 29) (qn 1)), qL 31 (.call fn_spec_l32Note [.l 27, .l 30]), qi 3 4 31])
 (.ret))
 (.skip)))
 (.seq (.region [qg 32 3 5, qd 33 0 6, qf 34 1 33, qd 35 1 6, qf 36 1 35, qL 37 (.call fn_spec_l32Find [.l 32, .l 34, .l 36]), qb 8 37])
 (.seq (.seq (.region [qa 38 8, qL 39 (.bin .geq (.l 38) (qn 0)), qc 40 39, qT 41 (.faddr 1 (.g 5)) 40, qT 42 (.load false 1 (.l 41)) 40, qT 43 (.mv (.g 8)) 40, qT 44 (.elS 14 (.l 42) (.l 43)) 40, qT 45 (.faddr 2 (.l 44)) 40, qT 46 (.load false 1 (.l 45)) 40, qT 47 (.bin .eql (.l 46) (qn 7)) 40, qL 48 (.pick (.l 40) (.l 47) qo), qc 49 48, qT 50 (.faddr 3 (.g 6)) 49, qT 51 (.load false 1 (.l 50)) 49, qT 52 (.elS 3 (.l 51) (qn 0)) 49, qT 53 (.faddr 0 (.l 52)) 49, qT 54 (.load false 1 (.l 53)) 49, qT 55 (.bin .eql (.l 54) (qn 1)) 49, qL 56 (.pick (.l 49) (.l 55) qo), qc 57 56, qT 58 (.load true 4 (.g 6)) 57, qT 59 (.call fn_spec_PacketAlone [.l 58]) 57, qL 60 (.pick (.l 57) (.l 59) qo), qc 61 60, qT 62 (.faddr 2 (.g 6)) 61, qT 63 (.load false 1 (.l 62)) 61, qT 64 (.bin .eql (.l 63) (qn 0)) 61, qG 65 (.pick (.l 61) (.l 64) qo)])
 (.cond (.g 65) (.seq (.region [qd 67 3 6, qf 68 1 67, qL 69 (.elS 3 (.l 68) (qn 0)), qh 70 3 69, qL 71 (.call fn_spec_InitGet [.l 70]), qc 66 71, qL 72 (.extract (.l 66) 0), qL 73 (.extract (.l 66) 1), qL 9 (.alloc [.int .i64 0, .int .i64 0, .int .i64 0, .int .i64 0]), qj 4 9 72, qb 10 73])
 (.seq (.region [qG 74 (.mv (.g 10))])
 (.cond (.g 74) (.seq (.drawn [qL 75 (.lits 14 []), qd 76 1 5, qf 77 1 76, qa 78 8, qL 79 (.cutSl 14 (.l 77) none (some (.l 78))), qL 80 (.append 14 144 (.l 75) (.l 79)), qd 81 1 5, qf 82 1 81, qa 83 8, qL 84 (.bin .add (.l 83) (qn 1)), qL 85 (.cutSl 14 (.l 82) (some (.l 84)) none)] [[], [], [0], [], [0], [], [], [5, 4, 2, 0], [], [], [5, 4, 2, 0]] [qL 86 (.append 14 144 (.l 80) (.l 85)), qd 87 1 5, qj 1 87 86])
 (.region [qG 8 (.mv (qn (-1)))]))
 (.skip))))
 (.skip)))
 (.seq (.seq (.region [qa 88 8, qG 89 (.bin .lss (.l 88) (qn 0))])
 (.cond (.g 89) (.seq (.region [qg 90 3 5, qg 91 4 6, qL 92 (.call fn_spec_l32Begin [.l 90, .l 91]), qi 3 4 92])
 (.ret))
 (.skip)))
 (.seq (.drawn [qd 94 1 5, qf 95 1 94, qa 96 8, qL 97 (.elS 14 (.l 95) (.l 96)), qh 98 14 97, qg 99 4 6, qL 100 (.call fn_spec_AssocStep [.l 98, .l 99]), qc 93 100, qL 101 (.extract (.l 93) 0), qL 102 (.extract (.l 93) 1), qG 11 (.alloc [.int .i64 0, .int .i64 0, .int .i64 0, .bool false, .int .i64 0, .int .i64 0, .int .i64 0, .nils, .int .i64 0, .int .i64 0, .int .i64 0, .int .i64 0, .nils, .int .i64 0]), qi 14 11 101] [[], [], [], [], [], [4, 3, 1], [], [], [], [], [6, 5, 4, 3, 1], []] [qb 12 102])
 (.seq (.region [qd 103 1 5, qf 104 1 103, qa 105 8, qg 106 14 11, qL 107 (.elS 14 (.l 104) (.l 105)), qj 14 107 106])
 (.seq (.seq (.region [qG 13 (.mv (qn 0))])
 (.block 0 (.loop (.seq (.seq (.region [qa 108 13, qa 109 12, qL 110 (.len (.l 109)), qG 111 (.bin .lss (.l 108) (.l 110))])
 (.cond (.g 111) (.skip)
 (.exit 0)))
 (.seq (.block 1 (.drawn [qg 114 3 5, qa 115 12, qa 116 13, qL 117 (.elS 1 (.l 115) (.l 116)), qf 118 1 117] [[], [], [], [0], [0]] [qL 119 (.call fn_spec_l32Note [.l 114, .l 118]), qi 3 5 119]))
 (.region [qa 112 13, qL 113 (.bin .add (.l 112) (qn 1)), qb 13 113]))))))
 (.seq (.region [qg 120 3 5, qi 3 4 120])
 (.ret))))))))))))⟩
theorem ln_spec_l32Step : Linked Tryz.prog fn_spec_l32Step ac_spec_l32Step := ⟨Tryz.f66, _, Tryz.func66, rfl, by kernel_rfl, by kernel_rfl, by kernel_rfl, by kernel_rfl⟩
def ac_impl_serialOk : AF := ⟨[0, 2], [.t 2],
 .seq (.region [qG 2 (.mv qo)])
 (.seq (.region [qa 3 0, qL 4 (.bin .geq (.l 3) (qn 0)), qc 5 4, qT 6 (.mv (.g 0)) 5, qT 7 (.bin .lss (.l 6) (qn 65536)) 5, qL 8 (.pick (.l 5) (.l 7) qo), qb 2 8])
 (.ret))⟩
theorem ln_impl_serialOk : Linked Tryz.prog fn_impl_serialOk ac_impl_serialOk := ⟨Tryz.f71, _, Tryz.func71, rfl, by kernel_rfl, by kernel_rfl, by kernel_rfl, by kernel_rfl⟩
def ac_impl_TalkPackets_1 : AF := ⟨[0, 1, 2, 3, 4, 6, 8, 17], [],
 .seq (.region [qG 6 (.box (.g 1))])
 (.seq (.region [qd 9 0 3, qf 10 1 9, qd 11 1 3, qf 12 1 11, qa 13 2, qg 14 3 6, qL 15 (.lits 3 [.l 14]), qL 16 (.build [.int .i64 0, .int .i64 0, .int .i64 0, .nils] [(0, 1, .l 10), (1, 1, .l 12), (2, 1, .l 13), (3, 1, .l 15)]), qG 8 (.alloc [.int .i64 0, .int .i64 0, .int .i64 0, .nils]), qi 4 8 16])
 (.seq (.seq (.region [qG 17 (.mv (.g 0))])
 (.cond (.g 17) (.drawn [qd 18 1 3, qf 19 1 18, qd 20 0 3, qf 21 1 20, qd 22 0 8, qj 1 22 19] [[], [], [], [1], [], [3]] [qd 23 1 8, qj 1 23 21])
 (.skip)))
 (.region [qL 24 (.load false 1 (.g 4)), qg 25 4 8, qL 26 (.lits 4 [.l 25]), qL 27 (.append 4 48 (.l 24) (.l 26)), qi 1 4 27])))⟩
theorem ln_impl_TalkPackets_1 : Linked Tryz.prog fn_impl_TalkPackets_1 ac_impl_TalkPackets_1 := ⟨Tryz.f72, _, Tryz.func72, rfl, by kernel_rfl, by kernel_rfl, by kernel_rfl, by kernel_rfl⟩
def ac_impl_TalkPackets_2 : AF := ⟨[0, 1, 2, 3, 5, 6], [],
 .seq (.region [qG 5 (.box (.g 1))])
 (.seq (.region [qG 6 (.mv (.g 0))])
 (.cond (.g 6) (.region [qL 7 (.load false 1 (.g 2)), qg 8 3 5, qd 9 2 3, qe 10 0 9, qf 11 1 10, qL 12 (.callv (.l 7) [qt, .l 8, .l 11])])
 (.region [qL 13 (.load false 1 (.g 2)), qg 14 3 5, qd 15 6 3, qe 16 0 15, qf 17 1 16, qL 18 (.callv (.l 13) [qo, .l 14, .l 17])])))⟩
theorem ln_impl_TalkPackets_2 : Linked Tryz.prog fn_impl_TalkPackets_2 ac_impl_TalkPackets_2 := ⟨Tryz.f73, _, Tryz.func73, rfl, by kernel_rfl, by kernel_rfl, by kernel_rfl, by kernel_rfl⟩
def ac_impl_InitPut : AF := ⟨[0, 1, 2, 4, 5, 6, 7, 11, 13], [.c 4 true 3, .t 5],
 .seq (.region [qG 2 (.box (.g 0)), qG 4 (.alloc [.int .i64 0, .int .i64 0, .str []]), qG 5 (.mv qo)])
 (.seq (.seq (.region [qg 9 4 2, qL 10 (.call fn_impl_initOk [.l 9]), qG 11 (.un .not (.l 10))])
 (.cond (.g 11) (.seq (.region [qL 12 (.build [.int .i64 0, .int .i64 0, .str []] []), qi 3 4 12, qG 5 (.mv qo)])
 (.ret))
 (.skip)))
 (.seq (.region [qG 6 (.mv (qn 1))])
 (.seq (.seq (.region [qG 13 (.mv (.g 1))])
 (.cond (.g 13) (.region [qG 6 (.mv (qn 2))])
 (.skip)))
 (.seq (.region [qd 15 0 2, qf 16 1 15, qL 17 (.call fn_impl_LongPut [.l 16]), qc 14 17, qL 18 (.extract (.l 14) 0), qL 19 (.extract (.l 14) 1), qb 7 18, qc 8 19])
 (.seq (.region [qa 20 6, qa 21 7, qd 22 1 2, qf 23 1 22, qd 24 2 2, qf 25 1 24, qd 26 3 2, qf 27 1 26, qL 28 (.lits 1 [.l 23, .l 25, .l 27]), qL 29 (.call fn_impl_words [.l 28]), qL 30 (.bin .add (.l 21) (.l 29)), qL 31 (.build [.int .i64 0, .int .i64 0, .str []] [(0, 1, .l 20), (2, 1, .l 30)]), qi 3 4 31, qG 5 (.mv qt)])
 (.ret))))))⟩
theorem ln_impl_InitPut : Linked Tryz.prog fn_impl_InitPut ac_impl_InitPut := ⟨Tryz.f74, _, Tryz.func74, rfl, by kernel_rfl, by kernel_rfl, by kernel_rfl, by kernel_rfl⟩
def ac_impl_partsOf : AF := ⟨[0, 1, 2, 3, 4, 5, 7, 8, 9, 10, 11, 12, 23, 24, 25, 26, 30, 33, 54], [.t 2],
 .seq (.region [qG 1 (.box (.g 0)), qG 2 (.mv (.c .nils))])
 (.seq (.region [qL 13 (.lits 1 []), qb 3 13])
 (.seq (.region [qd 14 2 1, qe 15 3 14, qf 16 1 15, qd 17 6 1, qe 18 3 17, qf 19 1 18, qL 20 (.build [.int .i64 0, .int .i64 0] [(0, 1, .l 16), (1, 1, .l 19)]), qG 4 (.alloc [.int .i64 0, .int .i64 0]), qi 2 4 20])
 (.seq (.region [qL 21 (.build [.int .i64 0, .int .i64 0, .int .i64 0, .int .i64 0, .int .i64 0, .int .i64 0, .int .i64 0, .int .i64 0] []), qG 5 (.alloc [.int .i64 0, .int .i64 0, .int .i64 0, .int .i64 0, .int .i64 0, .int .i64 0, .int .i64 0, .int .i64 0]), qi 8 5 21])
 (.seq (.seq (.region [qd 22 11 1, qG 23 (.load false 1 (.l 22)), qG 24 (.len (.g 23)), qG 25 (.mv (qn 0))])
 (.block 0 (.loop (.seq (.region [qG 26 (.bin .lss (.g 25) (.g 24))])
 (.seq (.cond (.g 26) (.skip)
 (.exit 0))
 (.seq (.block 1 (.seq (.region [qL 27 (.elS 4 (.g 23) (.g 25)), qh 28 4 27, qG 7 (.alloc [.bool false, .int .i64 0, .bool false, .str []]), qi 4 7 28])
 (.seq (.region [qG 8 (.mv (qn 0))])
 (.seq (.seq (.region [qd 29 0 7, qG 30 (.load false 1 (.l 29))])
 (.cond (.g 30) (.region [qG 8 (.mv (qn 1))])
 (.skip)))
 (.seq (.region [qG 9 (.mv (qn 0))])
 (.seq (.seq (.region [qd 31 2 7, qf 32 1 31, qG 33 (.un .not (.l 32))])
 (.cond (.g 33) (.seq (.drawn [qa 34 8, qd 35 1 7, qf 36 1 35, qL 37 (.elA 2 4 (.g 5) (.l 34))] [[], [], [], []] [qL 38 (.elA 4 1 (.l 37) (.l 36)), qf 39 1 38, qb 9 39])
 (.drawn [qa 40 8, qd 41 1 7, qf 42 1 41, qL 43 (.elA 2 4 (.g 5) (.l 40)), qL 44 (.elA 4 1 (.l 43) (.l 42)), qf 45 1 44, qL 46 (.bin .add (.l 45) (qn 1)), qL 47 (.elA 2 4 (.g 5) (.l 40))] [[], [], [], [], [], [], [], []] [qL 48 (.elA 4 1 (.l 47) (.l 42)), qj 1 48 46]))
 (.skip)))
 (.seq (.region [qL 49 (.lits 8 []), qb 10 49])
 (.seq (.seq (.region [qG 11 (.mv (qn 0))])
 (.block 2 (.loop (.seq (.seq (.region [qa 50 11, qd 51 3 7, qf 52 1 51, qL 53 (.lenStr (.l 52)), qG 54 (.bin .lss (.l 50) (.l 53))])
 (.cond (.g 54) (.skip)
 (.exit 2)))
 (.seq (.block 3 (.seq (.region [qa 59 11, qd 60 10 1, qf 61 1 60, qL 62 (.bin .add (.l 59) (.l 61)), qd 63 3 7, qf 64 1 63, qL 65 (.lenStr (.l 64)), qL 66 (.min (.l 62) (.l 65)), qb 12 66])
 (.seq (.drawn [qa 67 10, qd 68 0 7, qf 69 1 68, qa 70 8, qL 71 (.elA 2 1 (.g 4) (.l 70)), qf 72 1 71, qd 73 1 7, qf 74 1 73, qa 75 9, qa 76 11, qL 77 (.bin .eql (.l 76) (qn 0)), qa 78 12, qd 79 3 7, qf 80 1 79, qL 81 (.lenStr (.l 80)), qL 82 (.bin .eql (.l 78) (.l 81)), qd 83 2 7, qf 84 1 83, qd 85 3 7, qf 86 1 85, qa 87 11, qa 88 12, qL 89 (.cutStr (.l 86) (some (.l 87)) (some (.l 88))), qL 90 (.build [.int .i64 0, .int .i64 0, .int .i64 0, .bool false, .bool false, .bool false, .str []] [(0, 1, .l 72), (1, 1, .l 74), (2, 1, .l 75), (3, 1, .l 77), (4, 1, .l 82), (5, 1, .l 84), (6, 1, .l 89)]), qL 91 (.build [.bool false, .int .i64 0, .int .i64 0, .int .i64 0, .bool false, .bool false, .bool false, .str []] [(0, 1, .l 69), (1, 7, .l 90)]), qL 92 (.lits 8 [.l 91])] [[], [], [], [], [], [2], [], [5, 2], [], [], [], [], [], [7, 5, 2], [], [], [], [13, 7, 5, 2], [], [17, 13, 7, 5, 2], [], [], [], [], [], []] [qL 93 (.append 8 56 (.l 67) (.l 92)), qb 10 93])
 (.region [qa 94 8, qa 95 8, qL 96 (.elA 2 1 (.g 4) (.l 95)), qf 97 1 96, qL 98 (.call fn_impl_SerialAdd [.l 97, qn 1]), qL 99 (.elA 2 1 (.g 4) (.l 94)), qj 1 99 98]))))
 (.region [qa 55 11, qd 56 10 1, qf 57 1 56, qL 58 (.bin .add (.l 55) (.l 57)), qb 11 58]))))))
 (.region [qa 100 3, qa 101 10, qL 102 (.lits 1 [.l 101]), qL 103 (.append 1 24 (.l 100) (.l 102)), qb 3 103])))))))))
 (.region [qL 104 (.bin .add (.g 25) (qn 1)), qb 25 104])))))))
 (.seq (.region [qa 105 3, qb 2 105])
 (.ret))))))⟩
theorem ln_impl_partsOf : Linked Tryz.prog fn_impl_partsOf ac_impl_partsOf := ⟨Tryz.f75, _, Tryz.func75, rfl, by kernel_rfl, by kernel_rfl, by kernel_rfl, by kernel_rfl⟩
def ac_impl_DataPut : AF := ⟨[0, 1, 2, 3, 4, 7, 10, 14, 18], [.c 2 true 3, .t 3],
 .seq (.region [qG 1 (.box (.g 0)), qG 2 (.alloc [.int .i64 0, .int .i64 0, .str []]), qG 3 (.mv qo)])
 (.seq (.seq (.region [qg 5 7 1, qL 6 (.call fn_impl_dataOk [.l 5]), qG 7 (.un .not (.l 6))])
 (.cond (.g 7) (.seq (.region [qL 8 (.build [.int .i64 0, .int .i64 0, .str []] []), qi 3 2 8, qG 3 (.mv qo)])
 (.ret))
 (.skip)))
 (.seq (.region [qG 4 (.mv (qn 0))])
 (.seq (.seq (.region [qd 9 4 1, qG 10 (.load false 1 (.l 9))])
 (.cond (.g 10) (.region [qa 11 4, qL 12 (.bin .add (.l 11) (qn 1)), qb 4 12])
 (.skip)))
 (.seq (.seq (.region [qd 13 3 1, qG 14 (.load false 1 (.l 13))])
 (.cond (.g 14) (.region [qa 15 4, qL 16 (.bin .add (.l 15) (qn 2)), qb 4 16])
 (.skip)))
 (.seq (.seq (.region [qd 17 5 1, qG 18 (.load false 1 (.l 17))])
 (.cond (.g 18) (.region [qa 19 4, qL 20 (.bin .add (.l 19) (qn 4)), qb 4 20])
 (.skip)))
 (.seq (.drawn [qa 21 4, qd 22 0 1, qf 23 1 22, qd 24 1 1, qf 25 1 24, qd 26 2 1, qf 27 1 26, qL 28 (.lits 1 [.l 23, .l 25, .l 27]), qL 29 (.call fn_impl_words [.l 28]), qd 30 6 1, qf 31 1 30, qL 32 (.bin .add (.l 29) (.l 31))] [[], [], [], [], [2], [], [4, 2], [], [], [], [8, 7, 6, 4, 2], []] [qL 33 (.build [.int .i64 0, .int .i64 0, .str []] [(0, 1, qn 0), (1, 1, .l 21), (2, 1, .l 32)]), qi 3 2 33, qG 3 (.mv qt)])
 (.ret)))))))⟩
theorem ln_impl_DataPut : Linked Tryz.prog fn_impl_DataPut ac_impl_DataPut := ⟨Tryz.f76, _, Tryz.func76, rfl, by kernel_rfl, by kernel_rfl, by kernel_rfl, by kernel_rfl⟩
def ac_impl_SackPut : AF := ⟨[0, 1, 2, 3, 4, 6, 9, 16, 17, 18, 19], [.c 2 true 3, .t 3],
 .seq (.region [qG 1 (.box (.g 0)), qG 2 (.alloc [.int .i64 0, .int .i64 0, .str []]), qG 3 (.mv qo)])
 (.seq (.seq (.region [qg 7 2 1, qL 8 (.call fn_impl_sackOk [.l 7]), qG 9 (.un .not (.l 8))])
 (.cond (.g 9) (.seq (.region [qL 10 (.build [.int .i64 0, .int .i64 0, .str []] []), qi 3 2 10, qG 3 (.mv qo)])
 (.ret))
 (.skip)))
 (.seq (.region [qd 11 0 1, qf 12 1 11, qL 13 (.lits 1 [.l 12]), qL 14 (.call fn_impl_words [.l 13]), qb 4 14])
 (.seq (.seq (.region [qd 15 1 1, qG 16 (.load false 1 (.l 15)), qG 17 (.len (.g 16)), qG 18 (.mv (qn 0))])
 (.block 0 (.loop (.seq (.region [qG 19 (.bin .lss (.g 18) (.g 17))])
 (.seq (.cond (.g 19) (.skip)
 (.exit 0))
 (.seq (.block 1 (.seq (.region [qL 20 (.elS 2 (.g 16) (.g 18)), qh 21 2 20, qG 6 (.alloc [.int .i64 0, .int .i64 0]), qi 2 6 21])
 (.region [qa 22 4, qd 23 0 6, qf 24 1 23, qd 25 1 6, qf 26 1 25, qL 27 (.lits 1 [.l 24, .l 26]), qL 28 (.call fn_impl_words [.l 27]), qL 29 (.bin .add (.l 22) (.l 28)), qb 4 29])))
 (.region [qL 30 (.bin .add (.g 18) (qn 1)), qb 18 30])))))))
 (.seq (.region [qa 31 4, qL 32 (.build [.int .i64 0, .int .i64 0, .str []] [(0, 1, qn 3), (2, 1, .l 31)]), qi 3 2 32, qG 3 (.mv qt)])
 (.ret)))))⟩
theorem ln_impl_SackPut : Linked Tryz.prog fn_impl_SackPut ac_impl_SackPut := ⟨Tryz.f77, _, Tryz.func77, rfl, by kernel_rfl, by kernel_rfl, by kernel_rfl, by kernel_rfl⟩
def ac_impl_PacketValid : AF := ⟨[0, 1, 2, 4, 51, 53, 54, 55, 56, 61], [.t 2],
 .seq (.region [qG 1 (.box (.g 0)), qG 2 (.mv qo)])
 (.seq (.seq (.region [qd 5 0 1, qf 6 1 5, qL 7 (.bin .lss (.l 6) (qn 1)), qc 8 7, qF 9 (.faddr 0 (.g 1)) 8, qF 10 (.load false 1 (.l 9)) 8, qF 11 (.bin .gtr (.l 10) (qn 65535)) 8, qL 12 (.pick (.l 8) qt (.l 11)), qc 13 12, qF 14 (.faddr 1 (.g 1)) 13, qF 15 (.load false 1 (.l 14)) 13, qF 16 (.bin .lss (.l 15) (qn 1)) 13, qL 17 (.pick (.l 13) qt (.l 16)), qc 18 17, qF 19 (.faddr 1 (.g 1)) 18, qF 20 (.load false 1 (.l 19)) 18, qF 21 (.bin .gtr (.l 20) (qn 65535)) 18, qL 22 (.pick (.l 18) qt (.l 21)), qc 23 22, qF 24 (.faddr 0 (.g 1)) 23, qF 25 (.load false 1 (.l 24)) 23, qF 26 (.faddr 1 (.g 1)) 23, qF 27 (.load false 1 (.l 26)) 23, qF 28 (.bin .eql (.l 25) (.l 27)) 23, qL 29 (.pick (.l 23) qt (.l 28)), qc 30 29, qF 31 (.faddr 2 (.g 1)) 30, qF 32 (.load false 1 (.l 31)) 30, qF 33 (.bin .lss (.l 32) (qn 0)) 30, qL 34 (.pick (.l 30) qt (.l 33)), qc 35 34, qF 36 (.faddr 2 (.g 1)) 35, qF 37 (.load false 1 (.l 36)) 35, qF 38 (.bin .gtr (.l 37) (qn 4294967295)) 35, qL 39 (.pick (.l 35) qt (.l 38)), qc 40 39, qF 41 (.faddr 3 (.g 1)) 40, qF 42 (.load false 1 (.l 41)) 40, qF 43 (.len (.l 42)) 40, qF 44 (.bin .lss (.l 43) (qn 1)) 40, qL 45 (.pick (.l 40) qt (.l 44)), qc 46 45, qF 47 (.faddr 3 (.g 1)) 46, qF 48 (.load false 1 (.l 47)) 46, qF 49 (.len (.l 48)) 46, qF 50 (.bin .gtr (.l 49) (qn 4)) 46, qG 51 (.pick (.l 46) qt (.l 50))])
 (.cond (.g 51) (.seq (.region [qG 2 (.mv qo)])
 (.ret))
 (.skip)))
 (.seq (.seq (.region [qd 52 3 1, qG 53 (.load false 1 (.l 52)), qG 54 (.len (.g 53)), qG 55 (.mv (qn 0))])
 (.block 0 (.loop (.seq (.region [qG 56 (.bin .lss (.g 55) (.g 54))])
 (.seq (.cond (.g 56) (.skip)
 (.exit 0))
 (.seq (.block 1 (.seq (.region [qL 57 (.elS 3 (.g 53) (.g 55)), qh 58 3 57, qG 4 (.alloc [.int .i64 0, .int .i64 0, .str []]), qi 3 4 58])
 (.seq (.region [qg 59 3 4, qL 60 (.call fn_impl_ChunkValid [.l 59]), qG 61 (.un .not (.l 60))])
 (.cond (.g 61) (.seq (.region [qG 2 (.mv qo)])
 (.ret))
 (.skip)))))
 (.region [qL 62 (.bin .add (.g 55) (qn 1)), qb 55 62])))))))
 (.seq (.region [qG 2 (.mv qt)])
 (.ret))))⟩
theorem ln_impl_PacketValid : Linked Tryz.prog fn_impl_PacketValid ac_impl_PacketValid := ⟨Tryz.f78, _, Tryz.func78, rfl, by kernel_rfl, by kernel_rfl, by kernel_rfl, by kernel_rfl⟩
def ac_impl_LongPut : AF := ⟨[0, 2, 3, 9], [.t 2, .t 3],
 .seq (.region [qG 2 (.mv (qs [])), qG 3 (.mv qo)])
 (.seq (.seq (.region [qa 4 0, qL 5 (.bin .lss (.l 4) (qn 0)), qc 6 5, qF 7 (.mv (.g 0)) 6, qF 8 (.bin .gtr (.l 7) (qn 4294967295)) 6, qG 9 (.pick (.l 6) qt (.l 8))])
 (.cond (.g 9) (.seq (.region [qG 2 (.mv (qs [])), qG 3 (.mv qo)])
 (.ret))
 (.skip)))
 (.seq (.region [qa 10 0, qL 11 (.bin .shr (.l 10) (.c (.int .u64 24))), qL 12 (.conv .u8 (.l 11)), qa 13 0, qL 14 (.bin .shr (.l 13) (.c (.int .u64 16))), qL 15 (.conv .u8 (.l 14)), qa 16 0, qL 17 (.bin .shr (.l 16) (.c (.int .u64 8))), qL 18 (.conv .u8 (.l 17)), qa 19 0, qL 20 (.conv .u8 (.l 19)), qL 21 (.lits 1 [.l 12, .l 15, .l 18, .l 20]), qL 22 (.toStr (.l 21)), qb 2 22, qG 3 (.mv qt)])
 (.ret)))⟩
theorem ln_impl_LongPut : Linked Tryz.prog fn_impl_LongPut ac_impl_LongPut := ⟨Tryz.f79, _, Tryz.func79, rfl, by kernel_rfl, by kernel_rfl, by kernel_rfl, by kernel_rfl⟩
def ac_impl_words : AF := ⟨[0, 2, 3, 5, 6, 8, 9, 10, 11], [.t 2],
 .seq (.region [qG 2 (.mv (qs []))])
 (.seq (.region [qG 3 (.mv (qs []))])
 (.seq (.seq (.region [qG 8 (.mv (.g 0)), qG 9 (.len (.g 8)), qG 10 (.mv (qn 0))])
 (.block 0 (.loop (.seq (.region [qG 11 (.bin .lss (.g 10) (.g 9))])
 (.seq (.cond (.g 11) (.skip)
 (.exit 0))
 (.seq (.block 1 (.seq (.region [qL 12 (.elS 1 (.g 8) (.g 10)), qf 13 1 12, qb 5 13])
 (.seq (.region [qa 15 5, qL 16 (.call fn_impl_WordPut [.l 15]), qc 14 16, qL 17 (.extract (.l 14) 0), qL 18 (.extract (.l 14) 1), qb 6 17, qc 7 18])
 (.region [qa 19 3, qa 20 6, qL 21 (.bin .add (.l 19) (.l 20)), qb 3 21]))))
 (.region [qL 22 (.bin .add (.g 10) (qn 1)), qb 10 22])))))))
 (.seq (.region [qa 23 3, qb 2 23])
 (.ret))))⟩
theorem ln_impl_words : Linked Tryz.prog fn_impl_words ac_impl_words := ⟨Tryz.f80, _, Tryz.func80, rfl, by kernel_rfl, by kernel_rfl, by kernel_rfl, by kernel_rfl⟩
def ac_impl_ChunkPut : AF := ⟨[0, 1, 2, 3, 5, 8, 33], [.t 2],
 .seq (.region [qG 1 (.box (.g 0)), qG 2 (.mv (qs []))])
 (.seq (.seq (.region [qg 6 3 1, qL 7 (.call fn_impl_ChunkValid [.l 6]), qG 8 (.un .not (.l 7))])
 (.cond (.g 8) (.seq (.region [qG 2 (.mv (qs []))])
 (.ret))
 (.skip)))
 (.seq (.region [qd 10 2 1, qf 11 1 10, qL 12 (.lenStr (.l 11)), qL 13 (.bin .add (qn 4) (.l 12)), qL 14 (.call fn_impl_WordPut [.l 13]), qc 9 14, qL 15 (.extract (.l 9) 0), qL 16 (.extract (.l 9) 1), qb 3 15, qc 4 16])
 (.seq (.region [qd 17 0 1, qf 18 1 17, qL 19 (.conv .u8 (.l 18)), qd 20 1 1, qf 21 1 20, qL 22 (.conv .u8 (.l 21)), qL 23 (.lits 1 [.l 19, .l 22]), qL 24 (.toStr (.l 23)), qa 25 3, qL 26 (.bin .add (.l 24) (.l 25)), qd 27 2 1, qf 28 1 27, qL 29 (.bin .add (.l 26) (.l 28)), qb 5 29])
 (.seq (.block 0 (.loop (.seq (.seq (.region [qa 30 5, qL 31 (.lenStr (.l 30)), qL 32 (.bin .rem (.l 31) (qn 4)), qG 33 (.bin .neq (.l 32) (qn 0))])
 (.cond (.g 33) (.skip)
 (.exit 0)))
 (.block 1 (.region [qa 34 5, qL 35 (.bin .add (.l 34) (qs [0])), qb 5 35])))))
 (.seq (.region [qa 36 5, qb 2 36])
 (.ret))))))⟩
theorem ln_impl_ChunkPut : Linked Tryz.prog fn_impl_ChunkPut ac_impl_ChunkPut := ⟨Tryz.f81, _, Tryz.func81, rfl, by kernel_rfl, by kernel_rfl, by kernel_rfl, by kernel_rfl⟩
def ac_impl_SumText : AF := ⟨[0, 2], [.t 2],
 .seq (.region [qG 2 (.mv (qn 0))])
 (.seq (.region [qa 3 0, qL 4 (.call fn_impl_sumOn [qn 1, qn 0, .l 3]), qb 2 4])
 (.ret))⟩
theorem ln_impl_SumText : Linked Tryz.prog fn_impl_SumText ac_impl_SumText := ⟨Tryz.f82, _, Tryz.func82, rfl, by kernel_rfl, by kernel_rfl, by kernel_rfl, by kernel_rfl⟩
def ac_impl_AssocValid : AF := ⟨[0, 1, 2, 49, 72, 87], [.t 2],
 .seq (.region [qG 1 (.box (.g 0)), qG 2 (.mv qo)])
 (.seq (.seq (.region [qd 3 0 1, qf 4 1 3, qL 5 (.bin .lss (.l 4) (qn 1)), qc 6 5, qF 7 (.faddr 0 (.g 1)) 6, qF 8 (.load false 1 (.l 7)) 6, qF 9 (.bin .gtr (.l 8) (qn 65535)) 6, qL 10 (.pick (.l 6) qt (.l 9)), qc 11 10, qF 12 (.faddr 1 (.g 1)) 11, qF 13 (.load false 1 (.l 12)) 11, qF 14 (.bin .lss (.l 13) (qn 1)) 11, qL 15 (.pick (.l 11) qt (.l 14)), qc 16 15, qF 17 (.faddr 1 (.g 1)) 16, qF 18 (.load false 1 (.l 17)) 16, qF 19 (.bin .gtr (.l 18) (qn 65535)) 16, qL 20 (.pick (.l 16) qt (.l 19)), qc 21 20, qF 22 (.faddr 0 (.g 1)) 21, qF 23 (.load false 1 (.l 22)) 21, qF 24 (.faddr 1 (.g 1)) 21, qF 25 (.load false 1 (.l 24)) 21, qF 26 (.bin .eql (.l 23) (.l 25)) 21, qL 27 (.pick (.l 21) qt (.l 26)), qc 28 27, qF 29 (.faddr 2 (.g 1)) 28, qF 30 (.load false 1 (.l 29)) 28, qF 31 (.bin .lss (.l 30) (qn 0)) 28, qL 32 (.pick (.l 28) qt (.l 31)), qc 33 32, qF 34 (.faddr 2 (.g 1)) 33, qF 35 (.load false 1 (.l 34)) 33, qF 36 (.bin .gtr (.l 35) (qn 7)) 33, qL 37 (.pick (.l 33) qt (.l 36)), qc 38 37, qF 39 (.faddr 4 (.g 1)) 38, qF 40 (.load true 5 (.l 39)) 38, qF 41 (.call fn_impl_SideValid [.l 40]) 38, qF 42 (.un .not (.l 41)) 38, qL 43 (.pick (.l 38) qt (.l 42)), qc 44 43, qF 45 (.faddr 9 (.g 1)) 44, qF 46 (.load true 5 (.l 45)) 44, qF 47 (.call fn_impl_SideValid [.l 46]) 44, qF 48 (.un .not (.l 47)) 44, qG 49 (.pick (.l 44) qt (.l 48))])
 (.cond (.g 49) (.seq (.region [qG 2 (.mv qo)])
 (.ret))
 (.skip)))
 (.seq (.seq (.region [qd 50 4 1, qe 51 0 50, qf 52 1 51, qL 53 (.bin .gtr (.l 52) (qn 0)), qd 54 2 1, qf 55 1 54, qL 56 (.bin .geq (.l 55) (qn 1)), qL 57 (.beq true (.l 53) (.l 56)), qc 58 57, qF 59 (.faddr 2 (.g 1)) 58, qF 60 (.load false 1 (.l 59)) 58, qF 61 (.bin .neq (.l 60) (qn 7)) 58, qF 62 (.mv (.l 61)) 58, qT 63 (.faddr 9 (.g 1)) 62, qT 64 (.faddr 0 (.l 63)) 62, qT 65 (.load false 1 (.l 64)) 62, qT 66 (.bin .gtr (.l 65) (qn 0)) 62, qT 67 (.faddr 2 (.g 1)) 62, qT 68 (.load false 1 (.l 67)) 62, qT 69 (.bin .geq (.l 68) (qn 2)) 62, qT 70 (.beq true (.l 66) (.l 69)) 62, qF 71 (.pick (.l 62) (.l 70) qo) 58, qG 72 (.pick (.l 58) qt (.l 71))])
 (.cond (.g 72) (.seq (.region [qG 2 (.mv qo)])
 (.ret))
 (.skip)))
 (.seq (.seq (.region [qd 73 2 1, qf 74 1 73, qL 75 (.bin .lss (.l 74) (qn 3)), qc 76 75, qT 77 (.faddr 4 (.g 1)) 76, qT 78 (.faddr 3 (.l 77)) 76, qT 79 (.load false 1 (.l 78)) 76, qT 80 (.len (.l 79)) 76, qT 81 (.faddr 9 (.g 1)) 76, qT 82 (.faddr 3 (.l 81)) 76, qT 83 (.load false 1 (.l 82)) 76, qT 84 (.len (.l 83)) 76, qT 85 (.bin .add (.l 80) (.l 84)) 76, qT 86 (.bin .gtr (.l 85) (qn 0)) 76, qG 87 (.pick (.l 76) (.l 86) qo)])
 (.cond (.g 87) (.seq (.region [qG 2 (.mv qo)])
 (.ret))
 (.skip)))
 (.seq (.region [qd 88 3 1, qf 89 1 88, qL 90 (.un .not (.l 89)), qc 91 90, qF 92 (.faddr 2 (.g 1)) 91, qF 93 (.load false 1 (.l 92)) 91, qF 94 (.bin .geq (.l 93) (qn 5)) 91, qL 95 (.pick (.l 91) qt (.l 94)), qb 2 95])
 (.ret)))))⟩
theorem ln_impl_AssocValid : Linked Tryz.prog fn_impl_AssocValid ac_impl_AssocValid := ⟨Tryz.f83, _, Tryz.func83, rfl, by kernel_rfl, by kernel_rfl, by kernel_rfl, by kernel_rfl⟩
def ac_impl_samePorts : AF := ⟨[0, 1, 2, 3, 6], [.t 6],
 .seq (.region [qG 3 (.box (.g 0)), qG 6 (.mv qo)])
 (.seq (.region [qd 7 0 3, qf 8 1 7, qa 9 1, qL 10 (.bin .eql (.l 8) (.l 9)), qc 11 10, qT 12 (.faddr 1 (.g 3)) 11, qT 13 (.load false 1 (.l 12)) 11, qT 14 (.mv (.g 2)) 11, qT 15 (.bin .eql (.l 13) (.l 14)) 11, qL 16 (.pick (.l 11) (.l 15) qo), qc 17 16, qF 18 (.faddr 0 (.g 3)) 17, qF 19 (.load false 1 (.l 18)) 17, qF 20 (.mv (.g 2)) 17, qF 21 (.bin .eql (.l 19) (.l 20)) 17, qF 22 (.mv (.l 21)) 17, qT 23 (.faddr 1 (.g 3)) 22, qT 24 (.load false 1 (.l 23)) 22, qT 25 (.mv (.g 1)) 22, qT 26 (.bin .eql (.l 24) (.l 25)) 22, qF 27 (.pick (.l 22) (.l 26) qo) 17, qL 28 (.pick (.l 17) qt (.l 27)), qb 6 28])
 (.ret))⟩
theorem ln_impl_samePorts : Linked Tryz.prog fn_impl_samePorts ac_impl_samePorts := ⟨Tryz.f84, _, Tryz.func84, rfl, by kernel_rfl, by kernel_rfl, by kernel_rfl, by kernel_rfl⟩
def ac_impl_foundOk : AF := ⟨[0, 1, 4, 5, 6, 7, 8, 9, 10, 42, 77], [.t 4],
 .seq (.region [qG 4 (.mv qo)])
 (.seq (.seq (.region [qG 7 (.mv (.g 0)), qG 8 (.len (.g 7)), qG 9 (.mv (qn 0))])
 (.block 0 (.loop (.seq (.region [qG 10 (.bin .lss (.g 9) (.g 8))])
 (.seq (.cond (.g 10) (.skip)
 (.exit 0))
 (.seq (.block 1 (.seq (.region [qa 11 9, qL 12 (.elS 2 (.g 7) (.g 9)), qh 13 2 12, qG 6 (.alloc [.int .i64 0, .int .i64 0]), qb 5 11, qi 2 6 13])
 (.seq (.seq (.region [qd 14 0 6, qf 15 1 14, qL 16 (.bin .lss (.l 15) (qn 0)), qc 17 16, qF 18 (.faddr 0 (.g 6)) 17, qF 19 (.load false 1 (.l 18)) 17, qF 20 (.mv (.g 1)) 17, qF 21 (.bin .geq (.l 19) (.l 20)) 17, qL 22 (.pick (.l 17) qt (.l 21)), qc 23 22, qF 24 (.faddr 1 (.g 6)) 23, qF 25 (.load false 1 (.l 24)) 23, qF 26 (.bin .lss (.l 25) (qn 1)) 23, qF 27 (.mv (.l 26)) 23, qF 28 (.faddr 1 (.g 6)) 27, qF 29 (.load false 1 (.l 28)) 27, qF 30 (.bin .gtr (.l 29) (qn 11)) 27, qF 31 (.pick (.l 27) qt (.l 30)) 23, qF 32 (.mv (.l 31)) 23, qT 33 (.faddr 1 (.g 6)) 32, qT 34 (.load false 1 (.l 33)) 32, qT 35 (.bin .lss (.l 34) (qn 101)) 32, qT 36 (.mv (.l 35)) 32, qF 37 (.faddr 1 (.g 6)) 36, qF 38 (.load false 1 (.l 37)) 36, qF 39 (.bin .gtr (.l 38) (qn 105)) 36, qT 40 (.pick (.l 36) qt (.l 39)) 32, qF 41 (.pick (.l 32) (.l 40) qo) 23, qG 42 (.pick (.l 23) qt (.l 41))])
 (.cond (.g 42) (.seq (.region [qG 4 (.mv qo)])
 (.ret))
 (.skip)))
 (.seq (.drawn [qa 43 5, qL 44 (.bin .gtr (.l 43) (qn 0)), qc 45 44, qT 46 (.faddr 0 (.g 6)) 45, qT 47 (.load false 1 (.l 46)) 45, qT 48 (.mv (.g 0)) 45, qT 49 (.mv (.g 5)) 45, qT 50 (.bin .sub (.l 49) (qn 1)) 45, qT 51 (.elS 2 (.l 48) (.l 50)) 45, qT 52 (.faddr 0 (.l 51)) 45, qT 53 (.load false 1 (.l 52)) 45, qT 54 (.bin .lss (.l 47) (.l 53)) 45, qT 55 (.mv (.l 54)) 45, qF 56 (.faddr 0 (.g 6)) 55, qF 57 (.load false 1 (.l 56)) 55, qF 58 (.mv (.g 0)) 55, qF 59 (.mv (.g 5)) 55, qF 60 (.bin .sub (.l 59) (qn 1)) 55, qF 61 (.elS 2 (.l 58) (.l 60)) 55, qF 62 (.faddr 0 (.l 61)) 55, qF 63 (.load false 1 (.l 62)) 55, qF 64 (.bin .eql (.l 57) (.l 63)) 55, qF 65 (.mv (.l 64)) 55, qT 66 (.faddr 1 (.g 6)) 65, qT 67 (.load false 1 (.l 66)) 65, qT 68 (.mv (.g 0)) 65, qT 69 (.mv (.g 5)) 65, qT 70 (.bin .sub (.l 69) (qn 1)) 65, qT 71 (.elS 2 (.l 68) (.l 70)) 65, qT 72 (.faddr 1 (.l 71)) 65, qT 73 (.load false 1 (.l 72)) 65] [[], [], [], [], [], [], [], [], [4], [], [4], [], [], [], [], [], [], [], [14], [], [14], [], [], [], [], [], [], [], [24], [], [24]] [qT 74 (.bin .leq (.l 67) (.l 73)) 65, qF 75 (.pick (.l 65) (.l 74) qo) 55, qT 76 (.pick (.l 55) qt (.l 75)) 45, qG 77 (.pick (.l 45) (.l 76) qo)])
 (.cond (.g 77) (.seq (.region [qG 4 (.mv qo)])
 (.ret))
 (.skip))))))
 (.region [qL 78 (.bin .add (.g 9) (qn 1)), qb 9 78])))))))
 (.seq (.region [qG 4 (.mv qt)])
 (.ret)))⟩
theorem ln_impl_foundOk : Linked Tryz.prog fn_impl_foundOk ac_impl_foundOk := ⟨Tryz.f85, _, Tryz.func85, rfl, by kernel_rfl, by kernel_rfl, by kernel_rfl, by kernel_rfl⟩
-- NOT TAKEN strings_Builder_copyCheck: [builder.go:39: some 9, builder.go:39: some 10, builder.go:39: some 11, CODE]
def ac_impl_SideKnown : AF := ⟨[0, 1, 2, 5], [.t 2],
 .seq (.region [qG 1 (.box (.g 0)), qG 2 (.mv (.c .nils))])
 (.seq (.seq (.region [qg 3 5 1, qL 4 (.call fn_impl_SideValid [.l 3]), qG 5 (.un .not (.l 4))])
 (.cond (.g 5) (.seq (.region [qG 2 (.mv (.c .nils))])
 (.ret))
 (.skip)))
 (.seq (.region [qd 6 3 1, qf 7 1 6, qd 8 4 1, qf 9 1 8, qL 10 (.cutSl 7 (.l 7) none (some (.l 9))), qL 11 (.call fn_impl_saidIn [.l 10]), qb 2 11])
 (.ret)))⟩
theorem ln_impl_SideKnown : Linked Tryz.prog fn_impl_SideKnown ac_impl_SideKnown := ⟨Tryz.f87, _, Tryz.func87, rfl, by kernel_rfl, by kernel_rfl, by kernel_rfl, by kernel_rfl⟩
def ac_impl_SideSaid : AF := ⟨[0, 1, 2, 5], [.t 2],
 .seq (.region [qG 1 (.box (.g 0)), qG 2 (.mv (.c .nils))])
 (.seq (.seq (.region [qg 3 5 1, qL 4 (.call fn_impl_SideValid [.l 3]), qG 5 (.un .not (.l 4))])
 (.cond (.g 5) (.seq (.region [qG 2 (.mv (.c .nils))])
 (.ret))
 (.skip)))
 (.seq (.region [qd 6 3 1, qf 7 1 6, qL 8 (.call fn_impl_saidIn [.l 7]), qb 2 8])
 (.ret)))⟩
theorem ln_impl_SideSaid : Linked Tryz.prog fn_impl_SideSaid ac_impl_SideSaid := ⟨Tryz.f88, _, Tryz.func88, rfl, by kernel_rfl, by kernel_rfl, by kernel_rfl, by kernel_rfl⟩
def ac_impl_MessageText : AF := ⟨[0, 1, 2, 3, 13, 18], [.t 2],
 .seq (.region [qG 1 (.box (.g 0)), qG 2 (.mv (qs []))])
 (.seq (.seq (.region [qd 4 0 1, qf 5 1 4, qL 6 (.call fn_impl_serialOk [.l 5]), qL 7 (.un .not (.l 6)), qc 8 7, qF 9 (.faddr 1 (.g 1)) 8, qF 10 (.load false 1 (.l 9)) 8, qF 11 (.call fn_impl_serialOk [.l 10]) 8, qF 12 (.un .not (.l 11)) 8, qG 13 (.pick (.l 8) qt (.l 12))])
 (.cond (.g 13) (.seq (.region [qG 2 (.mv (qs []))])
 (.ret))
 (.skip)))
 (.seq (.region [qd 14 1 1, qf 15 1 14, qL 16 (.call fn_strconv_Itoa [.l 15]), qb 3 16])
 (.seq (.seq (.region [qd 17 2 1, qG 18 (.load false 1 (.l 17))])
 (.cond (.g 18) (.region [qG 3 (.mv (qs [45]))])
 (.skip)))
 (.seq (.drawn [qd 19 0 1, qf 20 1 19, qL 21 (.call fn_strconv_Itoa [.l 20]), qL 22 (.bin .add (.l 21) (qs [32])), qa 23 3, qL 24 (.bin .add (.l 22) (.l 23)), qL 25 (.bin .add (.l 24) (qs [32])), qd 26 3 1, qf 27 1 26, qL 28 (.call fn_impl_hexOf [.l 27])] [[], [], [], [], [], [], [], [], [2, 1], []] [qL 29 (.bin .add (.l 25) (.l 28)), qb 2 29])
 (.ret)))))⟩
theorem ln_impl_MessageText : Linked Tryz.prog fn_impl_MessageText ac_impl_MessageText := ⟨Tryz.f89, _, Tryz.func89, rfl, by kernel_rfl, by kernel_rfl, by kernel_rfl, by kernel_rfl⟩
def ac_impl_copyAssoc : AF := ⟨[0, 1, 2], [.c 2 true 14],
 .seq (.region [qG 1 (.box (.g 0)), qG 2 (.alloc [.int .i64 0, .int .i64 0, .int .i64 0, .bool false, .int .i64 0, .int .i64 0, .int .i64 0, .nils, .int .i64 0, .int .i64 0, .int .i64 0, .int .i64 0, .nils, .int .i64 0])])
 (.seq (.region [qL 3 (.lits 7 []), qd 4 4 1, qe 5 3 4, qf 6 1 5, qL 7 (.append 7 48 (.l 3) (.l 6)), qd 8 4 1, qe 9 3 8, qj 1 9 7])
 (.seq (.region [qL 10 (.lits 7 []), qd 11 9 1, qe 12 3 11, qf 13 1 12, qL 14 (.append 7 48 (.l 10) (.l 13)), qd 15 9 1, qe 16 3 15, qj 1 16 14])
 (.seq (.region [qg 17 14 1, qi 14 2 17])
 (.ret))))⟩
theorem ln_impl_copyAssoc : Linked Tryz.prog fn_impl_copyAssoc ac_impl_copyAssoc := ⟨Tryz.f90, _, Tryz.func90, rfl, by kernel_rfl, by kernel_rfl, by kernel_rfl, by kernel_rfl⟩
def ac_impl_PacketGet : AF := ⟨[0, 2, 3, 4, 6, 7, 8, 9, 10, 13, 28, 52, 61, 72], [.c 2 true 4, .t 3],
 .seq (.region [qG 2 (.alloc [.int .i64 0, .int .i64 0, .int .i64 0, .nils]), qG 3 (.mv (qn 0))])
 (.seq (.seq (.region [qa 11 0, qL 12 (.lenStr (.l 11)), qG 13 (.bin .lss (.l 12) (qn 12))])
 (.cond (.g 13) (.seq (.region [qL 14 (.build [.int .i64 0, .int .i64 0, .int .i64 0, .nils] []), qi 4 2 14, qG 3 (.mv (qn 1))])
 (.ret))
 (.skip)))
 (.seq (.region [qa 16 0, qL 17 (.call fn_impl_LongGet [.l 16, qn 8]), qc 15 17, qL 18 (.extract (.l 15) 0), qL 19 (.extract (.l 15) 1), qb 4 18, qc 5 19])
 (.seq (.seq (.drawn [qa 20 0, qL 21 (.cutStr (.l 20) none (some (qn 8))), qL 22 (.bin .add (.l 21) (qs [0, 0, 0, 0])), qa 23 0, qL 24 (.cutStr (.l 23) (some (qn 12)) none), qL 25 (.bin .add (.l 22) (.l 24)), qL 26 (.call fn_impl_SumText [.l 25]), qa 27 4] [[], [], [], [], [], [], [], []] [qG 28 (.bin .neq (.l 26) (.l 27))])
 (.cond (.g 28) (.seq (.region [qL 29 (.build [.int .i64 0, .int .i64 0, .int .i64 0, .nils] []), qi 4 2 29, qG 3 (.mv (qn 2))])
 (.ret))
 (.skip)))
 (.seq (.region [qL 30 (.build [.int .i64 0, .int .i64 0, .int .i64 0, .nils] []), qG 6 (.alloc [.int .i64 0, .int .i64 0, .int .i64 0, .nils]), qi 4 6 30])
 (.seq (.region [qa 32 0, qL 33 (.call fn_impl_WordGet [.l 32, qn 0]), qc 31 33, qL 34 (.extract (.l 31) 0), qL 35 (.extract (.l 31) 1), qd 36 0 6, qj 1 36 34])
 (.seq (.region [qa 38 0, qL 39 (.call fn_impl_WordGet [.l 38, qn 2]), qc 37 39, qL 40 (.extract (.l 37) 0), qL 41 (.extract (.l 37) 1), qd 42 1 6, qj 1 42 40])
 (.seq (.region [qa 44 0, qL 45 (.call fn_impl_LongGet [.l 44, qn 4]), qc 43 45, qL 46 (.extract (.l 43) 0), qL 47 (.extract (.l 43) 1), qd 48 2 6, qj 1 48 46])
 (.seq (.seq (.region [qG 7 (.mv (qn 12))])
 (.block 0 (.loop (.seq (.seq (.region [qa 49 7, qa 50 0, qL 51 (.lenStr (.l 50)), qG 52 (.bin .lss (.l 49) (.l 51))])
 (.cond (.g 52) (.skip)
 (.exit 0)))
 (.block 1 (.seq (.region [qa 54 0, qa 55 7, qL 56 (.call fn_impl_ChunkGet [.l 54, .l 55]), qc 53 56, qL 57 (.extract (.l 53) 0), qL 58 (.extract (.l 53) 1), qL 59 (.extract (.l 53) 2), qG 8 (.alloc [.int .i64 0, .int .i64 0, .str []]), qi 3 8 57, qb 9 58, qb 10 59])
 (.seq (.seq (.region [qa 60 10, qG 61 (.un .not (.l 60))])
 (.cond (.g 61) (.seq (.region [qL 62 (.build [.int .i64 0, .int .i64 0, .int .i64 0, .nils] []), qi 4 2 62, qG 3 (.mv (qn 3))])
 (.ret))
 (.skip)))
 (.seq (.region [qd 63 3 6, qf 64 1 63, qg 65 3 8, qL 66 (.lits 3 [.l 65]), qL 67 (.append 3 32 (.l 64) (.l 66)), qd 68 3 6, qj 1 68 67])
 (.region [qa 69 9, qb 7 69])))))))))
 (.seq (.seq (.region [qg 70 4 6, qL 71 (.call fn_impl_PacketValid [.l 70]), qG 72 (.un .not (.l 71))])
 (.cond (.g 72) (.seq (.region [qL 73 (.build [.int .i64 0, .int .i64 0, .int .i64 0, .nils] []), qi 4 2 73, qG 3 (.mv (qn 3))])
 (.ret))
 (.skip)))
 (.seq (.region [qg 74 4 6, qi 4 2 74, qG 3 (.mv (qn 0))])
 (.ret)))))))))))⟩
theorem ln_impl_PacketGet : Linked Tryz.prog fn_impl_PacketGet ac_impl_PacketGet := ⟨Tryz.f91, _, Tryz.func91, rfl, by kernel_rfl, by kernel_rfl, by kernel_rfl, by kernel_rfl⟩
def ac_impl_InitGet : AF := ⟨[0, 1, 2, 3, 4, 23, 56], [.c 2 true 4, .t 3],
 .seq (.region [qG 1 (.box (.g 0)), qG 2 (.alloc [.int .i64 0, .int .i64 0, .int .i64 0, .int .i64 0]), qG 3 (.mv qo)])
 (.seq (.seq (.region [qd 5 0 1, qf 6 1 5, qL 7 (.bin .neq (.l 6) (qn 1)), qc 8 7, qT 9 (.faddr 0 (.g 1)) 8, qT 10 (.load false 1 (.l 9)) 8, qT 11 (.bin .neq (.l 10) (qn 2)) 8, qL 12 (.pick (.l 8) (.l 11) qo), qc 13 12, qF 14 (.faddr 1 (.g 1)) 13, qF 15 (.load false 1 (.l 14)) 13, qF 16 (.bin .neq (.l 15) (qn 0)) 13, qL 17 (.pick (.l 13) qt (.l 16)), qc 18 17, qF 19 (.faddr 2 (.g 1)) 18, qF 20 (.load false 1 (.l 19)) 18, qF 21 (.lenStr (.l 20)) 18, qF 22 (.bin .neq (.l 21) (qn 10)) 18, qG 23 (.pick (.l 18) qt (.l 22))])
 (.cond (.g 23) (.seq (.region [qL 24 (.build [.int .i64 0, .int .i64 0, .int .i64 0, .int .i64 0] []), qi 4 2 24, qG 3 (.mv qo)])
 (.ret))
 (.skip)))
 (.seq (.region [qL 25 (.build [.int .i64 0, .int .i64 0, .int .i64 0, .int .i64 0] []), qG 4 (.alloc [.int .i64 0, .int .i64 0, .int .i64 0, .int .i64 0]), qi 4 4 25])
 (.seq (.region [qd 27 2 1, qf 28 1 27, qL 29 (.call fn_impl_LongGet [.l 28, qn 0]), qc 26 29, qL 30 (.extract (.l 26) 0), qL 31 (.extract (.l 26) 1), qd 32 0 4, qj 1 32 30])
 (.seq (.region [qd 34 2 1, qf 35 1 34, qL 36 (.call fn_impl_WordGet [.l 35, qn 4]), qc 33 36, qL 37 (.extract (.l 33) 0), qL 38 (.extract (.l 33) 1), qd 39 1 4, qj 1 39 37])
 (.seq (.region [qd 41 2 1, qf 42 1 41, qL 43 (.call fn_impl_WordGet [.l 42, qn 6]), qc 40 43, qL 44 (.extract (.l 40) 0), qL 45 (.extract (.l 40) 1), qd 46 2 4, qj 1 46 44])
 (.seq (.region [qd 48 2 1, qf 49 1 48, qL 50 (.call fn_impl_WordGet [.l 49, qn 8]), qc 47 50, qL 51 (.extract (.l 47) 0), qL 52 (.extract (.l 47) 1), qd 53 3 4, qj 1 53 51])
 (.seq (.seq (.region [qg 54 4 4, qL 55 (.call fn_impl_initOk [.l 54]), qG 56 (.un .not (.l 55))])
 (.cond (.g 56) (.seq (.region [qL 57 (.build [.int .i64 0, .int .i64 0, .int .i64 0, .int .i64 0] []), qi 4 2 57, qG 3 (.mv qo)])
 (.ret))
 (.skip)))
 (.seq (.region [qg 58 4 4, qi 4 2 58, qG 3 (.mv qt)])
 (.ret)))))))))⟩
theorem ln_impl_InitGet : Linked Tryz.prog fn_impl_InitGet ac_impl_InitGet := ⟨Tryz.f92, _, Tryz.func92, rfl, by kernel_rfl, by kernel_rfl, by kernel_rfl, by kernel_rfl⟩
def ac_impl_AssocStep : AF := ⟨[0, 1, 2, 3, 4, 5, 6, 7, 8, 10, 11, 13, 14, 15, 16, 17, 25, 54, 64, 69, 70, 71, 72, 77, 87, 88, 89, 90, 97, 102, 103, 104, 107, 115], [.c 4 true 14, .t 5],
 .seq (.region [qG 2 (.box (.g 0)), qG 3 (.box (.g 1)), qG 4 (.alloc [.int .i64 0, .int .i64 0, .int .i64 0, .bool false, .int .i64 0, .int .i64 0, .int .i64 0, .nils, .int .i64 0, .int .i64 0, .int .i64 0, .int .i64 0, .nils, .int .i64 0]), qG 5 (.mv (.c .nils))])
 (.seq (.seq (.region [qg 18 14 2, qL 19 (.call fn_impl_AssocValid [.l 18]), qL 20 (.un .not (.l 19)), qc 21 20, qF 22 (.load true 4 (.g 3)) 21, qF 23 (.call fn_impl_PacketValid [.l 22]) 21, qF 24 (.un .not (.l 23)) 21, qG 25 (.pick (.l 21) qt (.l 24))])
 (.cond (.g 25) (.seq (.region [qL 26 (.build [.int .i64 0, .int .i64 0, .int .i64 0, .bool false, .int .i64 0, .int .i64 0, .int .i64 0, .nils, .int .i64 0, .int .i64 0, .int .i64 0, .int .i64 0, .nils, .int .i64 0] []), qi 14 4 26, qG 5 (.mv (.c .nils))])
 (.ret))
 (.skip)))
 (.seq (.region [qd 27 0 3, qf 28 1 27, qd 29 1 2, qf 30 1 29, qL 31 (.bin .eql (.l 28) (.l 30)), qc 32 31, qT 33 (.faddr 1 (.g 3)) 32, qT 34 (.load false 1 (.l 33)) 32, qT 35 (.faddr 0 (.g 2)) 32, qT 36 (.load false 1 (.l 35)) 32, qT 37 (.bin .eql (.l 34) (.l 36)) 32, qL 38 (.pick (.l 32) (.l 37) qo), qb 6 38])
 (.seq (.seq (.region [qa 39 6, qL 40 (.un .not (.l 39)), qc 41 40, qT 42 (.faddr 0 (.g 3)) 41, qT 43 (.load false 1 (.l 42)) 41, qT 44 (.faddr 0 (.g 2)) 41, qT 45 (.load false 1 (.l 44)) 41, qT 46 (.bin .neq (.l 43) (.l 45)) 41, qT 47 (.mv (.l 46)) 41, qF 48 (.faddr 1 (.g 3)) 47, qF 49 (.load false 1 (.l 48)) 47, qF 50 (.faddr 1 (.g 2)) 47, qF 51 (.load false 1 (.l 50)) 47, qF 52 (.bin .neq (.l 49) (.l 51)) 47, qT 53 (.pick (.l 47) qt (.l 52)) 41, qG 54 (.pick (.l 41) (.l 53) qo)])
 (.cond (.g 54) (.seq (.region [qL 55 (.build [.int .i64 0, .int .i64 0, .int .i64 0, .bool false, .int .i64 0, .int .i64 0, .int .i64 0, .nils, .int .i64 0, .int .i64 0, .int .i64 0, .int .i64 0, .nils, .int .i64 0] []), qi 14 4 55, qG 5 (.mv (.c .nils))])
 (.ret))
 (.skip)))
 (.seq (.region [qL 56 (.build [.bool false, .bool false, .bool false, .bool false, .bool false, .bool false, .bool false, .bool false, .bool false, .bool false, .bool false, .bool false] []), qG 7 (.alloc [.bool false, .bool false, .bool false, .bool false, .bool false, .bool false, .bool false, .bool false, .bool false, .bool false, .bool false, .bool false]), qi 12 7 56])
 (.seq (.region [qg 57 4 3, qL 58 (.call fn_impl_PacketAlone [.l 57]), qL 59 (.un .not (.l 58)), qL 60 (.elA 12 1 (.g 7) (qn 1)), qj 1 60 59])
 (.seq (.region [qd 61 9 2, qe 62 0 61, qf 63 1 62, qb 8 63])
 (.seq (.seq (.region [qG 64 (.mv (.g 6))])
 (.cond (.g 64) (.region [qd 65 4 2, qe 66 0 65, qf 67 1 66, qb 8 67])
 (.skip)))
 (.seq (.seq (.region [qd 68 3 3, qG 69 (.load false 1 (.l 68)), qG 70 (.len (.g 69)), qG 71 (.mv (qn 0))])
 (.block 0 (.loop (.seq (.region [qG 72 (.bin .lss (.g 71) (.g 70))])
 (.seq (.cond (.g 72) (.skip)
 (.exit 0))
 (.seq (.block 1 (.seq (.region [qL 73 (.elS 3 (.g 69) (.g 71)), qh 74 3 73, qG 10 (.alloc [.int .i64 0, .int .i64 0, .str []]), qi 3 10 74])
 (.seq (.region [qd 75 0 10, qf 76 1 75, qG 77 (.bin .eql (.l 76) (qn 1))])
 (.cond (.g 77) (.region [qG 8 (.mv (qn 0))])
 (.skip)))))
 (.region [qL 78 (.bin .add (.g 71) (qn 1)), qb 71 78])))))))
 (.seq (.region [qd 79 2 3, qf 80 1 79, qa 81 8, qL 82 (.bin .neq (.l 80) (.l 81)), qL 83 (.elA 12 1 (.g 7) (qn 2)), qj 1 83 82])
 (.seq (.region [qg 84 14 2, qL 85 (.call fn_impl_copyAssoc [.l 84]), qG 11 (.alloc [.int .i64 0, .int .i64 0, .int .i64 0, .bool false, .int .i64 0, .int .i64 0, .int .i64 0, .nils, .int .i64 0, .int .i64 0, .int .i64 0, .int .i64 0, .nils, .int .i64 0]), qi 14 11 85])
 (.seq (.seq (.region [qd 86 3 3, qG 87 (.load false 1 (.l 86)), qG 88 (.len (.g 87)), qG 89 (.mv (qn 0))])
 (.block 2 (.loop (.seq (.region [qG 90 (.bin .lss (.g 89) (.g 88))])
 (.seq (.cond (.g 90) (.skip)
 (.exit 2))
 (.seq (.block 3 (.seq (.region [qL 91 (.elS 3 (.g 87) (.g 89)), qh 92 3 91, qG 13 (.alloc [.int .i64 0, .int .i64 0, .str []]), qi 3 13 92])
 (.seq (.region [qg 93 3 13, qa 94 6, qL 95 (.call fn_impl_Assoc_handle [.g 11, .l 93, .l 94]), qb 14 95])
 (.seq (.region [qa 96 14, qG 97 (.bin .neq (.l 96) (qn 0))])
 (.cond (.g 97) (.region [qa 98 14, qL 99 (.elA 12 1 (.g 7) (.l 98)), qN (.store 1 (.l 99) qt)])
 (.skip))))))
 (.region [qL 100 (.bin .add (.g 89) (qn 1)), qb 89 100])))))))
 (.seq (.region [qL 101 (.lits 1 []), qb 15 101])
 (.seq (.seq (.region [qG 102 (.load true 12 (.g 7)), qG 103 (.mv (qn 0))])
 (.block 4 (.loop (.seq (.region [qG 104 (.bin .lss (.g 103) (qn 12))])
 (.seq (.cond (.g 104) (.skip)
 (.exit 4))
 (.seq (.block 5 (.seq (.region [qa 105 103, qL 106 (.idxArr 12 false 1 (.g 102) (.g 103)), qb 16 105, qb 17 106])
 (.seq (.region [qG 107 (.mv (.g 17))])
 (.cond (.g 107) (.region [qa 108 15, qa 109 16, qL 110 (.lits 1 [.l 109]), qL 111 (.append 1 8 (.l 108) (.l 110)), qb 15 111])
 (.skip)))))
 (.region [qL 112 (.bin .add (.g 103) (qn 1)), qb 103 112])))))))
 (.seq (.seq (.region [qa 113 15, qL 114 (.len (.l 113)), qG 115 (.bin .gtr (.l 114) (qn 0))])
 (.cond (.g 115) (.seq (.region [qg 116 14 2, qL 117 (.call fn_impl_copyAssoc [.l 116]), qa 118 15, qi 14 4 117, qb 5 118])
 (.ret))
 (.skip)))
 (.seq (.region [qg 119 14 11, qi 14 4 119, qG 5 (.mv (.c .nils))])
 (.ret))))))))))))))))⟩
theorem ln_impl_AssocStep : Linked Tryz.prog fn_impl_AssocStep ac_impl_AssocStep := ⟨Tryz.f93, _, Tryz.func93, rfl, by kernel_rfl, by kernel_rfl, by kernel_rfl, by kernel_rfl⟩
end Go.Proofs.YtjkbbdmkgealfaaGreatDoor
