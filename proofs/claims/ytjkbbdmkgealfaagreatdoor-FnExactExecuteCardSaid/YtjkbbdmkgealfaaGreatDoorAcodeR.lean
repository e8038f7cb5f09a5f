/-
  The abstract code of the program's functions, continued: written by a program, and compared by the kernel.
-/
import Derived.Test.YtjkbbdmkgealfaaGreatDoorAcodeP
namespace Go.Proofs.YtjkbbdmkgealfaaGreatDoor
set_option maxRecDepth 100000
set_option linter.all false
def ac_spec_l12Init : AF := ⟨[0, 1, 2], [.t 2],
 .seq (.region [qG 1 (.box (.g 0)), qG 2 (.mv qo)])
 (.seq (.region [qd 3 0 1, qf 4 1 3, qL 5 (.call fn_spec_l6In [.l 4, qn 1, qn 4294967295]), qc 6 5, qT 7 (.faddr 1 (.g 1)) 6, qT 8 (.load false 1 (.l 7)) 6, qT 9 (.call fn_spec_l6In [.l 8, qn 0, qn 65535]) 6, qL 10 (.pick (.l 6) (.l 9) qo), qc 11 10, qT 12 (.faddr 2 (.g 1)) 11, qT 13 (.load false 1 (.l 12)) 11, qT 14 (.call fn_spec_l6In [.l 13, qn 1, qn 4]) 11, qL 15 (.pick (.l 11) (.l 14) qo), qc 16 15, qT 17 (.faddr 3 (.g 1)) 16, qT 18 (.load false 1 (.l 17)) 16, qT 19 (.call fn_spec_l3Ok [.l 18]) 16, qL 20 (.pick (.l 16) (.l 19) qo), qb 2 20])
 (.ret))⟩
theorem ln_spec_l12Init : Linked Tryz.prog fn_spec_l12Init ac_spec_l12Init := ⟨Tryz.f98, _, Tryz.func98, rfl, by kernel_rfl, by kernel_rfl, by kernel_rfl, by kernel_rfl⟩
def ac_spec_l41Many : AF := ⟨[0, 1, 4], [.t 4],
 .seq (.region [qG 4 (.mv (qn 0))])
 (.seq (.region [qa 5 0, qL 6 (.lenStr (.l 5)), qa 7 1, qL 8 (.bin .add (.l 6) (.l 7)), qL 9 (.bin .sub (.l 8) (qn 1)), qa 10 1, qL 11 (.bin .quo (.l 9) (.l 10)), qb 4 11])
 (.ret))⟩
theorem ln_spec_l41Many : Linked Tryz.prog fn_spec_l41Many ac_spec_l41Many := ⟨Tryz.f99, _, Tryz.func99, rfl, by kernel_rfl, by kernel_rfl, by kernel_rfl, by kernel_rfl⟩
def ac_spec_l41Hello : AF := ⟨[0, 1, 2, 3, 5, 7], [.t 2],
 .seq (.region [qG 1 (.box (.g 0)), qG 2 (.mv (.c .nils))])
 (.seq (.region [qd 9 2 1, qh 10 4 9, qL 11 (.call fn_spec_InitPut [.l 10, qo]), qc 8 11, qL 12 (.extract (.l 8) 0), qL 13 (.extract (.l 8) 1), qG 3 (.alloc [.int .i64 0, .int .i64 0, .str []]), qi 3 3 12, qc 4 13])
 (.seq (.region [qd 15 6 1, qh 16 4 15, qL 17 (.call fn_spec_InitPut [.l 16, qt]), qc 14 17, qL 18 (.extract (.l 14) 0), qL 19 (.extract (.l 14) 1), qG 5 (.alloc [.int .i64 0, .int .i64 0, .str []]), qi 3 5 18, qc 6 19])
 (.seq (.region [qg 20 12 1, qg 21 3 3, qL 22 (.lits 3 [.l 21]), qL 23 (.call fn_spec_l41Packet [.l 20, qo, .l 22]), qG 7 (.alloc [.int .i64 0, .int .i64 0, .int .i64 0, .nils]), qi 4 7 23])
 (.seq (.region [qd 24 2 7, qN (.store 1 (.l 24) (qn 0))])
 (.seq (.drawn [qg 25 4 7, qg 26 12 1, qg 27 3 5, qL 28 (.lits 3 [.l 27]), qL 29 (.call fn_spec_l41Packet [.l 26, qt, .l 28]), qg 30 12 1, qL 31 (.call fn_spec_l41One [.l 30, qo, qn 10]), qg 32 12 1, qL 33 (.call fn_spec_l41One [.l 32, qt, qn 11])] [[], [0], [1, 0], [1, 0], [0], [4, 3, 2, 1, 0], [0], [6, 5, 4, 3, 2, 1, 0], [0]] [qL 34 (.lits 4 [.l 25, .l 29, .l 31, .l 33]), qb 2 34])
 (.ret))))))⟩
theorem ln_spec_l41Hello : Linked Tryz.prog fn_spec_l41Hello ac_spec_l41Hello := ⟨Tryz.f100, _, Tryz.func100, rfl, by kernel_rfl, by kernel_rfl, by kernel_rfl, by kernel_rfl⟩
def ac_spec_l41Parts : AF := ⟨[0, 1, 2, 4, 5, 6, 7, 8, 9, 10, 11, 12, 16, 25, 35, 50], [.t 4],
 .seq (.region [qG 2 (.box (.g 0)), qG 4 (.mv (.c .nils))])
 (.seq (.region [qd 13 2 2, qe 14 3 13, qf 15 1 14, qb 5 15])
 (.seq (.seq (.region [qG 16 (.mv (.g 1))])
 (.cond (.g 16) (.region [qd 17 6 2, qe 18 3 17, qf 19 1 18, qb 5 19])
 (.skip)))
 (.seq (.region [qL 20 (.lits 7 []), qb 6 20])
 (.seq (.seq (.region [qG 7 (.mv (qn 0))])
 (.block 0 (.loop (.seq (.seq (.region [qa 21 7, qd 22 11 2, qf 23 1 22, qL 24 (.len (.l 23)), qG 25 (.bin .lss (.l 21) (.l 24))])
 (.cond (.g 25) (.skip)
 (.exit 0)))
 (.seq (.block 1 (.seq (.region [qd 28 11 2, qf 29 1 28, qa 30 7, qL 31 (.elS 4 (.l 29) (.l 30)), qh 32 4 31, qG 8 (.alloc [.bool false, .int .i64 0, .bool false, .str []]), qi 4 8 32])
 (.seq (.region [qG 9 (.mv (qn 0))])
 (.seq (.seq (.region [qd 33 2 8, qf 34 1 33, qG 35 (.un .not (.l 34))])
 (.cond (.g 35) (.region [qa 36 6, qd 37 1 8, qf 38 1 37, qL 39 (.call fn_spec_l31Ssn [.l 36, .l 38]), qb 9 39])
 (.skip)))
 (.seq (.region [qG 10 (.mv (qn 0))])
 (.block 2 (.loop (.seq (.seq (.region [qa 40 10, qd 41 3 8, qf 42 1 41, qL 43 (.lenStr (.l 42)), qL 44 (.bin .lss (.l 40) (.l 43)), qc 45 44, qT 46 (.faddr 0 (.g 8)) 45, qT 47 (.load false 1 (.l 46)) 45, qT 48 (.mv (.g 1)) 45, qT 49 (.beq false (.l 47) (.l 48)) 45, qG 50 (.pick (.l 45) (.l 49) qo)])
 (.cond (.g 50) (.skip)
 (.exit 2)))
 (.seq (.block 3 (.seq (.region [qa 55 10, qd 56 10 2, qf 57 1 56, qL 58 (.bin .add (.l 55) (.l 57)), qd 59 3 8, qf 60 1 59, qL 61 (.lenStr (.l 60)), qL 62 (.min (.l 58) (.l 61)), qb 11 62])
 (.seq (.drawn [qa 63 5, qa 64 6, qL 65 (.len (.l 64)), qL 66 (.call fn_spec_l3Add [.l 63, .l 65]), qd 67 1 8, qf 68 1 67, qa 69 9, qd 70 2 8, qf 71 1 70, qd 72 3 8, qf 73 1 72, qa 74 10, qa 75 11, qL 76 (.cutStr (.l 73) (some (.l 74)) (some (.l 75))), qL 77 (.build [.int .i64 0, .int .i64 0, .int .i64 0, .bool false, .bool false, .bool false, .str []] [(0, 1, .l 66), (1, 1, .l 68), (2, 1, .l 69), (5, 1, .l 71), (6, 1, .l 76)]), qG 12 (.alloc [.int .i64 0, .int .i64 0, .int .i64 0, .bool false, .bool false, .bool false, .str []])] [[], [], [], [], [], [3, 2], [], [], [5, 3, 2], [], [8, 5, 3, 2], [], [], [], [], [10, 8, 5, 3, 2]] [qi 7 12 77])
 (.seq (.region [qa 78 10, qL 79 (.bin .eql (.l 78) (qn 0)), qd 80 3 12, qj 1 80 79])
 (.seq (.region [qa 81 11, qd 82 3 8, qf 83 1 82, qL 84 (.lenStr (.l 83)), qL 85 (.bin .eql (.l 81) (.l 84)), qd 86 4 12, qj 1 86 85])
 (.region [qa 87 6, qg 88 7 12, qL 89 (.lits 7 [.l 88]), qL 90 (.append 7 48 (.l 87) (.l 89)), qb 6 90]))))))
 (.region [qa 51 10, qd 52 10 2, qf 53 1 52, qL 54 (.bin .add (.l 51) (.l 53)), qb 10 54]))))))))))
 (.region [qa 26 7, qL 27 (.bin .add (.l 26) (qn 1)), qb 7 27]))))))
 (.seq (.region [qa 91 6, qb 4 91])
 (.ret))))))⟩
theorem ln_spec_l41Parts : Linked Tryz.prog fn_spec_l41Parts ac_spec_l41Parts := ⟨Tryz.f101, _, Tryz.func101, rfl, by kernel_rfl, by kernel_rfl, by kernel_rfl, by kernel_rfl⟩
def ac_spec_DataPut : AF := ⟨[0, 1, 2, 3, 4, 7], [.c 2 true 3, .t 3],
 .seq (.region [qG 1 (.box (.g 0)), qG 2 (.alloc [.int .i64 0, .int .i64 0, .str []]), qG 3 (.mv qo)])
 (.seq (.seq (.region [qg 5 7 1, qL 6 (.call fn_spec_l12Data [.l 5]), qG 7 (.un .not (.l 6))])
 (.cond (.g 7) (.seq (.region [qL 8 (.build [.int .i64 0, .int .i64 0, .str []] []), qi 3 2 8, qG 3 (.mv qo)])
 (.ret))
 (.skip)))
 (.seq (.drawn [qd 9 4 1, qf 10 1 9, qL 11 (.call fn_spec_l12Bit [.l 10, qn 1]), qd 12 3 1, qf 13 1 12, qL 14 (.call fn_spec_l12Bit [.l 13, qn 2]), qL 15 (.bin .add (.l 11) (.l 14)), qd 16 5 1, qf 17 1 16, qL 18 (.call fn_spec_l12Bit [.l 17, qn 4])] [[], [], [], [], [2, 1], [], [], [], [5, 4, 2, 1], []] [qL 19 (.bin .add (.l 15) (.l 18)), qb 4 19])
 (.seq (.drawn [qa 20 4, qd 21 0 1, qf 22 1 21, qL 23 (.call fn_spec_l1Word [.l 22]), qd 24 1 1, qf 25 1 24, qL 26 (.call fn_spec_l1Word [.l 25]), qL 27 (.bin .add (.l 23) (.l 26)), qd 28 2 1, qf 29 1 28, qL 30 (.call fn_spec_l1Word [.l 29]), qL 31 (.bin .add (.l 27) (.l 30)), qd 32 6 1, qf 33 1 32, qL 34 (.bin .add (.l 31) (.l 33))] [[], [], [], [], [], [3, 2], [], [], [], [6, 5, 3, 2], [], [], [], [10, 9, 6, 5, 3, 2], []] [qL 35 (.build [.int .i64 0, .int .i64 0, .str []] [(0, 1, qn 0), (1, 1, .l 20), (2, 1, .l 34)]), qi 3 2 35, qG 3 (.mv qt)])
 (.ret))))⟩
theorem ln_spec_DataPut : Linked Tryz.prog fn_spec_DataPut ac_spec_DataPut := ⟨Tryz.f102, _, Tryz.func102, rfl, by kernel_rfl, by kernel_rfl, by kernel_rfl, by kernel_rfl⟩
def ac_spec_SackPut : AF := ⟨[0, 1, 2, 3, 4, 5, 8, 17], [.c 2 true 3, .t 3],
 .seq (.region [qG 1 (.box (.g 0)), qG 2 (.alloc [.int .i64 0, .int .i64 0, .str []]), qG 3 (.mv qo)])
 (.seq (.seq (.region [qg 6 2 1, qL 7 (.call fn_spec_l12Sack [.l 6]), qG 8 (.un .not (.l 7))])
 (.cond (.g 8) (.seq (.region [qL 9 (.build [.int .i64 0, .int .i64 0, .str []] []), qi 3 2 9, qG 3 (.mv qo)])
 (.ret))
 (.skip)))
 (.seq (.region [qd 10 0 1, qf 11 1 10, qL 12 (.call fn_spec_l1Word [.l 11]), qb 4 12])
 (.seq (.seq (.region [qG 5 (.mv (qn 0))])
 (.block 0 (.loop (.seq (.seq (.region [qa 13 5, qd 14 1 1, qf 15 1 14, qL 16 (.len (.l 15)), qG 17 (.bin .lss (.l 13) (.l 16))])
 (.cond (.g 17) (.skip)
 (.exit 0)))
 (.seq (.block 1 (.drawn [qa 20 4, qd 21 1 1, qf 22 1 21, qa 23 5, qL 24 (.elS 2 (.l 22) (.l 23)), qe 25 0 24, qf 26 1 25, qL 27 (.call fn_spec_l1Word [.l 26]), qL 28 (.bin .add (.l 20) (.l 27)), qd 29 1 1, qf 30 1 29, qa 31 5, qL 32 (.elS 2 (.l 30) (.l 31)), qe 33 1 32, qf 34 1 33, qL 35 (.call fn_spec_l1Word [.l 34])] [[], [], [], [], [], [], [], [], [], [], [7, 6, 4, 2], [], [7, 6, 4, 2], [], [7, 6, 4, 2], []] [qL 36 (.bin .add (.l 28) (.l 35)), qb 4 36]))
 (.region [qa 18 5, qL 19 (.bin .add (.l 18) (qn 1)), qb 5 19]))))))
 (.seq (.region [qa 37 4, qL 38 (.build [.int .i64 0, .int .i64 0, .str []] [(0, 1, qn 3), (2, 1, .l 37)]), qi 3 2 38, qG 3 (.mv qt)])
 (.ret)))))⟩
theorem ln_spec_SackPut : Linked Tryz.prog fn_spec_SackPut ac_spec_SackPut := ⟨Tryz.f103, _, Tryz.func103, rfl, by kernel_rfl, by kernel_rfl, by kernel_rfl, by kernel_rfl⟩
def ac_spec_l41Packet : AF := ⟨[0, 1, 2, 3, 6, 7], [.c 6 true 4],
 .seq (.region [qG 3 (.box (.g 0)), qG 6 (.alloc [.int .i64 0, .int .i64 0, .int .i64 0, .nils])])
 (.seq (.seq (.region [qG 7 (.mv (.g 1))])
 (.cond (.g 7) (.seq (.region [qd 8 1 3, qf 9 1 8, qd 10 0 3, qf 11 1 10, qd 12 2 3, qe 13 0 12, qf 14 1 13, qa 15 2, qL 16 (.build [.int .i64 0, .int .i64 0, .int .i64 0, .nils] [(0, 1, .l 9), (1, 1, .l 11), (2, 1, .l 14), (3, 1, .l 15)]), qi 4 6 16])
 (.ret))
 (.skip)))
 (.seq (.region [qd 17 0 3, qf 18 1 17, qd 19 1 3, qf 20 1 19, qd 21 6 3, qe 22 0 21, qf 23 1 22, qa 24 2, qL 25 (.build [.int .i64 0, .int .i64 0, .int .i64 0, .nils] [(0, 1, .l 18), (1, 1, .l 20), (2, 1, .l 23), (3, 1, .l 24)]), qi 4 6 25])
 (.ret)))⟩
theorem ln_spec_l41Packet : Linked Tryz.prog fn_spec_l41Packet ac_spec_l41Packet := ⟨Tryz.f104, _, Tryz.func104, rfl, by kernel_rfl, by kernel_rfl, by kernel_rfl, by kernel_rfl⟩
def ac_spec_l41One : AF := ⟨[0, 1, 2, 3, 6], [.c 6 true 4],
 .seq (.region [qG 3 (.box (.g 0)), qG 6 (.alloc [.int .i64 0, .int .i64 0, .int .i64 0, .nils])])
 (.seq (.region [qg 7 12 3, qa 8 1, qa 9 2, qL 10 (.build [.int .i64 0, .int .i64 0, .str []] [(0, 1, .l 9)]), qL 11 (.lits 3 [.l 10]), qL 12 (.call fn_spec_l41Packet [.l 7, .l 8, .l 11]), qi 4 6 12])
 (.ret))⟩
theorem ln_spec_l41One : Linked Tryz.prog fn_spec_l41One ac_spec_l41One := ⟨Tryz.f105, _, Tryz.func105, rfl, by kernel_rfl, by kernel_rfl, by kernel_rfl, by kernel_rfl⟩
def ac_spec_PacketValid : AF := ⟨[0, 1, 2, 3, 8, 17], [.t 2],
 .seq (.region [qG 1 (.box (.g 0)), qG 2 (.mv qo)])
 (.seq (.seq (.region [qG 3 (.mv (qn 0))])
 (.block 0 (.loop (.seq (.seq (.region [qa 4 3, qd 5 3 1, qf 6 1 5, qL 7 (.len (.l 6)), qG 8 (.bin .lss (.l 4) (.l 7))])
 (.cond (.g 8) (.skip)
 (.exit 0)))
 (.seq (.block 1 (.seq (.region [qd 11 3 1, qf 12 1 11, qa 13 3, qL 14 (.elS 3 (.l 12) (.l 13)), qh 15 3 14, qL 16 (.call fn_spec_ChunkValid [.l 15]), qG 17 (.un .not (.l 16))])
 (.cond (.g 17) (.seq (.region [qG 2 (.mv qo)])
 (.ret))
 (.skip))))
 (.region [qa 9 3, qL 10 (.bin .add (.l 9) (qn 1)), qb 3 10]))))))
 (.seq (.region [qd 18 0 1, qf 19 1 18, qL 20 (.call fn_spec_l6In [.l 19, qn 1, qn 65535]), qc 21 20, qT 22 (.faddr 1 (.g 1)) 21, qT 23 (.load false 1 (.l 22)) 21, qT 24 (.call fn_spec_l6In [.l 23, qn 1, qn 65535]) 21, qL 25 (.pick (.l 21) (.l 24) qo), qc 26 25, qT 27 (.faddr 0 (.g 1)) 26, qT 28 (.load false 1 (.l 27)) 26, qT 29 (.faddr 1 (.g 1)) 26, qT 30 (.load false 1 (.l 29)) 26, qT 31 (.bin .neq (.l 28) (.l 30)) 26, qL 32 (.pick (.l 26) (.l 31) qo), qc 33 32, qT 34 (.faddr 2 (.g 1)) 33, qT 35 (.load false 1 (.l 34)) 33, qT 36 (.call fn_spec_l6In [.l 35, qn 0, qn 4294967295]) 33, qL 37 (.pick (.l 33) (.l 36) qo), qc 38 37, qT 39 (.faddr 3 (.g 1)) 38, qT 40 (.load false 1 (.l 39)) 38, qT 41 (.len (.l 40)) 38, qT 42 (.call fn_spec_l6In [.l 41, qn 1, qn 4]) 38, qL 43 (.pick (.l 38) (.l 42) qo), qb 2 43])
 (.ret)))⟩
theorem ln_spec_PacketValid : Linked Tryz.prog fn_spec_PacketValid ac_spec_PacketValid := ⟨Tryz.f106, _, Tryz.func106, rfl, by kernel_rfl, by kernel_rfl, by kernel_rfl, by kernel_rfl⟩
def ac_spec_l13Put : AF := ⟨[0, 1, 2, 3, 4, 21], [.t 2],
 .seq (.region [qG 1 (.box (.g 0)), qG 2 (.mv (qs []))])
 (.seq (.drawn [qd 5 0 1, qf 6 1 5, qL 7 (.call fn_spec_l1Word [.l 6]), qd 8 1 1, qf 9 1 8, qL 10 (.call fn_spec_l1Word [.l 9]), qL 11 (.bin .add (.l 7) (.l 10)), qd 12 2 1, qf 13 1 12, qL 14 (.call fn_spec_l1Long [.l 13])] [[], [], [], [], [2, 1], [], [], [], [5, 4, 2, 1], []] [qL 15 (.bin .add (.l 11) (.l 14)), qL 16 (.bin .add (.l 15) (qs [0, 0, 0, 0])), qb 3 16])
 (.seq (.seq (.region [qG 4 (.mv (qn 0))])
 (.block 0 (.loop (.seq (.seq (.region [qa 17 4, qd 18 3 1, qf 19 1 18, qL 20 (.len (.l 19)), qG 21 (.bin .lss (.l 17) (.l 20))])
 (.cond (.g 21) (.skip)
 (.exit 0)))
 (.seq (.block 1 (.region [qa 24 3, qd 25 3 1, qf 26 1 25, qa 27 4, qL 28 (.elS 3 (.l 26) (.l 27)), qh 29 3 28, qL 30 (.call fn_spec_l11Put [.l 29]), qL 31 (.bin .add (.l 24) (.l 30)), qb 3 31]))
 (.region [qa 22 4, qL 23 (.bin .add (.l 22) (qn 1)), qb 4 23]))))))
 (.seq (.drawn [qa 32 3, qL 33 (.cutStr (.l 32) none (some (qn 8))), qa 34 3, qL 35 (.call fn_spec_l13Sum [.l 34]), qL 36 (.call fn_spec_l1Long [.l 35]), qL 37 (.bin .add (.l 33) (.l 36)), qa 38 3, qL 39 (.cutStr (.l 38) (some (qn 12)) none)] [[], [], [], [], [], [], [], []] [qL 40 (.bin .add (.l 37) (.l 39)), qb 2 40])
 (.ret))))⟩
theorem ln_spec_l13Put : Linked Tryz.prog fn_spec_l13Put ac_spec_l13Put := ⟨Tryz.f107, _, Tryz.func107, rfl, by kernel_rfl, by kernel_rfl, by kernel_rfl, by kernel_rfl⟩
def ac_spec_l14Record : AF := ⟨[0, 1, 2, 4], [.t 4],
 .seq (.region [qG 2 (.box (.g 0)), qG 4 (.mv qo)])
 (.seq (.region [qd 5 0 2, qf 6 1 5, qa 7 1, qL 8 (.call fn_spec_l6In [.l 6, .l 7, qn 4294967295]), qc 9 8, qT 10 (.faddr 1 (.g 2)) 9, qT 11 (.load false 1 (.l 10)) 9, qT 12 (.lenStr (.l 11)) 9, qT 13 (.bin .leq (.l 12) (qn 120)) 9, qL 14 (.pick (.l 9) (.l 13) qo), qb 4 14])
 (.ret))⟩
theorem ln_spec_l14Record : Linked Tryz.prog fn_spec_l14Record ac_spec_l14Record := ⟨Tryz.f108, _, Tryz.func108, rfl, by kernel_rfl, by kernel_rfl, by kernel_rfl, by kernel_rfl⟩
def ac_spec_AssocValid : AF := ⟨[0, 1, 2, 37, 60, 76], [.t 2],
 .seq (.region [qG 1 (.box (.g 0)), qG 2 (.mv qo)])
 (.seq (.seq (.region [qd 3 0 1, qf 4 1 3, qL 5 (.call fn_spec_l6In [.l 4, qn 1, qn 65535]), qL 6 (.un .not (.l 5)), qc 7 6, qF 8 (.faddr 1 (.g 1)) 7, qF 9 (.load false 1 (.l 8)) 7, qF 10 (.call fn_spec_l6In [.l 9, qn 1, qn 65535]) 7, qF 11 (.un .not (.l 10)) 7, qL 12 (.pick (.l 7) qt (.l 11)), qc 13 12, qF 14 (.faddr 0 (.g 1)) 13, qF 15 (.load false 1 (.l 14)) 13, qF 16 (.faddr 1 (.g 1)) 13, qF 17 (.load false 1 (.l 16)) 13, qF 18 (.bin .eql (.l 15) (.l 17)) 13, qL 19 (.pick (.l 13) qt (.l 18)), qc 20 19, qF 21 (.faddr 2 (.g 1)) 20, qF 22 (.load false 1 (.l 21)) 20, qF 23 (.call fn_spec_l6In [.l 22, qn 0, qn 7]) 20, qF 24 (.un .not (.l 23)) 20, qL 25 (.pick (.l 20) qt (.l 24)), qc 26 25, qF 27 (.faddr 4 (.g 1)) 26, qF 28 (.load true 5 (.l 27)) 26, qF 29 (.call fn_spec_SideValid [.l 28]) 26, qF 30 (.un .not (.l 29)) 26, qL 31 (.pick (.l 26) qt (.l 30)), qc 32 31, qF 33 (.faddr 9 (.g 1)) 32, qF 34 (.load true 5 (.l 33)) 32, qF 35 (.call fn_spec_SideValid [.l 34]) 32, qF 36 (.un .not (.l 35)) 32, qG 37 (.pick (.l 32) qt (.l 36))])
 (.cond (.g 37) (.seq (.region [qG 2 (.mv qo)])
 (.ret))
 (.skip)))
 (.seq (.seq (.region [qd 38 4 1, qe 39 0 38, qf 40 1 39, qL 41 (.bin .gtr (.l 40) (qn 0)), qd 42 2 1, qf 43 1 42, qL 44 (.bin .geq (.l 43) (qn 1)), qL 45 (.beq true (.l 41) (.l 44)), qc 46 45, qF 47 (.faddr 2 (.g 1)) 46, qF 48 (.load false 1 (.l 47)) 46, qF 49 (.bin .neq (.l 48) (qn 7)) 46, qF 50 (.mv (.l 49)) 46, qT 51 (.faddr 9 (.g 1)) 50, qT 52 (.faddr 0 (.l 51)) 50, qT 53 (.load false 1 (.l 52)) 50, qT 54 (.bin .gtr (.l 53) (qn 0)) 50, qT 55 (.faddr 2 (.g 1)) 50, qT 56 (.load false 1 (.l 55)) 50, qT 57 (.bin .geq (.l 56) (qn 2)) 50, qT 58 (.beq true (.l 54) (.l 57)) 50, qF 59 (.pick (.l 50) (.l 58) qo) 46, qG 60 (.pick (.l 46) qt (.l 59))])
 (.cond (.g 60) (.seq (.region [qG 2 (.mv qo)])
 (.ret))
 (.skip)))
 (.seq (.seq (.region [qd 61 2 1, qf 62 1 61, qL 63 (.call fn_spec_l31Open [.l 62]), qL 64 (.un .not (.l 63)), qc 65 64, qT 66 (.faddr 4 (.g 1)) 65, qT 67 (.faddr 3 (.l 66)) 65, qT 68 (.load false 1 (.l 67)) 65, qT 69 (.len (.l 68)) 65, qT 70 (.faddr 9 (.g 1)) 65, qT 71 (.faddr 3 (.l 70)) 65, qT 72 (.load false 1 (.l 71)) 65, qT 73 (.len (.l 72)) 65, qT 74 (.bin .add (.l 69) (.l 73)) 65, qT 75 (.bin .gtr (.l 74) (qn 0)) 65, qG 76 (.pick (.l 65) (.l 75) qo)])
 (.cond (.g 76) (.seq (.region [qG 2 (.mv qo)])
 (.ret))
 (.skip)))
 (.seq (.region [qd 77 3 1, qf 78 1 77, qL 79 (.un .not (.l 78)), qc 80 79, qF 81 (.faddr 2 (.g 1)) 80, qF 82 (.load false 1 (.l 81)) 80, qF 83 (.bin .geq (.l 82) (qn 5)) 80, qL 84 (.pick (.l 80) qt (.l 83)), qb 2 84])
 (.ret)))))⟩
theorem ln_spec_AssocValid : Linked Tryz.prog fn_spec_AssocValid ac_spec_AssocValid := ⟨Tryz.f109, _, Tryz.func109, rfl, by kernel_rfl, by kernel_rfl, by kernel_rfl, by kernel_rfl⟩
def ac_spec_l32Pair : AF := ⟨[0, 1, 2, 3, 4], [.t 4],
 .seq (.region [qG 2 (.box (.g 0)), qG 3 (.box (.g 1)), qG 4 (.mv qo)])
 (.seq (.region [qd 5 0 2, qf 6 1 5, qd 7 0 3, qf 8 1 7, qL 9 (.bin .eql (.l 6) (.l 8)), qc 10 9, qT 11 (.faddr 1 (.g 2)) 10, qT 12 (.load false 1 (.l 11)) 10, qT 13 (.faddr 1 (.g 3)) 10, qT 14 (.load false 1 (.l 13)) 10, qT 15 (.bin .eql (.l 12) (.l 14)) 10, qL 16 (.pick (.l 10) (.l 15) qo), qc 17 16, qF 18 (.faddr 0 (.g 2)) 17, qF 19 (.load false 1 (.l 18)) 17, qF 20 (.faddr 1 (.g 3)) 17, qF 21 (.load false 1 (.l 20)) 17, qF 22 (.bin .eql (.l 19) (.l 21)) 17, qF 23 (.mv (.l 22)) 17, qT 24 (.faddr 1 (.g 2)) 23, qT 25 (.load false 1 (.l 24)) 23, qT 26 (.faddr 0 (.g 3)) 23, qT 27 (.load false 1 (.l 26)) 23, qT 28 (.bin .eql (.l 25) (.l 27)) 23, qF 29 (.pick (.l 23) (.l 28) qo) 17, qL 30 (.pick (.l 17) qt (.l 29)), qb 4 30])
 (.ret))⟩
theorem ln_spec_l32Pair : Linked Tryz.prog fn_spec_l32Pair ac_spec_l32Pair := ⟨Tryz.f110, _, Tryz.func110, rfl, by kernel_rfl, by kernel_rfl, by kernel_rfl, by kernel_rfl⟩
def ac_spec_l32Finding : AF := ⟨[0, 1, 2, 4], [.t 4],
 .seq (.region [qG 2 (.box (.g 0)), qG 4 (.mv qo)])
 (.seq (.region [qd 5 0 2, qf 6 1 5, qa 7 1, qL 8 (.bin .sub (.l 7) (qn 1)), qL 9 (.call fn_spec_l6In [.l 6, qn 0, .l 8]), qc 10 9, qT 11 (.faddr 1 (.g 2)) 10, qT 12 (.load false 1 (.l 11)) 10, qT 13 (.call fn_spec_l6In [.l 12, qn 1, qn 11]) 10, qT 14 (.mv (.l 13)) 10, qF 15 (.faddr 1 (.g 2)) 14, qF 16 (.load false 1 (.l 15)) 14, qF 17 (.call fn_spec_l6In [.l 16, qn 101, qn 105]) 14, qT 18 (.pick (.l 14) qt (.l 17)) 10, qL 19 (.pick (.l 10) (.l 18) qo), qb 4 19])
 (.ret))⟩
theorem ln_spec_l32Finding : Linked Tryz.prog fn_spec_l32Finding ac_spec_l32Finding := ⟨Tryz.f111, _, Tryz.func111, rfl, by kernel_rfl, by kernel_rfl, by kernel_rfl, by kernel_rfl⟩
def ac_spec_l32Less : AF := ⟨[0, 1, 2, 3, 4], [.t 4],
 .seq (.region [qG 2 (.box (.g 0)), qG 3 (.box (.g 1)), qG 4 (.mv qo)])
 (.seq (.region [qd 5 0 2, qf 6 1 5, qd 7 0 3, qf 8 1 7, qL 9 (.bin .lss (.l 6) (.l 8)), qc 10 9, qF 11 (.faddr 0 (.g 2)) 10, qF 12 (.load false 1 (.l 11)) 10, qF 13 (.faddr 0 (.g 3)) 10, qF 14 (.load false 1 (.l 13)) 10, qF 15 (.bin .eql (.l 12) (.l 14)) 10, qF 16 (.mv (.l 15)) 10, qT 17 (.faddr 1 (.g 2)) 16, qT 18 (.load false 1 (.l 17)) 16, qT 19 (.faddr 1 (.g 3)) 16, qT 20 (.load false 1 (.l 19)) 16, qT 21 (.bin .lss (.l 18) (.l 20)) 16, qF 22 (.pick (.l 16) (.l 21) qo) 10, qL 23 (.pick (.l 10) qt (.l 22)), qb 4 23])
 (.ret))⟩
theorem ln_spec_l32Less : Linked Tryz.prog fn_spec_l32Less ac_spec_l32Less := ⟨Tryz.f112, _, Tryz.func112, rfl, by kernel_rfl, by kernel_rfl, by kernel_rfl, by kernel_rfl⟩
def ac_spec_l31Said : AF := ⟨[0, 2, 3, 4, 5, 6, 11, 23], [.t 2],
 .seq (.region [qG 2 (.mv (.c .nils))])
 (.seq (.region [qL 7 (.lits 4 []), qb 3 7])
 (.seq (.region [qG 4 (.mv (qs []))])
 (.seq (.seq (.region [qG 5 (.mv (qn 0))])
 (.block 0 (.loop (.seq (.seq (.region [qa 8 5, qa 9 0, qL 10 (.len (.l 9)), qG 11 (.bin .lss (.l 8) (.l 10))])
 (.cond (.g 11) (.skip)
 (.exit 0)))
 (.seq (.block 1 (.seq (.region [qa 14 0, qa 15 5, qL 16 (.elS 7 (.l 14) (.l 15)), qh 17 7 16, qG 6 (.alloc [.int .i64 0, .int .i64 0, .int .i64 0, .bool false, .bool false, .bool false, .str []]), qi 7 6 17])
 (.seq (.region [qa 18 4, qd 19 6 6, qf 20 1 19, qL 21 (.bin .add (.l 18) (.l 20)), qb 4 21])
 (.seq (.region [qd 22 4 6, qG 23 (.load false 1 (.l 22))])
 (.cond (.g 23) (.seq (.region [qa 24 3, qd 25 1 6, qf 26 1 25, qd 27 2 6, qf 28 1 27, qd 29 5 6, qf 30 1 29, qa 31 4, qL 32 (.build [.int .i64 0, .int .i64 0, .bool false, .str []] [(0, 1, .l 26), (1, 1, .l 28), (2, 1, .l 30), (3, 1, .l 31)]), qL 33 (.lits 4 [.l 32]), qL 34 (.append 4 40 (.l 24) (.l 33)), qb 3 34])
 (.region [qG 4 (.mv (qs []))]))
 (.skip))))))
 (.region [qa 12 5, qL 13 (.bin .add (.l 12) (qn 1)), qb 5 13]))))))
 (.seq (.region [qa 35 3, qb 2 35])
 (.ret)))))⟩
theorem ln_spec_l31Said : Linked Tryz.prog fn_spec_l31Said ac_spec_l31Said := ⟨Tryz.f113, _, Tryz.func113, rfl, by kernel_rfl, by kernel_rfl, by kernel_rfl, by kernel_rfl⟩
def ac_spec_l42Message : AF := ⟨[0, 1, 2, 4], [.t 2],
 .seq (.region [qG 1 (.box (.g 0)), qG 2 (.mv (qs []))])
 (.seq (.seq (.region [qd 3 2 1, qG 4 (.load false 1 (.l 3))])
 (.cond (.g 4) (.seq (.drawn [qd 5 0 1, qf 6 1 5, qL 7 (.call fn_spec_l6Dec [.l 6]), qL 8 (.bin .add (.l 7) (qs [32, 45, 32])), qd 9 3 1, qf 10 1 9, qL 11 (.call fn_spec_l1Hex [.l 10])] [[], [], [], [], [], [2, 1], []] [qL 12 (.bin .add (.l 8) (.l 11)), qb 2 12])
 (.ret))
 (.skip)))
 (.seq (.drawn [qd 13 0 1, qf 14 1 13, qL 15 (.call fn_spec_l6Dec [.l 14]), qL 16 (.bin .add (.l 15) (qs [32])), qd 17 1 1, qf 18 1 17, qL 19 (.call fn_spec_l6Dec [.l 18]), qL 20 (.bin .add (.l 16) (.l 19)), qL 21 (.bin .add (.l 20) (qs [32])), qd 22 3 1, qf 23 1 22, qL 24 (.call fn_spec_l1Hex [.l 23])] [[], [], [], [], [], [2, 1], [], [], [], [], [6, 5, 2, 1], []] [qL 25 (.bin .add (.l 21) (.l 24)), qb 2 25])
 (.ret)))⟩
theorem ln_spec_l42Message : Linked Tryz.prog fn_spec_l42Message ac_spec_l42Message := ⟨Tryz.f114, _, Tryz.func114, rfl, by kernel_rfl, by kernel_rfl, by kernel_rfl, by kernel_rfl⟩
def ac_spec_l32Copy : AF := ⟨[0, 1, 2, 3, 4, 17], [.c 2 true 3],
 .seq (.region [qG 1 (.box (.g 0)), qG 2 (.alloc [.int .i64 0, .nils, .nils])])
 (.seq (.drawn [qd 5 0 1, qf 6 1 5, qL 7 (.lits 14 []), qL 8 (.lits 2 []), qd 9 2 1, qf 10 1 9, qL 11 (.append 2 16 (.l 8) (.l 10)), qL 12 (.build [.int .i64 0, .nils, .nils] [(0, 1, .l 6), (1, 1, .l 7), (2, 1, .l 11)]), qG 3 (.alloc [.int .i64 0, .nils, .nils])] [[], [], [1], [2, 1], [], [3, 2, 1], [2, 1], [], [6, 5, 3, 2, 1]] [qi 3 3 12])
 (.seq (.seq (.region [qG 4 (.mv (qn 0))])
 (.block 0 (.loop (.seq (.seq (.region [qa 13 4, qd 14 1 1, qf 15 1 14, qL 16 (.len (.l 15)), qG 17 (.bin .lss (.l 13) (.l 16))])
 (.cond (.g 17) (.skip)
 (.exit 0)))
 (.seq (.block 1 (.drawn [qd 20 1 3, qf 21 1 20, qd 22 1 1, qf 23 1 22, qa 24 4, qL 25 (.elS 14 (.l 23) (.l 24)), qh 26 14 25, qL 27 (.call fn_spec_l31Copy [.l 26]), qL 28 (.lits 14 [.l 27])] [[], [], [], [1], [], [1], [1], [1], [1]] [qL 29 (.append 14 144 (.l 21) (.l 28)), qd 30 1 3, qj 1 30 29]))
 (.region [qa 18 4, qL 19 (.bin .add (.l 18) (qn 1)), qb 4 19]))))))
 (.seq (.region [qg 31 3 3, qi 3 2 31])
 (.ret))))⟩
theorem ln_spec_l32Copy : Linked Tryz.prog fn_spec_l32Copy ac_spec_l32Copy := ⟨Tryz.f115, _, Tryz.func115, rfl, by kernel_rfl, by kernel_rfl, by kernel_rfl, by kernel_rfl⟩
def ac_spec_PacketGet : AF := ⟨[0, 2, 3, 4, 5, 6, 7, 8, 11, 21, 38, 47, 58], [.c 2 true 4, .t 3],
 .seq (.region [qG 2 (.alloc [.int .i64 0, .int .i64 0, .int .i64 0, .nils]), qG 3 (.mv (qn 0))])
 (.seq (.seq (.region [qa 9 0, qL 10 (.lenStr (.l 9)), qG 11 (.bin .lss (.l 10) (qn 12))])
 (.cond (.g 11) (.seq (.region [qL 12 (.build [.int .i64 0, .int .i64 0, .int .i64 0, .nils] []), qi 4 2 12, qG 3 (.mv (qn 1))])
 (.ret))
 (.skip)))
 (.seq (.seq (.region [qa 13 0, qL 14 (.call fn_spec_l1At [.l 13, qn 8]), qL 15 (.bin .mul (qn 65536) (.l 14)), qa 16 0, qL 17 (.call fn_spec_l1At [.l 16, qn 10]), qL 18 (.bin .add (.l 15) (.l 17)), qa 19 0, qL 20 (.call fn_spec_l13Sum [.l 19]), qG 21 (.bin .neq (.l 18) (.l 20))])
 (.cond (.g 21) (.seq (.region [qL 22 (.build [.int .i64 0, .int .i64 0, .int .i64 0, .nils] []), qi 4 2 22, qG 3 (.mv (qn 2))])
 (.ret))
 (.skip)))
 (.seq (.region [qa 23 0, qL 24 (.call fn_spec_l1At [.l 23, qn 0]), qa 25 0, qL 26 (.call fn_spec_l1At [.l 25, qn 2]), qa 27 0, qL 28 (.call fn_spec_l1At [.l 27, qn 4]), qL 29 (.bin .mul (qn 65536) (.l 28)), qa 30 0, qL 31 (.call fn_spec_l1At [.l 30, qn 6]), qL 32 (.bin .add (.l 29) (.l 31)), qL 33 (.lits 3 []), qL 34 (.build [.int .i64 0, .int .i64 0, .int .i64 0, .nils] [(0, 1, .l 24), (1, 1, .l 26), (2, 1, .l 32), (3, 1, .l 33)]), qG 4 (.alloc [.int .i64 0, .int .i64 0, .int .i64 0, .nils]), qi 4 4 34])
 (.seq (.region [qG 5 (.mv (qn 12))])
 (.seq (.block 0 (.loop (.seq (.seq (.region [qa 35 5, qa 36 0, qL 37 (.lenStr (.l 36)), qG 38 (.bin .lss (.l 35) (.l 37))])
 (.cond (.g 38) (.skip)
 (.exit 0)))
 (.block 1 (.seq (.region [qa 40 0, qa 41 5, qL 42 (.call fn_spec_ChunkGet [.l 40, .l 41]), qc 39 42, qL 43 (.extract (.l 39) 0), qL 44 (.extract (.l 39) 1), qL 45 (.extract (.l 39) 2), qG 6 (.alloc [.int .i64 0, .int .i64 0, .str []]), qi 3 6 43, qb 7 44, qb 8 45])
 (.seq (.seq (.region [qa 46 8, qG 47 (.un .not (.l 46))])
 (.cond (.g 47) (.seq (.region [qL 48 (.build [.int .i64 0, .int .i64 0, .int .i64 0, .nils] []), qi 4 2 48, qG 3 (.mv (qn 3))])
 (.ret))
 (.skip)))
 (.seq (.region [qd 49 3 4, qf 50 1 49, qg 51 3 6, qL 52 (.lits 3 [.l 51]), qL 53 (.append 3 32 (.l 50) (.l 52)), qd 54 3 4, qj 1 54 53])
 (.region [qa 55 7, qb 5 55]))))))))
 (.seq (.seq (.region [qg 56 4 4, qL 57 (.call fn_spec_PacketValid [.l 56]), qG 58 (.un .not (.l 57))])
 (.cond (.g 58) (.seq (.region [qL 59 (.build [.int .i64 0, .int .i64 0, .int .i64 0, .nils] []), qi 4 2 59, qG 3 (.mv (qn 3))])
 (.ret))
 (.skip)))
 (.seq (.region [qg 60 4 4, qi 4 2 60, qG 3 (.mv (qn 0))])
 (.ret))))))))⟩
theorem ln_spec_PacketGet : Linked Tryz.prog fn_spec_PacketGet ac_spec_PacketGet := ⟨Tryz.f116, _, Tryz.func116, rfl, by kernel_rfl, by kernel_rfl, by kernel_rfl, by kernel_rfl⟩
def ac_spec_l32Note : AF := ⟨[0, 1, 2, 4], [.c 4 true 3],
 .seq (.region [qG 2 (.box (.g 0)), qG 4 (.alloc [.int .i64 0, .nils, .nils])])
 (.seq (.region [qd 5 2 2, qf 6 1 5, qd 7 0 2, qf 8 1 7, qL 9 (.bin .sub (.l 8) (qn 1)), qa 10 1, qL 11 (.build [.int .i64 0, .int .i64 0] [(0, 1, .l 9), (1, 1, .l 10)]), qL 12 (.lits 2 [.l 11]), qL 13 (.append 2 16 (.l 6) (.l 12)), qd 14 2 2, qj 1 14 13])
 (.seq (.region [qg 15 3 2, qi 3 4 15])
 (.ret)))⟩
theorem ln_spec_l32Note : Linked Tryz.prog fn_spec_l32Note ac_spec_l32Note := ⟨Tryz.f117, _, Tryz.func117, rfl, by kernel_rfl, by kernel_rfl, by kernel_rfl, by kernel_rfl⟩
def ac_spec_l32Find : AF := ⟨[0, 1, 2, 3, 6, 7, 12, 23], [.t 6],
 .seq (.region [qG 3 (.box (.g 0)), qG 6 (.mv (qn 0))])
 (.seq (.seq (.region [qG 7 (.mv (qn 0))])
 (.block 0 (.loop (.seq (.seq (.region [qa 8 7, qd 9 1 3, qf 10 1 9, qL 11 (.len (.l 10)), qG 12 (.bin .lss (.l 8) (.l 11))])
 (.cond (.g 12) (.skip)
 (.exit 0)))
 (.seq (.block 1 (.seq (.region [qd 15 1 3, qf 16 1 15, qa 17 7, qL 18 (.elS 14 (.l 16) (.l 17)), qh 19 14 18, qa 20 1, qa 21 2, qL 22 (.build [.int .i64 0, .int .i64 0, .int .i64 0, .bool false, .int .i64 0, .int .i64 0, .int .i64 0, .nils, .int .i64 0, .int .i64 0, .int .i64 0, .int .i64 0, .nils, .int .i64 0] [(0, 1, .l 20), (1, 1, .l 21)]), qG 23 (.call fn_spec_l32Pair [.l 19, .l 22])])
 (.cond (.g 23) (.seq (.region [qa 24 7, qb 6 24])
 (.ret))
 (.skip))))
 (.region [qa 13 7, qL 14 (.bin .add (.l 13) (qn 1)), qb 7 14]))))))
 (.seq (.region [qG 6 (.mv (qn (-1)))])
 (.ret)))⟩
theorem ln_spec_l32Find : Linked Tryz.prog fn_spec_l32Find ac_spec_l32Find := ⟨Tryz.f118, _, Tryz.func118, rfl, by kernel_rfl, by kernel_rfl, by kernel_rfl, by kernel_rfl⟩
def ac_spec_PacketAlone : AF := ⟨[0, 1, 2, 3, 8, 23], [.t 2],
 .seq (.region [qG 1 (.box (.g 0)), qG 2 (.mv qo)])
 (.seq (.seq (.region [qG 3 (.mv (qn 0))])
 (.block 0 (.loop (.seq (.seq (.region [qa 4 3, qd 5 3 1, qf 6 1 5, qL 7 (.len (.l 6)), qG 8 (.bin .lss (.l 4) (.l 7))])
 (.cond (.g 8) (.skip)
 (.exit 0)))
 (.seq (.block 1 (.seq (.region [qd 11 3 1, qf 12 1 11, qa 13 3, qL 14 (.elS 3 (.l 12) (.l 13)), qe 15 0 14, qf 16 1 15, qL 17 (.call fn_spec_l13Alone [.l 16]), qc 18 17, qT 19 (.faddr 3 (.g 1)) 18, qT 20 (.load false 1 (.l 19)) 18, qT 21 (.len (.l 20)) 18, qT 22 (.bin .gtr (.l 21) (qn 1)) 18, qG 23 (.pick (.l 18) (.l 22) qo)])
 (.cond (.g 23) (.seq (.region [qG 2 (.mv qo)])
 (.ret))
 (.skip))))
 (.region [qa 9 3, qL 10 (.bin .add (.l 9) (qn 1)), qb 3 10]))))))
 (.seq (.region [qg 24 4 1, qL 25 (.call fn_spec_PacketValid [.l 24]), qb 2 25])
 (.ret)))⟩
theorem ln_spec_PacketAlone : Linked Tryz.prog fn_spec_PacketAlone ac_spec_PacketAlone := ⟨Tryz.f119, _, Tryz.func119, rfl, by kernel_rfl, by kernel_rfl, by kernel_rfl, by kernel_rfl⟩
def ac_spec_InitGet : AF := ⟨[0, 1, 2, 3, 4, 23, 45], [.c 2 true 4, .t 3],
 .seq (.region [qG 1 (.box (.g 0)), qG 2 (.alloc [.int .i64 0, .int .i64 0, .int .i64 0, .int .i64 0]), qG 3 (.mv qo)])
 (.seq (.seq (.region [qd 5 0 1, qf 6 1 5, qL 7 (.bin .neq (.l 6) (qn 1)), qc 8 7, qT 9 (.faddr 0 (.g 1)) 8, qT 10 (.load false 1 (.l 9)) 8, qT 11 (.bin .neq (.l 10) (qn 2)) 8, qL 12 (.pick (.l 8) (.l 11) qo), qc 13 12, qF 14 (.faddr 1 (.g 1)) 13, qF 15 (.load false 1 (.l 14)) 13, qF 16 (.bin .neq (.l 15) (qn 0)) 13, qL 17 (.pick (.l 13) qt (.l 16)), qc 18 17, qF 19 (.faddr 2 (.g 1)) 18, qF 20 (.load false 1 (.l 19)) 18, qF 21 (.lenStr (.l 20)) 18, qF 22 (.bin .neq (.l 21) (qn 10)) 18, qG 23 (.pick (.l 18) qt (.l 22))])
 (.cond (.g 23) (.seq (.region [qL 24 (.build [.int .i64 0, .int .i64 0, .int .i64 0, .int .i64 0] []), qi 4 2 24, qG 3 (.mv qo)])
 (.ret))
 (.skip)))
 (.seq (.drawn [qd 25 2 1, qf 26 1 25, qL 27 (.call fn_spec_l1At [.l 26, qn 0]), qL 28 (.bin .mul (qn 65536) (.l 27)), qd 29 2 1, qf 30 1 29, qL 31 (.call fn_spec_l1At [.l 30, qn 2]), qL 32 (.bin .add (.l 28) (.l 31)), qd 33 2 1, qf 34 1 33, qL 35 (.call fn_spec_l1At [.l 34, qn 4]), qd 36 2 1, qf 37 1 36, qL 38 (.call fn_spec_l1At [.l 37, qn 6]), qd 39 2 1, qf 40 1 39, qL 41 (.call fn_spec_l1At [.l 40, qn 8]), qL 42 (.build [.int .i64 0, .int .i64 0, .int .i64 0, .int .i64 0] [(0, 1, .l 32), (1, 1, .l 35), (2, 1, .l 38), (3, 1, .l 41)]), qG 4 (.alloc [.int .i64 0, .int .i64 0, .int .i64 0, .int .i64 0])] [[], [], [], [], [], [2, 1], [], [], [], [6, 5, 2, 1], [], [], [10, 9, 6, 5, 2, 1], [], [], [13, 12, 10, 9, 6, 5, 2, 1], [], [], [16, 15, 13, 12, 10, 9, 6, 5, 2, 1]] [qi 4 4 42])
 (.seq (.seq (.region [qg 43 4 4, qL 44 (.call fn_spec_l12Init [.l 43]), qG 45 (.un .not (.l 44))])
 (.cond (.g 45) (.seq (.region [qL 46 (.build [.int .i64 0, .int .i64 0, .int .i64 0, .int .i64 0] []), qi 4 2 46, qG 3 (.mv qo)])
 (.ret))
 (.skip)))
 (.seq (.region [qg 47 4 4, qi 4 2 47, qG 3 (.mv qt)])
 (.ret)))))⟩
theorem ln_spec_InitGet : Linked Tryz.prog fn_spec_InitGet ac_spec_InitGet := ⟨Tryz.f120, _, Tryz.func120, rfl, by kernel_rfl, by kernel_rfl, by kernel_rfl, by kernel_rfl⟩
def ac_spec_l32Begin : AF := ⟨[0, 1, 2, 3, 4, 5, 6, 7, 18, 27, 34, 44], [.c 4 true 3],
 .seq (.region [qG 2 (.box (.g 0)), qG 3 (.box (.g 1)), qG 4 (.alloc [.int .i64 0, .nils, .nils])])
 (.seq (.region [qd 9 0 3, qf 10 1 9, qd 11 1 3, qf 12 1 11, qL 13 (.build [.int .i64 0, .int .i64 0, .int .i64 0, .bool false, .int .i64 0, .int .i64 0, .int .i64 0, .nils, .int .i64 0, .int .i64 0, .int .i64 0, .int .i64 0, .nils, .int .i64 0] [(0, 1, .l 10), (1, 1, .l 12)]), qg 14 4 3, qL 15 (.call fn_spec_AssocStep [.l 13, .l 14]), qc 8 15, qL 16 (.extract (.l 8) 0), qL 17 (.extract (.l 8) 1), qG 5 (.alloc [.int .i64 0, .int .i64 0, .int .i64 0, .bool false, .int .i64 0, .int .i64 0, .int .i64 0, .nils, .int .i64 0, .int .i64 0, .int .i64 0, .int .i64 0, .nils, .int .i64 0]), qi 14 5 16, qb 6 17])
 (.seq (.block 0 (.seq (.region [qd 19 3 3, qf 20 1 19, qL 21 (.elS 3 (.l 20) (qn 0)), qe 22 0 21, qf 23 1 22, qL 24 (.bin .neq (.l 23) (qn 1)), qb 18 24])
 (.cond (.g 18) (.seq (.region [qg 25 3 2, qL 26 (.call fn_spec_l32Note [.l 25, qn 104]), qi 3 4 26])
 (.ret))
 (.seq (.region [qa 28 6, qL 29 (.len (.l 28)), qL 30 (.bin .gtr (.l 29) (qn 0)), qb 27 30])
 (.cond (.g 27) (.seq (.seq (.region [qG 7 (.mv (qn 0))])
 (.block 1 (.loop (.seq (.seq (.region [qa 31 7, qa 32 6, qL 33 (.len (.l 32)), qG 34 (.bin .lss (.l 31) (.l 33))])
 (.cond (.g 34) (.skip)
 (.exit 1)))
 (.seq (.block 2 (.drawn [qg 37 3 2, qa 38 6, qa 39 7, qL 40 (.elS 1 (.l 38) (.l 39)), qf 41 1 40] [[], [], [], [0], [0]] [qL 42 (.call fn_spec_l32Note [.l 37, .l 41]), qi 3 2 42]))
 (.region [qa 35 7, qL 36 (.bin .add (.l 35) (qn 1)), qb 7 36]))))))
 (.seq (.region [qg 43 3 2, qi 3 4 43])
 (.ret)))
 (.seq (.region [qd 45 1 2, qf 46 1 45, qL 47 (.len (.l 46)), qL 48 (.bin .geq (.l 47) (qn 3)), qb 44 48])
 (.cond (.g 44) (.seq (.region [qg 49 3 2, qL 50 (.call fn_spec_l32Note [.l 49, qn 105]), qi 3 4 50])
 (.ret))
 (.skip))))))))
 (.seq (.region [qd 51 1 2, qf 52 1 51, qg 53 14 5, qL 54 (.lits 14 [.l 53]), qL 55 (.append 14 144 (.l 52) (.l 54)), qd 56 1 2, qj 1 56 55])
 (.seq (.region [qg 57 3 2, qi 3 4 57])
 (.ret)))))⟩
theorem ln_spec_l32Begin : Linked Tryz.prog fn_spec_l32Begin ac_spec_l32Begin := ⟨Tryz.f121, _, Tryz.func121, rfl, by kernel_rfl, by kernel_rfl, by kernel_rfl, by kernel_rfl⟩
def ac_spec_AssocStep : AF := ⟨[0, 1, 2, 3, 4, 5, 6, 7, 8, 9, 10, 48, 62, 68, 75], [.c 4 true 14, .t 5],
 .seq (.region [qG 2 (.box (.g 0)), qG 3 (.box (.g 1)), qG 4 (.alloc [.int .i64 0, .int .i64 0, .int .i64 0, .bool false, .int .i64 0, .int .i64 0, .int .i64 0, .nils, .int .i64 0, .int .i64 0, .int .i64 0, .int .i64 0, .nils, .int .i64 0]), qG 5 (.mv (.c .nils))])
 (.seq (.region [qd 11 0 3, qf 12 1 11, qd 13 1 2, qf 14 1 13, qL 15 (.bin .eql (.l 12) (.l 14)), qc 16 15, qT 17 (.faddr 1 (.g 3)) 16, qT 18 (.load false 1 (.l 17)) 16, qT 19 (.faddr 0 (.g 2)) 16, qT 20 (.load false 1 (.l 19)) 16, qT 21 (.bin .eql (.l 18) (.l 20)) 16, qL 22 (.pick (.l 16) (.l 21) qo), qb 6 22])
 (.seq (.seq (.region [qg 23 14 2, qL 24 (.call fn_spec_AssocValid [.l 23]), qL 25 (.un .not (.l 24)), qc 26 25, qF 27 (.load true 4 (.g 3)) 26, qF 28 (.call fn_spec_PacketValid [.l 27]) 26, qF 29 (.un .not (.l 28)) 26, qL 30 (.pick (.l 26) qt (.l 29)), qc 31 30, qF 32 (.mv (.g 6)) 31, qF 33 (.un .not (.l 32)) 31, qF 34 (.mv (.l 33)) 31, qT 35 (.faddr 0 (.g 3)) 34, qT 36 (.load false 1 (.l 35)) 34, qT 37 (.faddr 0 (.g 2)) 34, qT 38 (.load false 1 (.l 37)) 34, qT 39 (.bin .neq (.l 36) (.l 38)) 34, qT 40 (.mv (.l 39)) 34, qF 41 (.faddr 1 (.g 3)) 40, qF 42 (.load false 1 (.l 41)) 40, qF 43 (.faddr 1 (.g 2)) 40, qF 44 (.load false 1 (.l 43)) 40, qF 45 (.bin .neq (.l 42) (.l 44)) 40, qT 46 (.pick (.l 40) qt (.l 45)) 34, qF 47 (.pick (.l 34) (.l 46) qo) 31, qG 48 (.pick (.l 31) qt (.l 47))])
 (.cond (.g 48) (.seq (.region [qL 49 (.build [.int .i64 0, .int .i64 0, .int .i64 0, .bool false, .int .i64 0, .int .i64 0, .int .i64 0, .nils, .int .i64 0, .int .i64 0, .int .i64 0, .int .i64 0, .nils, .int .i64 0] []), qL 50 (.lits 1 []), qi 14 4 49, qb 5 50])
 (.ret))
 (.skip)))
 (.seq (.region [qg 52 14 2, qa 53 6, qg 54 4 3, qL 55 (.call fn_spec_l31Step [.l 52, .l 53, .l 54]), qc 51 55, qL 56 (.extract (.l 51) 0), qL 57 (.extract (.l 51) 1), qG 7 (.alloc [.int .i64 0, .int .i64 0, .int .i64 0, .bool false, .int .i64 0, .int .i64 0, .int .i64 0, .nils, .int .i64 0, .int .i64 0, .int .i64 0, .int .i64 0, .nils, .int .i64 0]), qi 14 7 56, qb 8 57])
 (.seq (.region [qL 58 (.lits 1 []), qb 9 58])
 (.seq (.seq (.region [qG 10 (.mv (qn 1))])
 (.block 0 (.loop (.seq (.seq (.region [qa 59 10, qa 60 8, qL 61 (.len (.l 60)), qG 62 (.bin .lss (.l 59) (.l 61))])
 (.cond (.g 62) (.skip)
 (.exit 0)))
 (.seq (.block 1 (.seq (.region [qa 65 8, qa 66 10, qL 67 (.elS 1 (.l 65) (.l 66)), qG 68 (.load false 1 (.l 67))])
 (.cond (.g 68) (.region [qa 69 9, qa 70 10, qL 71 (.lits 1 [.l 70]), qL 72 (.append 1 8 (.l 69) (.l 71)), qb 9 72])
 (.skip))))
 (.region [qa 63 10, qL 64 (.bin .add (.l 63) (qn 1)), qb 10 64]))))))
 (.seq (.seq (.region [qa 73 9, qL 74 (.len (.l 73)), qG 75 (.bin .gtr (.l 74) (qn 0))])
 (.cond (.g 75) (.seq (.region [qg 76 14 2, qL 77 (.call fn_spec_l31Copy [.l 76]), qa 78 9, qi 14 4 77, qb 5 78])
 (.ret))
 (.skip)))
 (.seq (.region [qg 79 14 7, qL 80 (.call fn_spec_l31Copy [.l 79]), qa 81 9, qi 14 4 80, qb 5 81])
 (.ret))))))))⟩
theorem ln_spec_AssocStep : Linked Tryz.prog fn_spec_AssocStep ac_spec_AssocStep := ⟨Tryz.f122, _, Tryz.func122, rfl, by kernel_rfl, by kernel_rfl, by kernel_rfl, by kernel_rfl⟩
def ac_impl_SerialAdd : AF := ⟨[0, 1, 4, 7], [.t 4],
 .seq (.region [qG 4 (.mv (qn 0))])
 (.seq (.seq (.region [qa 5 0, qL 6 (.call fn_impl_serialOk [.l 5]), qG 7 (.un .not (.l 6))])
 (.cond (.g 7) (.seq (.region [qG 4 (.mv (qn (-1)))])
 (.ret))
 (.skip)))
 (.seq (.region [qa 8 0, qa 9 1, qL 10 (.bin .rem (.l 9) (qn 65536)), qL 11 (.bin .add (.l 8) (.l 10)), qL 12 (.bin .rem (.l 11) (qn 65536)), qL 13 (.bin .add (.l 12) (qn 65536)), qL 14 (.bin .rem (.l 13) (qn 65536)), qb 4 14])
 (.ret)))⟩
theorem ln_impl_SerialAdd : Linked Tryz.prog fn_impl_SerialAdd ac_impl_SerialAdd := ⟨Tryz.f128, _, Tryz.func128, rfl, by kernel_rfl, by kernel_rfl, by kernel_rfl, by kernel_rfl⟩
def ac_impl_dataOk : AF := ⟨[0, 1, 2], [.t 2],
 .seq (.region [qG 1 (.box (.g 0)), qG 2 (.mv qo)])
 (.seq (.region [qd 3 0 1, qf 4 1 3, qL 5 (.call fn_impl_serialOk [.l 4]), qc 6 5, qT 7 (.faddr 1 (.g 1)) 6, qT 8 (.load false 1 (.l 7)) 6, qT 9 (.call fn_impl_serialOk [.l 8]) 6, qL 10 (.pick (.l 6) (.l 9) qo), qc 11 10, qT 12 (.faddr 2 (.g 1)) 11, qT 13 (.load false 1 (.l 12)) 11, qT 14 (.call fn_impl_serialOk [.l 13]) 11, qL 15 (.pick (.l 11) (.l 14) qo), qc 16 15, qT 17 (.faddr 6 (.g 1)) 16, qT 18 (.load false 1 (.l 17)) 16, qT 19 (.lenStr (.l 18)) 16, qT 20 (.bin .geq (.l 19) (qn 1)) 16, qL 21 (.pick (.l 16) (.l 20) qo), qc 22 21, qT 23 (.faddr 6 (.g 1)) 22, qT 24 (.load false 1 (.l 23)) 22, qT 25 (.lenStr (.l 24)) 22, qT 26 (.bin .leq (.l 25) (qn 20)) 22, qL 27 (.pick (.l 22) (.l 26) qo), qb 2 27])
 (.ret))⟩
theorem ln_impl_dataOk : Linked Tryz.prog fn_impl_dataOk ac_impl_dataOk := ⟨Tryz.f129, _, Tryz.func129, rfl, by kernel_rfl, by kernel_rfl, by kernel_rfl, by kernel_rfl⟩
def ac_impl_sackOk : AF := ⟨[0, 1, 2, 3, 5, 15, 17, 18, 19, 20, 38], [.t 2],
 .seq (.region [qG 1 (.box (.g 0)), qG 2 (.mv qo)])
 (.seq (.seq (.region [qd 6 0 1, qf 7 1 6, qL 8 (.call fn_impl_serialOk [.l 7]), qL 9 (.un .not (.l 8)), qc 10 9, qF 11 (.faddr 1 (.g 1)) 10, qF 12 (.load false 1 (.l 11)) 10, qF 13 (.len (.l 12)) 10, qF 14 (.bin .gtr (.l 13) (qn 8)) 10, qG 15 (.pick (.l 10) qt (.l 14))])
 (.cond (.g 15) (.seq (.region [qG 2 (.mv qo)])
 (.ret))
 (.skip)))
 (.seq (.region [qG 3 (.mv (qn 2))])
 (.seq (.seq (.region [qd 16 1 1, qG 17 (.load false 1 (.l 16)), qG 18 (.len (.g 17)), qG 19 (.mv (qn 0))])
 (.block 0 (.loop (.seq (.region [qG 20 (.bin .lss (.g 19) (.g 18))])
 (.seq (.cond (.g 20) (.skip)
 (.exit 0))
 (.seq (.block 1 (.seq (.region [qL 21 (.elS 2 (.g 17) (.g 19)), qh 22 2 21, qG 5 (.alloc [.int .i64 0, .int .i64 0]), qi 2 5 22])
 (.seq (.seq (.region [qd 23 0 5, qf 24 1 23, qa 25 3, qL 26 (.bin .lss (.l 24) (.l 25)), qc 27 26, qF 28 (.faddr 0 (.g 5)) 27, qF 29 (.load false 1 (.l 28)) 27, qF 30 (.faddr 1 (.g 5)) 27, qF 31 (.load false 1 (.l 30)) 27, qF 32 (.bin .gtr (.l 29) (.l 31)) 27, qL 33 (.pick (.l 27) qt (.l 32)), qc 34 33, qF 35 (.faddr 1 (.g 5)) 34, qF 36 (.load false 1 (.l 35)) 34, qF 37 (.bin .gtr (.l 36) (qn 16)) 34, qG 38 (.pick (.l 34) qt (.l 37))])
 (.cond (.g 38) (.seq (.region [qG 2 (.mv qo)])
 (.ret))
 (.skip)))
 (.region [qd 39 1 5, qf 40 1 39, qL 41 (.bin .add (.l 40) (qn 2)), qb 3 41]))))
 (.region [qL 42 (.bin .add (.g 19) (qn 1)), qb 19 42])))))))
 (.seq (.region [qG 2 (.mv qt)])
 (.ret)))))⟩
theorem ln_impl_sackOk : Linked Tryz.prog fn_impl_sackOk ac_impl_sackOk := ⟨Tryz.f130, _, Tryz.func130, rfl, by kernel_rfl, by kernel_rfl, by kernel_rfl, by kernel_rfl⟩
def ac_impl_ChunkValid : AF := ⟨[0, 1, 2], [.t 2],
 .seq (.region [qG 1 (.box (.g 0)), qG 2 (.mv qo)])
 (.seq (.region [qd 3 0 1, qf 4 1 3, qL 5 (.bin .geq (.l 4) (qn 0)), qc 6 5, qT 7 (.faddr 0 (.g 1)) 6, qT 8 (.load false 1 (.l 7)) 6, qT 9 (.bin .leq (.l 8) (qn 255)) 6, qL 10 (.pick (.l 6) (.l 9) qo), qc 11 10, qT 12 (.faddr 1 (.g 1)) 11, qT 13 (.load false 1 (.l 12)) 11, qT 14 (.bin .geq (.l 13) (qn 0)) 11, qL 15 (.pick (.l 11) (.l 14) qo), qc 16 15, qT 17 (.faddr 1 (.g 1)) 16, qT 18 (.load false 1 (.l 17)) 16, qT 19 (.bin .leq (.l 18) (qn 255)) 16, qL 20 (.pick (.l 16) (.l 19) qo), qc 21 20, qT 22 (.faddr 2 (.g 1)) 21, qT 23 (.load false 1 (.l 22)) 21, qT 24 (.lenStr (.l 23)) 21, qT 25 (.bin .leq (.l 24) (qn 60)) 21, qL 26 (.pick (.l 21) (.l 25) qo), qb 2 26])
 (.ret))⟩
theorem ln_impl_ChunkValid : Linked Tryz.prog fn_impl_ChunkValid ac_impl_ChunkValid := ⟨Tryz.f131, _, Tryz.func131, rfl, by kernel_rfl, by kernel_rfl, by kernel_rfl, by kernel_rfl⟩
def ac_impl_WordPut : AF := ⟨[0, 2, 3, 9], [.t 2, .t 3],
 .seq (.region [qG 2 (.mv (qs [])), qG 3 (.mv qo)])
 (.seq (.seq (.region [qa 4 0, qL 5 (.bin .lss (.l 4) (qn 0)), qc 6 5, qF 7 (.mv (.g 0)) 6, qF 8 (.bin .gtr (.l 7) (qn 65535)) 6, qG 9 (.pick (.l 6) qt (.l 8))])
 (.cond (.g 9) (.seq (.region [qG 2 (.mv (qs [])), qG 3 (.mv qo)])
 (.ret))
 (.skip)))
 (.seq (.region [qa 10 0, qL 11 (.bin .shr (.l 10) (.c (.int .u64 8))), qL 12 (.conv .u8 (.l 11)), qa 13 0, qL 14 (.conv .u8 (.l 13)), qL 15 (.lits 1 [.l 12, .l 14]), qL 16 (.toStr (.l 15)), qb 2 16, qG 3 (.mv qt)])
 (.ret)))⟩
theorem ln_impl_WordPut : Linked Tryz.prog fn_impl_WordPut ac_impl_WordPut := ⟨Tryz.f132, _, Tryz.func132, rfl, by kernel_rfl, by kernel_rfl, by kernel_rfl, by kernel_rfl⟩
def ac_impl_sumOn : AF := ⟨[0, 1, 2, 6, 7, 11], [.t 6],
 .seq (.region [qG 6 (.mv (qn 0))])
 (.seq (.seq (.region [qG 7 (.mv (qn 0))])
 (.block 0 (.loop (.seq (.seq (.region [qa 8 7, qa 9 2, qL 10 (.lenStr (.l 9)), qG 11 (.bin .lss (.l 8) (.l 10))])
 (.cond (.g 11) (.skip)
 (.exit 0)))
 (.seq (.block 1 (.seq (.region [qa 14 0, qa 15 2, qa 16 7, qL 17 (.idxStr (.l 15) (.l 16)), qL 18 (.conv .i64 (.l 17)), qL 19 (.bin .add (.l 14) (.l 18)), qL 20 (.bin .rem (.l 19) (qn 65521)), qb 0 20])
 (.region [qa 21 1, qa 22 0, qL 23 (.bin .add (.l 21) (.l 22)), qL 24 (.bin .rem (.l 23) (qn 65521)), qb 1 24])))
 (.region [qa 12 7, qL 13 (.bin .add (.l 12) (qn 1)), qb 7 13]))))))
 (.seq (.region [qa 25 1, qL 26 (.bin .mul (.l 25) (qn 65536)), qa 27 0, qL 28 (.bin .add (.l 26) (.l 27)), qb 6 28])
 (.ret)))⟩
theorem ln_impl_sumOn : Linked Tryz.prog fn_impl_sumOn ac_impl_sumOn := ⟨Tryz.f133, _, Tryz.func133, rfl, by kernel_rfl, by kernel_rfl, by kernel_rfl, by kernel_rfl⟩
def ac_impl_SideValid : AF := ⟨[0, 1, 2, 3, 4, 7, 69, 71, 72, 73, 74, 105], [.t 2],
 .seq (.region [qG 1 (.box (.g 0)), qG 2 (.mv qo)])
 (.seq (.seq (.region [qd 5 0 1, qf 6 1 5, qG 7 (.bin .eql (.l 6) (qn 0))])
 (.cond (.g 7) (.seq (.region [qd 8 1 1, qf 9 1 8, qL 10 (.bin .eql (.l 9) (qn 0)), qc 11 10, qT 12 (.faddr 2 (.g 1)) 11, qT 13 (.load false 1 (.l 12)) 11, qT 14 (.bin .eql (.l 13) (qn 0)) 11, qL 15 (.pick (.l 11) (.l 14) qo), qc 16 15, qT 17 (.faddr 3 (.g 1)) 16, qT 18 (.load false 1 (.l 17)) 16, qT 19 (.len (.l 18)) 16, qT 20 (.bin .eql (.l 19) (qn 0)) 16, qL 21 (.pick (.l 16) (.l 20) qo), qc 22 21, qT 23 (.faddr 4 (.g 1)) 22, qT 24 (.load false 1 (.l 23)) 22, qT 25 (.bin .eql (.l 24) (qn 0)) 22, qL 26 (.pick (.l 22) (.l 25) qo), qb 2 26])
 (.ret))
 (.skip)))
 (.seq (.seq (.region [qd 27 0 1, qf 28 1 27, qL 29 (.bin .lss (.l 28) (qn 1)), qc 30 29, qF 31 (.faddr 0 (.g 1)) 30, qF 32 (.load false 1 (.l 31)) 30, qF 33 (.bin .gtr (.l 32) (qn 4294967295)) 30, qL 34 (.pick (.l 30) qt (.l 33)), qc 35 34, qF 36 (.faddr 1 (.g 1)) 35, qF 37 (.load false 1 (.l 36)) 35, qF 38 (.bin .lss (.l 37) (qn 1)) 35, qL 39 (.pick (.l 35) qt (.l 38)), qc 40 39, qF 41 (.faddr 1 (.g 1)) 40, qF 42 (.load false 1 (.l 41)) 40, qF 43 (.bin .gtr (.l 42) (qn 4)) 40, qL 44 (.pick (.l 40) qt (.l 43)), qc 45 44, qF 46 (.faddr 2 (.g 1)) 45, qF 47 (.load false 1 (.l 46)) 45, qF 48 (.call fn_impl_serialOk [.l 47]) 45, qF 49 (.un .not (.l 48)) 45, qL 50 (.pick (.l 45) qt (.l 49)), qc 51 50, qF 52 (.faddr 3 (.g 1)) 51, qF 53 (.load false 1 (.l 52)) 51, qF 54 (.len (.l 53)) 51, qF 55 (.bin .gtr (.l 54) (qn 12)) 51, qL 56 (.pick (.l 51) qt (.l 55)), qc 57 56, qF 58 (.faddr 4 (.g 1)) 57, qF 59 (.load false 1 (.l 58)) 57, qF 60 (.bin .lss (.l 59) (qn 0)) 57, qL 61 (.pick (.l 57) qt (.l 60)), qc 62 61, qF 63 (.faddr 4 (.g 1)) 62, qF 64 (.load false 1 (.l 63)) 62, qF 65 (.faddr 3 (.g 1)) 62, qF 66 (.load false 1 (.l 65)) 62, qF 67 (.len (.l 66)) 62, qF 68 (.bin .gtr (.l 64) (.l 67)) 62, qG 69 (.pick (.l 62) qt (.l 68))])
 (.cond (.g 69) (.seq (.region [qG 2 (.mv qo)])
 (.ret))
 (.skip)))
 (.seq (.seq (.region [qd 70 3 1, qG 71 (.load false 1 (.l 70)), qG 72 (.len (.g 71)), qG 73 (.mv (qn 0))])
 (.block 0 (.loop (.seq (.region [qG 74 (.bin .lss (.g 73) (.g 72))])
 (.seq (.cond (.g 74) (.skip)
 (.exit 0))
 (.seq (.block 1 (.seq (.region [qa 75 73, qL 76 (.elS 7 (.g 71) (.g 73)), qh 77 7 76, qG 4 (.alloc [.int .i64 0, .int .i64 0, .int .i64 0, .bool false, .bool false, .bool false, .str []]), qb 3 75, qi 7 4 77])
 (.seq (.drawn [qg 78 7 4, qL 79 (.call fn_impl_dataOk [.l 78]), qL 80 (.un .not (.l 79)), qc 81 80, qF 82 (.faddr 0 (.g 4)) 81, qF 83 (.load false 1 (.l 82)) 81, qF 84 (.faddr 2 (.g 1)) 81, qF 85 (.load false 1 (.l 84)) 81, qF 86 (.mv (.g 3)) 81, qF 87 (.call fn_impl_SerialAdd [.l 85, .l 86]) 81, qF 88 (.bin .neq (.l 83) (.l 87)) 81, qL 89 (.pick (.l 81) qt (.l 88)), qc 90 89, qF 91 (.faddr 1 (.g 4)) 90, qF 92 (.load false 1 (.l 91)) 90, qF 93 (.faddr 1 (.g 1)) 90, qF 94 (.load false 1 (.l 93)) 90, qF 95 (.bin .geq (.l 92) (.l 94)) 90, qL 96 (.pick (.l 90) qt (.l 95)), qc 97 96, qF 98 (.faddr 3 (.g 1)) 97, qF 99 (.load false 1 (.l 98)) 97, qF 100 (.mv (.g 3)) 97, qF 101 (.cutSl 7 (.l 99) none (some (.l 100))) 97, qF 102 (.load true 7 (.g 4)) 97] [[], [], [], [], [], [], [], [5], [], [5], [], [], [], [], [], [], [14], [], [], [], [], [], [], [], [23, 21]] [qF 103 (.call fn_impl_mayFollow [.l 101, .l 102]) 97, qF 104 (.un .not (.l 103)) 97, qG 105 (.pick (.l 97) qt (.l 104))])
 (.cond (.g 105) (.seq (.region [qG 2 (.mv qo)])
 (.ret))
 (.skip)))))
 (.region [qL 106 (.bin .add (.g 73) (qn 1)), qb 73 106])))))))
 (.seq (.region [qG 2 (.mv qt)])
 (.ret)))))⟩
theorem ln_impl_SideValid : Linked Tryz.prog fn_impl_SideValid ac_impl_SideValid := ⟨Tryz.f134, _, Tryz.func134, rfl, by kernel_rfl, by kernel_rfl, by kernel_rfl, by kernel_rfl⟩
def ac_impl_saidIn : AF := ⟨[0, 2, 3, 4, 6, 8, 9, 10, 11, 15, 21], [.t 2],
 .seq (.region [qG 2 (.mv (.c .nils))])
 (.seq (.region [qL 7 (.lits 4 []), qb 3 7])
 (.seq (.region [qG 4 (.mv (qs []))])
 (.seq (.seq (.region [qG 8 (.mv (.g 0)), qG 9 (.len (.g 8)), qG 10 (.mv (qn 0))])
 (.block 0 (.loop (.seq (.region [qG 11 (.bin .lss (.g 10) (.g 9))])
 (.seq (.cond (.g 11) (.skip)
 (.exit 0))
 (.seq (.block 1 (.seq (.region [qL 12 (.elS 7 (.g 8) (.g 10)), qh 13 7 12, qG 6 (.alloc [.int .i64 0, .int .i64 0, .int .i64 0, .bool false, .bool false, .bool false, .str []]), qi 7 6 13])
 (.seq (.seq (.region [qd 14 3 6, qG 15 (.load false 1 (.l 14))])
 (.cond (.g 15) (.region [qG 4 (.mv (qs []))])
 (.skip)))
 (.seq (.region [qa 16 4, qd 17 6 6, qf 18 1 17, qL 19 (.bin .add (.l 16) (.l 18)), qb 4 19])
 (.seq (.region [qd 20 4 6, qG 21 (.load false 1 (.l 20))])
 (.cond (.g 21) (.region [qa 22 3, qd 23 1 6, qf 24 1 23, qd 25 2 6, qf 26 1 25, qd 27 5 6, qf 28 1 27, qa 29 4, qL 30 (.build [.int .i64 0, .int .i64 0, .bool false, .str []] [(0, 1, .l 24), (1, 1, .l 26), (2, 1, .l 28), (3, 1, .l 29)]), qL 31 (.lits 4 [.l 30]), qL 32 (.append 4 40 (.l 22) (.l 31)), qb 3 32])
 (.skip)))))))
 (.region [qL 33 (.bin .add (.g 10) (qn 1)), qb 10 33])))))))
 (.seq (.region [qa 34 3, qb 2 34])
 (.ret)))))⟩
theorem ln_impl_saidIn : Linked Tryz.prog fn_impl_saidIn ac_impl_saidIn := ⟨Tryz.f136, _, Tryz.func136, rfl, by kernel_rfl, by kernel_rfl, by kernel_rfl, by kernel_rfl⟩
def ac_impl_hexOf : AF := ⟨[0, 2, 3, 4, 12], [.t 2],
 .seq (.region [qG 2 (.mv (qs []))])
 (.seq (.region [qa 5 0, qL 6 (.lenStr (.l 5)), qL 7 (.bin .mul (qn 2) (.l 6)), qL 8 (.make 1 1 (.int .u8 0) (qn 0) (.l 7)), qb 3 8])
 (.seq (.seq (.region [qG 4 (.mv (qn 0))])
 (.block 0 (.loop (.seq (.seq (.region [qa 9 4, qa 10 0, qL 11 (.lenStr (.l 10)), qG 12 (.bin .lss (.l 9) (.l 11))])
 (.cond (.g 12) (.skip)
 (.exit 0)))
 (.seq (.block 1 (.drawn [qa 15 3, qa 16 0, qa 17 4, qL 18 (.idxStr (.l 16) (.l 17)), qL 19 (.bin .shr (.l 18) (.c (.int .u64 4))), qL 20 (.idxStr (qs [48, 49, 50, 51, 52, 53, 54, 55, 56, 57, 97, 98, 99, 100, 101, 102]) (.l 19)), qa 21 0, qa 22 4, qL 23 (.idxStr (.l 21) (.l 22)), qL 24 (.bin .and (.l 23) (.c (.int .u8 15))), qL 25 (.idxStr (qs [48, 49, 50, 51, 52, 53, 54, 55, 56, 57, 97, 98, 99, 100, 101, 102]) (.l 24)), qL 26 (.lits 1 [.l 20, .l 25])] [[], [], [], [], [], [], [], [], [], [], [], []] [qL 27 (.append 1 1 (.l 15) (.l 26)), qb 3 27]))
 (.region [qa 13 4, qL 14 (.bin .add (.l 13) (qn 1)), qb 4 14]))))))
 (.seq (.region [qa 28 3, qL 29 (.toStr (.l 28)), qb 2 29])
 (.ret))))⟩
theorem ln_impl_hexOf : Linked Tryz.prog fn_impl_hexOf ac_impl_hexOf := ⟨Tryz.f137, _, Tryz.func137, rfl, by kernel_rfl, by kernel_rfl, by kernel_rfl, by kernel_rfl⟩
def ac_impl_LongGet : AF := ⟨[0, 1, 4, 5, 14], [.t 4, .t 5],
 .seq (.region [qG 4 (.mv (qn 0)), qG 5 (.mv qo)])
 (.seq (.seq (.region [qa 6 1, qL 7 (.bin .lss (.l 6) (qn 0)), qc 8 7, qF 9 (.mv (.g 1)) 8, qF 10 (.mv (.g 0)) 8, qF 11 (.lenStr (.l 10)) 8, qF 12 (.bin .sub (.l 11) (qn 4)) 8, qF 13 (.bin .gtr (.l 9) (.l 12)) 8, qG 14 (.pick (.l 8) qt (.l 13))])
 (.cond (.g 14) (.seq (.region [qG 4 (.mv (qn 0)), qG 5 (.mv qo)])
 (.ret))
 (.skip)))
 (.seq (.drawn [qa 15 0, qa 16 1, qL 17 (.idxStr (.l 15) (.l 16)), qL 18 (.conv .i64 (.l 17)), qL 19 (.bin .shl (.l 18) (.c (.int .u64 24))), qa 20 0, qa 21 1, qL 22 (.bin .add (.l 21) (qn 1)), qL 23 (.idxStr (.l 20) (.l 22)), qL 24 (.conv .i64 (.l 23)), qL 25 (.bin .shl (.l 24) (.c (.int .u64 16))), qL 26 (.bin .or (.l 19) (.l 25)), qa 27 0, qa 28 1, qL 29 (.bin .add (.l 28) (qn 2)), qL 30 (.idxStr (.l 27) (.l 29)), qL 31 (.conv .i64 (.l 30)), qL 32 (.bin .shl (.l 31) (.c (.int .u64 8))), qL 33 (.bin .or (.l 26) (.l 32)), qa 34 0, qa 35 1, qL 36 (.bin .add (.l 35) (qn 3)), qL 37 (.idxStr (.l 34) (.l 36)), qL 38 (.conv .i64 (.l 37))] [[], [], [], [], [], [], [], [], [], [], [], [], [], [], [], [], [], [], [], [], [], [], [], []] [qL 39 (.bin .or (.l 33) (.l 38)), qb 4 39, qG 5 (.mv qt)])
 (.ret)))⟩
theorem ln_impl_LongGet : Linked Tryz.prog fn_impl_LongGet ac_impl_LongGet := ⟨Tryz.f138, _, Tryz.func138, rfl, by kernel_rfl, by kernel_rfl, by kernel_rfl, by kernel_rfl⟩
def ac_impl_WordGet : AF := ⟨[0, 1, 4, 5, 14], [.t 4, .t 5],
 .seq (.region [qG 4 (.mv (qn 0)), qG 5 (.mv qo)])
 (.seq (.seq (.region [qa 6 1, qL 7 (.bin .lss (.l 6) (qn 0)), qc 8 7, qF 9 (.mv (.g 1)) 8, qF 10 (.mv (.g 0)) 8, qF 11 (.lenStr (.l 10)) 8, qF 12 (.bin .sub (.l 11) (qn 2)) 8, qF 13 (.bin .gtr (.l 9) (.l 12)) 8, qG 14 (.pick (.l 8) qt (.l 13))])
 (.cond (.g 14) (.seq (.region [qG 4 (.mv (qn 0)), qG 5 (.mv qo)])
 (.ret))
 (.skip)))
 (.seq (.drawn [qa 15 0, qa 16 1, qL 17 (.idxStr (.l 15) (.l 16)), qL 18 (.conv .i64 (.l 17)), qL 19 (.bin .shl (.l 18) (.c (.int .u64 8))), qa 20 0, qa 21 1, qL 22 (.bin .add (.l 21) (qn 1)), qL 23 (.idxStr (.l 20) (.l 22)), qL 24 (.conv .i64 (.l 23))] [[], [], [], [], [], [], [], [], [], []] [qL 25 (.bin .or (.l 19) (.l 24)), qb 4 25, qG 5 (.mv qt)])
 (.ret)))⟩
theorem ln_impl_WordGet : Linked Tryz.prog fn_impl_WordGet ac_impl_WordGet := ⟨Tryz.f139, _, Tryz.func139, rfl, by kernel_rfl, by kernel_rfl, by kernel_rfl, by kernel_rfl⟩
def ac_impl_ChunkGet : AF := ⟨[0, 1, 4, 5, 6, 7, 9, 10, 19, 34, 45, 52, 58], [.c 4 true 3, .t 5, .t 6],
 .seq (.region [qG 4 (.alloc [.int .i64 0, .int .i64 0, .str []]), qG 5 (.mv (qn 0)), qG 6 (.mv qo)])
 (.seq (.seq (.region [qa 11 1, qL 12 (.bin .lss (.l 11) (qn 0)), qc 13 12, qF 14 (.mv (.g 1)) 13, qF 15 (.mv (.g 0)) 13, qF 16 (.lenStr (.l 15)) 13, qF 17 (.bin .sub (.l 16) (qn 4)) 13, qF 18 (.bin .gtr (.l 14) (.l 17)) 13, qG 19 (.pick (.l 13) qt (.l 18))])
 (.cond (.g 19) (.seq (.region [qL 20 (.build [.int .i64 0, .int .i64 0, .str []] []), qi 3 4 20, qG 5 (.mv (qn 0)), qG 6 (.mv qo)])
 (.ret))
 (.skip)))
 (.seq (.region [qa 22 0, qa 23 1, qL 24 (.bin .add (.l 23) (qn 2)), qL 25 (.call fn_impl_WordGet [.l 22, .l 24]), qc 21 25, qL 26 (.extract (.l 21) 0), qL 27 (.extract (.l 21) 1), qb 7 26, qc 8 27])
 (.seq (.seq (.region [qa 28 7, qL 29 (.bin .lss (.l 28) (qn 4)), qc 30 29, qF 31 (.mv (.g 7)) 30, qF 32 (.bin .sub (.l 31) (qn 4)) 30, qF 33 (.bin .gtr (.l 32) (qn 60)) 30, qG 34 (.pick (.l 30) qt (.l 33))])
 (.cond (.g 34) (.seq (.region [qL 35 (.build [.int .i64 0, .int .i64 0, .str []] []), qi 3 4 35, qG 5 (.mv (qn 0)), qG 6 (.mv qo)])
 (.ret))
 (.skip)))
 (.seq (.region [qa 36 1, qa 37 7, qL 38 (.bin .add (.l 37) (qn 3)), qL 39 (.bin .quo (.l 38) (qn 4)), qL 40 (.bin .mul (.l 39) (qn 4)), qL 41 (.bin .add (.l 36) (.l 40)), qb 9 41])
 (.seq (.seq (.region [qa 42 9, qa 43 0, qL 44 (.lenStr (.l 43)), qG 45 (.bin .gtr (.l 42) (.l 44))])
 (.cond (.g 45) (.seq (.region [qL 46 (.build [.int .i64 0, .int .i64 0, .str []] []), qi 3 4 46, qG 5 (.mv (qn 0)), qG 6 (.mv qo)])
 (.ret))
 (.skip)))
 (.seq (.seq (.region [qa 47 1, qa 48 7, qL 49 (.bin .add (.l 47) (.l 48)), qb 10 49])
 (.block 0 (.loop (.seq (.seq (.region [qa 50 10, qa 51 9, qG 52 (.bin .lss (.l 50) (.l 51))])
 (.cond (.g 52) (.skip)
 (.exit 0)))
 (.seq (.block 1 (.seq (.region [qa 55 0, qa 56 10, qL 57 (.idxStr (.l 55) (.l 56)), qG 58 (.bin .neq (.l 57) (.c (.int .u8 0)))])
 (.cond (.g 58) (.seq (.region [qL 59 (.build [.int .i64 0, .int .i64 0, .str []] []), qi 3 4 59, qG 5 (.mv (qn 0)), qG 6 (.mv qo)])
 (.ret))
 (.skip))))
 (.region [qa 53 10, qL 54 (.bin .add (.l 53) (qn 1)), qb 10 54]))))))
 (.seq (.drawn [qa 60 0, qa 61 1, qL 62 (.idxStr (.l 60) (.l 61)), qL 63 (.conv .i64 (.l 62)), qa 64 0, qa 65 1, qL 66 (.bin .add (.l 65) (qn 1)), qL 67 (.idxStr (.l 64) (.l 66)), qL 68 (.conv .i64 (.l 67)), qa 69 0, qa 70 1, qL 71 (.bin .add (.l 70) (qn 4)), qa 72 1, qa 73 7, qL 74 (.bin .add (.l 72) (.l 73)), qL 75 (.cutStr (.l 69) (some (.l 71)) (some (.l 74))), qL 76 (.build [.int .i64 0, .int .i64 0, .str []] [(0, 1, .l 63), (1, 1, .l 68), (2, 1, .l 75)]), qa 77 9, qi 3 4 76] [[], [], [], [], [], [], [], [], [], [], [], [], [], [], [], [], [], [], []] [qb 5 77, qG 6 (.mv qt)])
 (.ret))))))))⟩
theorem ln_impl_ChunkGet : Linked Tryz.prog fn_impl_ChunkGet ac_impl_ChunkGet := ⟨Tryz.f140, _, Tryz.func140, rfl, by kernel_rfl, by kernel_rfl, by kernel_rfl, by kernel_rfl⟩
def ac_impl_PacketAlone : AF := ⟨[0, 1, 2, 4, 7, 11, 13, 14, 15, 16, 31], [.t 2],
 .seq (.region [qG 1 (.box (.g 0)), qG 2 (.mv qo)])
 (.seq (.seq (.region [qg 5 4 1, qL 6 (.call fn_impl_PacketValid [.l 5]), qG 7 (.un .not (.l 6))])
 (.cond (.g 7) (.seq (.region [qG 2 (.mv qo)])
 (.ret))
 (.skip)))
 (.seq (.seq (.region [qd 8 3 1, qf 9 1 8, qL 10 (.len (.l 9)), qG 11 (.bin .eql (.l 10) (qn 1))])
 (.cond (.g 11) (.seq (.region [qG 2 (.mv qt)])
 (.ret))
 (.skip)))
 (.seq (.seq (.region [qd 12 3 1, qG 13 (.load false 1 (.l 12)), qG 14 (.len (.g 13)), qG 15 (.mv (qn 0))])
 (.block 0 (.loop (.seq (.region [qG 16 (.bin .lss (.g 15) (.g 14))])
 (.seq (.cond (.g 16) (.skip)
 (.exit 0))
 (.seq (.block 1 (.seq (.region [qL 17 (.elS 3 (.g 13) (.g 15)), qh 18 3 17, qG 4 (.alloc [.int .i64 0, .int .i64 0, .str []]), qi 3 4 18])
 (.seq (.region [qd 19 0 4, qf 20 1 19, qL 21 (.bin .eql (.l 20) (qn 1)), qc 22 21, qF 23 (.faddr 0 (.g 4)) 22, qF 24 (.load false 1 (.l 23)) 22, qF 25 (.bin .eql (.l 24) (qn 2)) 22, qL 26 (.pick (.l 22) qt (.l 25)), qc 27 26, qF 28 (.faddr 0 (.g 4)) 27, qF 29 (.load false 1 (.l 28)) 27, qF 30 (.bin .eql (.l 29) (qn 14)) 27, qG 31 (.pick (.l 27) qt (.l 30))])
 (.cond (.g 31) (.seq (.region [qG 2 (.mv qo)])
 (.ret))
 (.skip)))))
 (.region [qL 32 (.bin .add (.g 15) (qn 1)), qb 15 32])))))))
 (.seq (.region [qG 2 (.mv qt)])
 (.ret)))))⟩
theorem ln_impl_PacketAlone : Linked Tryz.prog fn_impl_PacketAlone ac_impl_PacketAlone := ⟨Tryz.f141, _, Tryz.func141, rfl, by kernel_rfl, by kernel_rfl, by kernel_rfl, by kernel_rfl⟩
def ac_impl_Assoc_handle : AF := ⟨[0, 1, 2, 4, 6, 7, 8, 9, 16, 30, 31, 39, 67, 72, 85, 89, 106, 111, 115, 131, 135, 150, 151, 164, 168, 174, 184, 206, 207, 217, 227, 239, 240, 249], [.t 6],
 .seq (.region [qG 4 (.box (.g 1)), qG 6 (.mv (qn 0))])
 (.seq (.drawn [qa 10 0, qL 11 (.nilc (.l 10)), qe 12 4 11, qa 13 0, qL 14 (.nilc (.l 13)), qe 15 9 14, qb 7 12] [[], [], [], [], [], [], []] [qb 8 15])
 (.seq (.seq (.region [qG 16 (.mv (.g 2))])
 (.cond (.g 16) (.drawn [qa 17 0, qL 18 (.nilc (.l 17)), qe 19 9 18, qa 20 0, qL 21 (.nilc (.l 20)), qe 22 4 21, qb 7 19] [[], [], [], [], [], [], []] [qb 8 22])
 (.skip)))
 (.seq (.region [qa 23 2, qa 24 0, qL 25 (.nilc (.l 24)), qe 26 3 25, qf 27 1 26, qL 28 (.beq false (.l 23) (.l 27)), qb 9 28])
 (.seq (.seq (.region [qd 29 0 4, qG 30 (.load false 1 (.l 29))])
 (.block 0 (.seq (.seq (.region [qL 32 (.bin .eql (.g 30) (qn 1)), qb 31 32])
 (.cond (.g 31) (.skip)
 (.region [qL 33 (.bin .eql (.g 30) (qn 2)), qb 31 33])))
 (.cond (.g 31) (.seq (.region [qa 34 0, qg 35 3 4, qa 36 2, qa 37 7, qL 38 (.call fn_impl_Assoc_greet [.l 34, .l 35, .l 36, .l 37]), qb 6 38])
 (.ret))
 (.seq (.region [qL 40 (.bin .eql (.g 30) (qn 0)), qb 39 40])
 (.cond (.g 39) (.seq (.region [qa 41 0, qL 42 (.nilc (.l 41)), qe 43 2 42, qf 44 1 43, qL 45 (.bin .eql (.l 44) (qn 4)), qc 46 45, qF 47 (.mv (.g 0)) 46, qF 48 (.nilc (.l 47)) 46, qF 49 (.faddr 2 (.l 48)) 46, qF 50 (.load false 1 (.l 49)) 46, qF 51 (.bin .eql (.l 50) (qn 3)) 46, qF 52 (.mv (.l 51)) 46, qT 53 (.mv (.g 2)) 52, qT 54 (.un .not (.l 53)) 52, qF 55 (.pick (.l 52) (.l 54) qo) 46, qL 56 (.pick (.l 46) qt (.l 55)), qc 57 56, qF 58 (.mv (.g 0)) 57, qF 59 (.nilc (.l 58)) 57, qF 60 (.faddr 2 (.l 59)) 57, qF 61 (.load false 1 (.l 60)) 57, qF 62 (.bin .eql (.l 61) (qn 5)) 57, qF 63 (.mv (.l 62)) 57, qT 64 (.mv (.g 9)) 63, qT 65 (.un .not (.l 64)) 63, qF 66 (.pick (.l 63) (.l 65) qo) 57, qG 67 (.pick (.l 57) qt (.l 66))])
 (.cond (.g 67) (.seq (.region [qa 68 0, qg 69 3 4, qa 70 7, qL 71 (.call fn_impl_Assoc_take [.l 68, .l 69, .l 70]), qb 6 71])
 (.ret))
 (.skip)))
 (.seq (.region [qL 73 (.bin .eql (.g 30) (qn 3)), qb 72 73])
 (.cond (.g 72) (.seq (.region [qa 74 0, qL 75 (.nilc (.l 74)), qe 76 2 75, qf 77 1 76, qL 78 (.bin .eql (.l 77) (qn 4)), qc 79 78, qF 80 (.mv (.g 0)) 79, qF 81 (.nilc (.l 80)) 79, qF 82 (.faddr 2 (.l 81)) 79, qF 83 (.load false 1 (.l 82)) 79, qF 84 (.bin .eql (.l 83) (qn 5)) 79, qG 85 (.pick (.l 79) qt (.l 84))])
 (.cond (.g 85) (.seq (.region [qg 86 3 4, qa 87 8, qL 88 (.call fn_impl_acknowledge [.l 86, .l 87]), qb 6 88])
 (.ret))
 (.skip)))
 (.seq (.region [qL 90 (.bin .eql (.g 30) (qn 10)), qb 89 90])
 (.cond (.g 89) (.seq (.region [qa 91 2, qL 92 (.un .not (.l 91)), qc 93 92, qT 94 (.mv (.g 0)) 93, qT 95 (.nilc (.l 94)) 93, qT 96 (.faddr 2 (.l 95)) 93, qT 97 (.load false 1 (.l 96)) 93, qT 98 (.bin .geq (.l 97) (qn 2)) 93, qL 99 (.pick (.l 93) (.l 98) qo), qc 100 99, qT 101 (.mv (.g 0)) 100, qT 102 (.nilc (.l 101)) 100, qT 103 (.faddr 2 (.l 102)) 100, qT 104 (.load false 1 (.l 103)) 100, qT 105 (.bin .leq (.l 104) (qn 4)) 100, qG 106 (.pick (.l 100) (.l 105) qo)])
 (.cond (.g 106) (.seq (.seq (.region [qa 107 0, qL 108 (.nilc (.l 107)), qe 109 2 108, qf 110 1 109, qG 111 (.bin .eql (.l 110) (qn 2))])
 (.cond (.g 111) (.region [qa 112 0, qL 113 (.nilc (.l 112)), qe 114 2 113, qN (.store 1 (.l 114) (qn 3))])
 (.skip)))
 (.seq (.region [qG 6 (.mv (qn 0))])
 (.ret)))
 (.skip)))
 (.seq (.region [qL 116 (.bin .eql (.g 30) (qn 11)), qb 115 116])
 (.cond (.g 115) (.seq (.region [qa 117 2, qc 118 117, qT 119 (.mv (.g 0)) 118, qT 120 (.nilc (.l 119)) 118, qT 121 (.faddr 2 (.l 120)) 118, qT 122 (.load false 1 (.l 121)) 118, qT 123 (.bin .eql (.l 122) (qn 3)) 118, qT 124 (.mv (.l 123)) 118, qF 125 (.mv (.g 0)) 124, qF 126 (.nilc (.l 125)) 124, qF 127 (.faddr 2 (.l 126)) 124, qF 128 (.load false 1 (.l 127)) 124, qF 129 (.bin .eql (.l 128) (qn 4)) 124, qT 130 (.pick (.l 124) qt (.l 129)) 118, qG 131 (.pick (.l 118) (.l 130) qo)])
 (.cond (.g 131) (.seq (.region [qa 132 0, qL 133 (.nilc (.l 132)), qe 134 2 133, qN (.store 1 (.l 134) (qn 4))])
 (.seq (.region [qG 6 (.mv (qn 0))])
 (.ret)))
 (.skip)))
 (.seq (.seq (.region [qL 136 (.bin .eql (.g 30) (qn 4)), qb 135 136])
 (.cond (.g 135) (.skip)
 (.seq (.region [qL 137 (.bin .eql (.g 30) (qn 5)), qb 135 137])
 (.cond (.g 135) (.skip)
 (.region [qL 138 (.bin .eql (.g 30) (qn 9)), qb 135 138])))))
 (.cond (.g 135) (.seq (.region [qa 139 0, qL 140 (.nilc (.l 139)), qe 141 2 140, qf 142 1 141, qL 143 (.bin .geq (.l 142) (qn 3)), qc 144 143, qT 145 (.mv (.g 0)) 144, qT 146 (.nilc (.l 145)) 144, qT 147 (.faddr 2 (.l 146)) 144, qT 148 (.load false 1 (.l 147)) 144, qT 149 (.bin .leq (.l 148) (qn 6)) 144, qG 150 (.pick (.l 144) (.l 149) qo)])
 (.cond (.g 150) (.seq (.region [qG 6 (.mv (qn 0))])
 (.ret))
 (.skip)))
 (.seq (.region [qL 152 (.bin .eql (.g 30) (qn 6)), qb 151 152])
 (.cond (.g 151) (.seq (.region [qa 153 0, qL 154 (.nilc (.l 153)), qe 155 2 154, qf 156 1 155, qL 157 (.bin .geq (.l 156) (qn 1)), qc 158 157, qT 159 (.mv (.g 0)) 158, qT 160 (.nilc (.l 159)) 158, qT 161 (.faddr 2 (.l 160)) 158, qT 162 (.load false 1 (.l 161)) 158, qT 163 (.bin .leq (.l 162) (qn 6)) 158, qG 164 (.pick (.l 158) (.l 163) qo)])
 (.cond (.g 164) (.seq (.region [qa 165 0, qL 166 (.nilc (.l 165)), qe 167 2 166, qN (.store 1 (.l 167) (qn 7))])
 (.seq (.region [qG 6 (.mv (qn 0))])
 (.ret)))
 (.skip)))
 (.seq (.region [qL 169 (.bin .eql (.g 30) (qn 7)), qb 168 169])
 (.cond (.g 168) (.seq (.seq (.region [qa 170 0, qL 171 (.nilc (.l 170)), qe 172 2 171, qf 173 1 172, qG 174 (.bin .eql (.l 173) (qn 4))])
 (.cond (.g 174) (.seq (.seq (.drawn [qa 175 7, qL 176 (.nilc (.l 175)), qe 177 4 176, qf 178 1 177, qa 179 7, qL 180 (.nilc (.l 179)), qe 181 3 180, qf 182 1 181, qL 183 (.len (.l 182))] [[], [], [], [], [], [], [], [3], [3]] [qG 184 (.bin .neq (.l 178) (.l 183))])
 (.cond (.g 184) (.seq (.region [qG 6 (.mv (qn 10))])
 (.ret))
 (.skip)))
 (.seq (.region [qa 185 0, qa 186 0, qa 187 2, qL 188 (.nilc (.l 185)), qe 189 2 188, qN (.store 1 (.l 189) (qn 5)), qL 190 (.nilc (.l 186)), qe 191 3 190, qj 1 191 187])
 (.seq (.region [qG 6 (.mv (qn 0))])
 (.ret))))
 (.skip)))
 (.seq (.region [qa 192 0, qL 193 (.nilc (.l 192)), qe 194 2 193, qf 195 1 194, qL 196 (.bin .eql (.l 195) (qn 5)), qc 197 196, qF 198 (.mv (.g 0)) 197, qF 199 (.nilc (.l 198)) 197, qF 200 (.faddr 2 (.l 199)) 197, qF 201 (.load false 1 (.l 200)) 197, qF 202 (.bin .eql (.l 201) (qn 6)) 197, qL 203 (.pick (.l 197) qt (.l 202)), qc 204 203, qT 205 (.mv (.g 9)) 204, qG 206 (.pick (.l 204) (.l 205) qo)])
 (.cond (.g 206) (.seq (.region [qG 6 (.mv (qn 0))])
 (.ret))
 (.skip))))
 (.seq (.region [qL 208 (.bin .eql (.g 30) (qn 8)), qb 207 208])
 (.cond (.g 207) (.seq (.seq (.region [qa 209 0, qL 210 (.nilc (.l 209)), qe 211 2 210, qf 212 1 211, qL 213 (.bin .eql (.l 212) (qn 5)), qc 214 213, qT 215 (.mv (.g 9)) 214, qT 216 (.un .not (.l 215)) 214, qG 217 (.pick (.l 214) (.l 216) qo)])
 (.cond (.g 217) (.seq (.seq (.drawn [qa 218 7, qL 219 (.nilc (.l 218)), qe 220 4 219, qf 221 1 220, qa 222 7, qL 223 (.nilc (.l 222)), qe 224 3 223, qf 225 1 224, qL 226 (.len (.l 225))] [[], [], [], [], [], [], [], [3], [3]] [qG 227 (.bin .neq (.l 221) (.l 226))])
 (.cond (.g 227) (.seq (.region [qG 6 (.mv (qn 10))])
 (.ret))
 (.skip)))
 (.seq (.region [qa 228 0, qL 229 (.nilc (.l 228)), qe 230 2 229, qN (.store 1 (.l 230) (qn 6))])
 (.seq (.region [qG 6 (.mv (qn 0))])
 (.ret))))
 (.skip)))
 (.seq (.region [qa 231 0, qL 232 (.nilc (.l 231)), qe 233 2 232, qf 234 1 233, qL 235 (.bin .eql (.l 234) (qn 6)), qc 236 235, qT 237 (.mv (.g 9)) 236, qT 238 (.un .not (.l 237)) 236, qG 239 (.pick (.l 236) (.l 238) qo)])
 (.cond (.g 239) (.seq (.region [qG 6 (.mv (qn 0))])
 (.ret))
 (.skip))))
 (.seq (.region [qL 241 (.bin .eql (.g 30) (qn 14)), qb 240 241])
 (.cond (.g 240) (.seq (.region [qa 242 0, qL 243 (.nilc (.l 242)), qe 244 2 243, qf 245 1 244, qL 246 (.bin .eql (.l 245) (qn 6)), qc 247 246, qT 248 (.mv (.g 9)) 247, qG 249 (.pick (.l 247) (.l 248) qo)])
 (.cond (.g 249) (.seq (.region [qa 250 0, qL 251 (.nilc (.l 250)), qe 252 2 251, qN (.store 1 (.l 252) (qn 7))])
 (.seq (.region [qG 6 (.mv (qn 0))])
 (.ret)))
 (.skip)))
 (.skip)))))))))))))))))))))))
 (.seq (.region [qG 6 (.mv (qn 3))])
 (.ret))))))⟩
theorem ln_impl_Assoc_handle : Linked Tryz.prog fn_impl_Assoc_handle ac_impl_Assoc_handle := ⟨Tryz.f142, _, Tryz.func142, rfl, by kernel_rfl, by kernel_rfl, by kernel_rfl, by kernel_rfl⟩
def ac_spec_l3Ok : AF := ⟨[0, 2], [.t 2],
 .seq (.region [qG 2 (.mv qo)])
 (.seq (.region [qa 3 0, qL 4 (.call fn_spec_l6In [.l 3, qn 0, qn 65535]), qb 2 4])
 (.ret))⟩
theorem ln_spec_l3Ok : Linked Tryz.prog fn_spec_l3Ok ac_spec_l3Ok := ⟨Tryz.f148, _, Tryz.func148, rfl, by kernel_rfl, by kernel_rfl, by kernel_rfl, by kernel_rfl⟩
def ac_spec_InitPut : AF := ⟨[0, 1, 2, 4, 5, 6, 9, 27], [.c 4 true 3, .t 5],
 .seq (.region [qG 2 (.box (.g 0)), qG 4 (.alloc [.int .i64 0, .int .i64 0, .str []]), qG 5 (.mv qo)])
 (.seq (.seq (.region [qg 7 4 2, qL 8 (.call fn_spec_l12Init [.l 7]), qG 9 (.un .not (.l 8))])
 (.cond (.g 9) (.seq (.region [qL 10 (.build [.int .i64 0, .int .i64 0, .str []] []), qi 3 4 10, qG 5 (.mv qo)])
 (.ret))
 (.skip)))
 (.seq (.drawn [qd 11 0 2, qf 12 1 11, qL 13 (.call fn_spec_l1Long [.l 12]), qd 14 1 2, qf 15 1 14, qL 16 (.call fn_spec_l1Word [.l 15]), qL 17 (.bin .add (.l 13) (.l 16)), qd 18 2 2, qf 19 1 18, qL 20 (.call fn_spec_l1Word [.l 19]), qL 21 (.bin .add (.l 17) (.l 20)), qd 22 3 2, qf 23 1 22, qL 24 (.call fn_spec_l1Word [.l 23]), qL 25 (.bin .add (.l 21) (.l 24)), qL 26 (.build [.int .i64 0, .int .i64 0, .str []] [(0, 1, qn 1), (2, 1, .l 25)]), qG 6 (.alloc [.int .i64 0, .int .i64 0, .str []])] [[], [], [], [], [2, 1], [], [], [], [5, 4, 2, 1], [], [], [], [9, 8, 5, 4, 2, 1], [], [], [], [13, 12, 9, 8, 5, 4, 2, 1]] [qi 3 6 26])
 (.seq (.seq (.region [qG 27 (.mv (.g 1))])
 (.cond (.g 27) (.region [qd 28 0 6, qN (.store 1 (.l 28) (qn 2))])
 (.skip)))
 (.seq (.region [qg 29 3 6, qi 3 4 29, qG 5 (.mv qt)])
 (.ret)))))⟩
theorem ln_spec_InitPut : Linked Tryz.prog fn_spec_InitPut ac_spec_InitPut := ⟨Tryz.f149, _, Tryz.func149, rfl, by kernel_rfl, by kernel_rfl, by kernel_rfl, by kernel_rfl⟩
def ac_spec_l31Ssn : AF := ⟨[0, 1, 4, 5, 6, 10, 34], [.t 4],
 .seq (.region [qG 4 (.mv (qn 0))])
 (.seq (.region [qG 5 (.mv (qn 0))])
 (.seq (.seq (.region [qG 6 (.mv (qn 0))])
 (.block 0 (.loop (.seq (.seq (.region [qa 7 6, qa 8 0, qL 9 (.len (.l 8)), qG 10 (.bin .lss (.l 7) (.l 9))])
 (.cond (.g 10) (.skip)
 (.exit 0)))
 (.seq (.block 1 (.seq (.region [qa 13 0, qa 14 6, qL 15 (.elS 7 (.l 13) (.l 14)), qe 16 3 15, qf 17 1 16, qc 18 17, qT 19 (.mv (.g 0)) 18, qT 20 (.mv (.g 6)) 18, qT 21 (.elS 7 (.l 19) (.l 20)) 18, qT 22 (.faddr 5 (.l 21)) 18, qT 23 (.load false 1 (.l 22)) 18, qT 24 (.un .not (.l 23)) 18, qL 25 (.pick (.l 18) (.l 24) qo), qc 26 25, qT 27 (.mv (.g 0)) 26, qT 28 (.mv (.g 6)) 26, qT 29 (.elS 7 (.l 27) (.l 28)) 26, qT 30 (.faddr 1 (.l 29)) 26, qT 31 (.load false 1 (.l 30)) 26, qT 32 (.mv (.g 1)) 26, qT 33 (.bin .eql (.l 31) (.l 32)) 26, qG 34 (.pick (.l 26) (.l 33) qo)])
 (.cond (.g 34) (.region [qa 35 5, qL 36 (.bin .add (.l 35) (qn 1)), qb 5 36])
 (.skip))))
 (.region [qa 11 6, qL 12 (.bin .add (.l 11) (qn 1)), qb 6 12]))))))
 (.seq (.region [qa 37 5, qb 4 37])
 (.ret))))⟩
theorem ln_spec_l31Ssn : Linked Tryz.prog fn_spec_l31Ssn ac_spec_l31Ssn := ⟨Tryz.f150, _, Tryz.func150, rfl, by kernel_rfl, by kernel_rfl, by kernel_rfl, by kernel_rfl⟩
def ac_spec_l3Add : AF := ⟨[0, 1, 4], [.t 4],
 .seq (.region [qG 4 (.mv (qn 0))])
 (.seq (.region [qa 5 0, qa 6 1, qL 7 (.bin .rem (.l 6) (qn 65536)), qL 8 (.bin .add (.l 5) (.l 7)), qL 9 (.bin .add (.l 8) (qn 65536)), qL 10 (.bin .rem (.l 9) (qn 65536)), qb 4 10])
 (.ret))⟩
theorem ln_spec_l3Add : Linked Tryz.prog fn_spec_l3Add ac_spec_l3Add := ⟨Tryz.f151, _, Tryz.func151, rfl, by kernel_rfl, by kernel_rfl, by kernel_rfl, by kernel_rfl⟩
def ac_spec_l12Data : AF := ⟨[0, 1, 2], [.t 2],
 .seq (.region [qG 1 (.box (.g 0)), qG 2 (.mv qo)])
 (.seq (.region [qd 3 0 1, qf 4 1 3, qL 5 (.call fn_spec_l3Ok [.l 4]), qc 6 5, qT 7 (.faddr 1 (.g 1)) 6, qT 8 (.load false 1 (.l 7)) 6, qT 9 (.call fn_spec_l3Ok [.l 8]) 6, qL 10 (.pick (.l 6) (.l 9) qo), qc 11 10, qT 12 (.faddr 2 (.g 1)) 11, qT 13 (.load false 1 (.l 12)) 11, qT 14 (.call fn_spec_l3Ok [.l 13]) 11, qL 15 (.pick (.l 11) (.l 14) qo), qc 16 15, qT 17 (.faddr 6 (.g 1)) 16, qT 18 (.load false 1 (.l 17)) 16, qT 19 (.lenStr (.l 18)) 16, qT 20 (.call fn_spec_l6In [.l 19, qn 1, qn 20]) 16, qL 21 (.pick (.l 16) (.l 20) qo), qb 2 21])
 (.ret))⟩
theorem ln_spec_l12Data : Linked Tryz.prog fn_spec_l12Data ac_spec_l12Data := ⟨Tryz.f152, _, Tryz.func152, rfl, by kernel_rfl, by kernel_rfl, by kernel_rfl, by kernel_rfl⟩
def ac_spec_l12Bit : AF := ⟨[0, 1, 4, 5], [.t 4],
 .seq (.region [qG 4 (.mv (qn 0))])
 (.seq (.seq (.region [qG 5 (.mv (.g 0))])
 (.cond (.g 5) (.seq (.region [qa 6 1, qb 4 6])
 (.ret))
 (.skip)))
 (.seq (.region [qG 4 (.mv (qn 0))])
 (.ret)))⟩
theorem ln_spec_l12Bit : Linked Tryz.prog fn_spec_l12Bit ac_spec_l12Bit := ⟨Tryz.f153, _, Tryz.func153, rfl, by kernel_rfl, by kernel_rfl, by kernel_rfl, by kernel_rfl⟩
def ac_spec_l1Word : AF := ⟨[0, 2], [.t 2],
 .seq (.region [qG 2 (.mv (qs []))])
 (.seq (.region [qa 3 0, qL 4 (.bin .quo (.l 3) (qn 256)), qL 5 (.conv .u8 (.l 4)), qa 6 0, qL 7 (.bin .rem (.l 6) (qn 256)), qL 8 (.conv .u8 (.l 7)), qL 9 (.lits 1 [.l 5, .l 8]), qL 10 (.toStr (.l 9)), qb 2 10])
 (.ret))⟩
theorem ln_spec_l1Word : Linked Tryz.prog fn_spec_l1Word ac_spec_l1Word := ⟨Tryz.f154, _, Tryz.func154, rfl, by kernel_rfl, by kernel_rfl, by kernel_rfl, by kernel_rfl⟩
def ac_spec_l12Sack : AF := ⟨[0, 1, 2, 3, 4, 5, 10, 34], [.t 2],
 .seq (.region [qG 1 (.box (.g 0)), qG 2 (.mv qo)])
 (.seq (.region [qG 3 (.mv (qn 0))])
 (.seq (.seq (.region [qG 4 (.mv (qn 0))])
 (.block 0 (.loop (.seq (.seq (.region [qa 6 4, qd 7 1 1, qf 8 1 7, qL 9 (.len (.l 8)), qG 10 (.bin .lss (.l 6) (.l 9))])
 (.cond (.g 10) (.skip)
 (.exit 0)))
 (.seq (.block 1 (.seq (.region [qd 13 1 1, qf 14 1 13, qa 15 4, qL 16 (.elS 2 (.l 14) (.l 15)), qh 17 2 16, qG 5 (.alloc [.int .i64 0, .int .i64 0]), qi 2 5 17])
 (.seq (.seq (.region [qd 18 0 5, qf 19 1 18, qa 20 3, qL 21 (.bin .add (.l 20) (qn 2)), qL 22 (.bin .lss (.l 19) (.l 21)), qc 23 22, qF 24 (.faddr 1 (.g 5)) 23, qF 25 (.load false 1 (.l 24)) 23, qF 26 (.faddr 0 (.g 5)) 23, qF 27 (.load false 1 (.l 26)) 23, qF 28 (.bin .lss (.l 25) (.l 27)) 23, qL 29 (.pick (.l 23) qt (.l 28)), qc 30 29, qF 31 (.faddr 1 (.g 5)) 30, qF 32 (.load false 1 (.l 31)) 30, qF 33 (.bin .gtr (.l 32) (qn 16)) 30, qG 34 (.pick (.l 30) qt (.l 33))])
 (.cond (.g 34) (.seq (.region [qG 2 (.mv qo)])
 (.ret))
 (.skip)))
 (.region [qd 35 1 5, qf 36 1 35, qb 3 36]))))
 (.region [qa 11 4, qL 12 (.bin .add (.l 11) (qn 1)), qb 4 12]))))))
 (.seq (.region [qd 37 0 1, qf 38 1 37, qL 39 (.call fn_spec_l3Ok [.l 38]), qc 40 39, qT 41 (.faddr 1 (.g 1)) 40, qT 42 (.load false 1 (.l 41)) 40, qT 43 (.len (.l 42)) 40, qT 44 (.bin .leq (.l 43) (qn 8)) 40, qL 45 (.pick (.l 40) (.l 44) qo), qb 2 45])
 (.ret))))⟩
theorem ln_spec_l12Sack : Linked Tryz.prog fn_spec_l12Sack ac_spec_l12Sack := ⟨Tryz.f155, _, Tryz.func155, rfl, by kernel_rfl, by kernel_rfl, by kernel_rfl, by kernel_rfl⟩
def ac_spec_ChunkValid : AF := ⟨[0, 1, 2], [.t 2],
 .seq (.region [qG 1 (.box (.g 0)), qG 2 (.mv qo)])
 (.seq (.region [qd 3 0 1, qf 4 1 3, qL 5 (.call fn_spec_l6In [.l 4, qn 0, qn 255]), qc 6 5, qT 7 (.faddr 1 (.g 1)) 6, qT 8 (.load false 1 (.l 7)) 6, qT 9 (.call fn_spec_l6In [.l 8, qn 0, qn 255]) 6, qL 10 (.pick (.l 6) (.l 9) qo), qc 11 10, qT 12 (.faddr 2 (.g 1)) 11, qT 13 (.load false 1 (.l 12)) 11, qT 14 (.lenStr (.l 13)) 11, qT 15 (.bin .leq (.l 14) (qn 60)) 11, qL 16 (.pick (.l 11) (.l 15) qo), qb 2 16])
 (.ret))⟩
theorem ln_spec_ChunkValid : Linked Tryz.prog fn_spec_ChunkValid ac_spec_ChunkValid := ⟨Tryz.f156, _, Tryz.func156, rfl, by kernel_rfl, by kernel_rfl, by kernel_rfl, by kernel_rfl⟩
def ac_spec_l1Long : AF := ⟨[0, 2], [.t 2],
 .seq (.region [qG 2 (.mv (qs []))])
 (.seq (.region [qa 3 0, qL 4 (.bin .quo (.l 3) (qn 65536)), qL 5 (.call fn_spec_l1Word [.l 4]), qa 6 0, qL 7 (.bin .rem (.l 6) (qn 65536)), qL 8 (.call fn_spec_l1Word [.l 7]), qL 9 (.bin .add (.l 5) (.l 8)), qb 2 9])
 (.ret))⟩
theorem ln_spec_l1Long : Linked Tryz.prog fn_spec_l1Long ac_spec_l1Long := ⟨Tryz.f157, _, Tryz.func157, rfl, by kernel_rfl, by kernel_rfl, by kernel_rfl, by kernel_rfl⟩
def ac_spec_l11Put : AF := ⟨[0, 1, 2, 3, 24], [.t 2],
 .seq (.region [qG 1 (.box (.g 0)), qG 2 (.mv (qs []))])
 (.seq (.drawn [qd 4 0 1, qf 5 1 4, qL 6 (.conv .u8 (.l 5)), qd 7 1 1, qf 8 1 7, qL 9 (.conv .u8 (.l 8)), qL 10 (.lits 1 [.l 6, .l 9]), qL 11 (.toStr (.l 10)), qd 12 2 1, qf 13 1 12, qL 14 (.lenStr (.l 13)), qL 15 (.bin .add (qn 4) (.l 14)), qL 16 (.call fn_spec_l1Word [.l 15]), qL 17 (.bin .add (.l 11) (.l 16)), qd 18 2 1, qf 19 1 18] [[], [], [], [], [1], [], [], [], [], [7, 6, 4, 1], [], [], [7, 6, 4, 1], [], [], [12, 9, 7, 6, 4, 1]] [qL 20 (.bin .add (.l 17) (.l 19)), qb 3 20])
 (.seq (.block 0 (.loop (.seq (.seq (.region [qa 21 3, qL 22 (.lenStr (.l 21)), qL 23 (.bin .rem (.l 22) (qn 4)), qG 24 (.bin .neq (.l 23) (qn 0))])
 (.cond (.g 24) (.skip)
 (.exit 0)))
 (.block 1 (.region [qa 25 3, qL 26 (.bin .add (.l 25) (qs [0])), qb 3 26])))))
 (.seq (.region [qa 27 3, qb 2 27])
 (.ret))))⟩
theorem ln_spec_l11Put : Linked Tryz.prog fn_spec_l11Put ac_spec_l11Put := ⟨Tryz.f158, _, Tryz.func158, rfl, by kernel_rfl, by kernel_rfl, by kernel_rfl, by kernel_rfl⟩
def ac_spec_l13Sum : AF := ⟨[0, 2], [.t 2],
 .seq (.region [qG 2 (.mv (qn 0))])
 (.seq (.drawn [qa 3 0, qL 4 (.cutStr (.l 3) none (some (qn 8))), qL 5 (.bin .add (.l 4) (qs [0, 0, 0, 0])), qa 6 0, qL 7 (.cutStr (.l 6) (some (qn 12)) none)] [[], [], [], [], []] [qL 8 (.bin .add (.l 5) (.l 7)), qL 9 (.call fn_spec_l2Next [qn 1, .l 8]), qb 2 9])
 (.ret))⟩
theorem ln_spec_l13Sum : Linked Tryz.prog fn_spec_l13Sum ac_spec_l13Sum := ⟨Tryz.f159, _, Tryz.func159, rfl, by kernel_rfl, by kernel_rfl, by kernel_rfl, by kernel_rfl⟩
def ac_spec_SideValid : AF := ⟨[0, 1, 2, 3, 4, 7, 31, 66], [.t 2],
 .seq (.region [qG 1 (.box (.g 0)), qG 2 (.mv qo)])
 (.seq (.seq (.region [qd 5 0 1, qf 6 1 5, qG 7 (.bin .eql (.l 6) (qn 0))])
 (.cond (.g 7) (.seq (.region [qd 8 1 1, qf 9 1 8, qL 10 (.bin .eql (.l 9) (qn 0)), qc 11 10, qT 12 (.faddr 2 (.g 1)) 11, qT 13 (.load false 1 (.l 12)) 11, qT 14 (.bin .eql (.l 13) (qn 0)) 11, qL 15 (.pick (.l 11) (.l 14) qo), qc 16 15, qT 17 (.faddr 3 (.g 1)) 16, qT 18 (.load false 1 (.l 17)) 16, qT 19 (.len (.l 18)) 16, qT 20 (.bin .eql (.l 19) (qn 0)) 16, qL 21 (.pick (.l 16) (.l 20) qo), qc 22 21, qT 23 (.faddr 4 (.g 1)) 22, qT 24 (.load false 1 (.l 23)) 22, qT 25 (.bin .eql (.l 24) (qn 0)) 22, qL 26 (.pick (.l 22) (.l 25) qo), qb 2 26])
 (.ret))
 (.skip)))
 (.seq (.seq (.region [qG 3 (.mv (qn 0))])
 (.block 0 (.loop (.seq (.seq (.region [qa 27 3, qd 28 3 1, qf 29 1 28, qL 30 (.len (.l 29)), qG 31 (.bin .lss (.l 27) (.l 30))])
 (.cond (.g 31) (.skip)
 (.exit 0)))
 (.seq (.block 1 (.seq (.region [qd 34 3 1, qf 35 1 34, qa 36 3, qL 37 (.elS 7 (.l 35) (.l 36)), qh 38 7 37, qG 4 (.alloc [.int .i64 0, .int .i64 0, .int .i64 0, .bool false, .bool false, .bool false, .str []]), qi 7 4 38])
 (.seq (.drawn [qg 39 7 4, qL 40 (.call fn_spec_l12Data [.l 39]), qL 41 (.un .not (.l 40)), qc 42 41, qF 43 (.faddr 0 (.g 4)) 42, qF 44 (.load false 1 (.l 43)) 42, qF 45 (.faddr 2 (.g 1)) 42, qF 46 (.load false 1 (.l 45)) 42, qF 47 (.mv (.g 3)) 42, qF 48 (.call fn_spec_l3Add [.l 46, .l 47]) 42, qF 49 (.bin .neq (.l 44) (.l 48)) 42, qL 50 (.pick (.l 42) qt (.l 49)), qc 51 50, qF 52 (.faddr 1 (.g 4)) 51, qF 53 (.load false 1 (.l 52)) 51, qF 54 (.faddr 1 (.g 1)) 51, qF 55 (.load false 1 (.l 54)) 51, qF 56 (.bin .geq (.l 53) (.l 55)) 51, qL 57 (.pick (.l 51) qt (.l 56)), qc 58 57, qF 59 (.faddr 3 (.g 1)) 58, qF 60 (.load false 1 (.l 59)) 58, qF 61 (.mv (.g 3)) 58, qF 62 (.cutSl 7 (.l 60) none (some (.l 61))) 58, qF 63 (.load true 7 (.g 4)) 58] [[], [], [], [], [], [], [], [5], [], [5], [], [], [], [], [], [], [14], [], [], [], [], [], [], [], [23, 21]] [qF 64 (.call fn_spec_l31Follows [.l 62, .l 63]) 58, qF 65 (.un .not (.l 64)) 58, qG 66 (.pick (.l 58) qt (.l 65))])
 (.cond (.g 66) (.seq (.region [qG 2 (.mv qo)])
 (.ret))
 (.skip)))))
 (.region [qa 32 3, qL 33 (.bin .add (.l 32) (qn 1)), qb 3 33]))))))
 (.seq (.region [qd 67 0 1, qf 68 1 67, qL 69 (.call fn_spec_l6In [.l 68, qn 1, qn 4294967295]), qc 70 69, qT 71 (.faddr 1 (.g 1)) 70, qT 72 (.load false 1 (.l 71)) 70, qT 73 (.call fn_spec_l6In [.l 72, qn 1, qn 4]) 70, qL 74 (.pick (.l 70) (.l 73) qo), qc 75 74, qT 76 (.faddr 2 (.g 1)) 75, qT 77 (.load false 1 (.l 76)) 75, qT 78 (.call fn_spec_l3Ok [.l 77]) 75, qL 79 (.pick (.l 75) (.l 78) qo), qc 80 79, qT 81 (.faddr 3 (.g 1)) 80, qT 82 (.load false 1 (.l 81)) 80, qT 83 (.len (.l 82)) 80, qT 84 (.bin .leq (.l 83) (qn 12)) 80, qL 85 (.pick (.l 80) (.l 84) qo), qc 86 85, qT 87 (.faddr 4 (.g 1)) 86, qT 88 (.load false 1 (.l 87)) 86, qT 89 (.faddr 3 (.g 1)) 86, qT 90 (.load false 1 (.l 89)) 86, qT 91 (.len (.l 90)) 86, qT 92 (.call fn_spec_l6In [.l 88, qn 0, .l 91]) 86, qL 93 (.pick (.l 86) (.l 92) qo), qb 2 93])
 (.ret))))⟩
theorem ln_spec_SideValid : Linked Tryz.prog fn_spec_SideValid ac_spec_SideValid := ⟨Tryz.f160, _, Tryz.func160, rfl, by kernel_rfl, by kernel_rfl, by kernel_rfl, by kernel_rfl⟩
def ac_spec_l31Open : AF := ⟨[0, 2], [.t 2],
 .seq (.region [qG 2 (.mv qo)])
 (.seq (.region [qa 3 0, qL 4 (.call fn_spec_l6In [.l 3, qn 3, qn 7]), qb 2 4])
 (.ret))⟩
theorem ln_spec_l31Open : Linked Tryz.prog fn_spec_l31Open ac_spec_l31Open := ⟨Tryz.f161, _, Tryz.func161, rfl, by kernel_rfl, by kernel_rfl, by kernel_rfl, by kernel_rfl⟩
def ac_spec_l1Hex : AF := ⟨[0, 2, 3, 4, 9], [.t 2],
 .seq (.region [qG 2 (.mv (qs []))])
 (.seq (.region [qL 5 (.lits 1 []), qb 3 5])
 (.seq (.seq (.region [qG 4 (.mv (qn 0))])
 (.block 0 (.loop (.seq (.seq (.region [qa 6 4, qa 7 0, qL 8 (.lenStr (.l 7)), qG 9 (.bin .lss (.l 6) (.l 8))])
 (.cond (.g 9) (.skip)
 (.exit 0)))
 (.seq (.block 1 (.drawn [qa 12 3, qa 13 0, qa 14 4, qL 15 (.idxStr (.l 13) (.l 14)), qL 16 (.bin .quo (.l 15) (.c (.int .u8 16))), qL 17 (.idxStr (qs [48, 49, 50, 51, 52, 53, 54, 55, 56, 57, 97, 98, 99, 100, 101, 102]) (.l 16)), qa 18 0, qa 19 4, qL 20 (.idxStr (.l 18) (.l 19)), qL 21 (.bin .rem (.l 20) (.c (.int .u8 16))), qL 22 (.idxStr (qs [48, 49, 50, 51, 52, 53, 54, 55, 56, 57, 97, 98, 99, 100, 101, 102]) (.l 21)), qL 23 (.lits 1 [.l 17, .l 22])] [[], [], [], [], [], [], [], [], [], [], [], []] [qL 24 (.append 1 1 (.l 12) (.l 23)), qb 3 24]))
 (.region [qa 10 4, qL 11 (.bin .add (.l 10) (qn 1)), qb 4 11]))))))
 (.seq (.region [qa 25 3, qL 26 (.toStr (.l 25)), qb 2 26])
 (.ret))))⟩
theorem ln_spec_l1Hex : Linked Tryz.prog fn_spec_l1Hex ac_spec_l1Hex := ⟨Tryz.f162, _, Tryz.func162, rfl, by kernel_rfl, by kernel_rfl, by kernel_rfl, by kernel_rfl⟩
def ac_spec_l31Copy : AF := ⟨[0, 1, 2], [.c 2 true 14],
 .seq (.region [qG 1 (.box (.g 0)), qG 2 (.alloc [.int .i64 0, .int .i64 0, .int .i64 0, .bool false, .int .i64 0, .int .i64 0, .int .i64 0, .nils, .int .i64 0, .int .i64 0, .int .i64 0, .int .i64 0, .nils, .int .i64 0])])
 (.seq (.region [qd 3 4 1, qh 4 5 3, qL 5 (.call fn_spec_l31Side2 [.l 4]), qd 6 4 1, qj 5 6 5])
 (.seq (.region [qd 7 9 1, qh 8 5 7, qL 9 (.call fn_spec_l31Side2 [.l 8]), qd 10 9 1, qj 5 10 9])
 (.seq (.region [qg 11 14 1, qi 14 2 11])
 (.ret))))⟩
theorem ln_spec_l31Copy : Linked Tryz.prog fn_spec_l31Copy ac_spec_l31Copy := ⟨Tryz.f163, _, Tryz.func163, rfl, by kernel_rfl, by kernel_rfl, by kernel_rfl, by kernel_rfl⟩
def ac_spec_l1At : AF := ⟨[0, 1, 4], [.t 4],
 .seq (.region [qG 4 (.mv (qn 0))])
 (.seq (.drawn [qa 5 0, qa 6 1, qL 7 (.idxStr (.l 5) (.l 6)), qL 8 (.conv .i64 (.l 7)), qL 9 (.bin .mul (qn 256) (.l 8)), qa 10 0, qa 11 1, qL 12 (.bin .add (.l 11) (qn 1)), qL 13 (.idxStr (.l 10) (.l 12)), qL 14 (.conv .i64 (.l 13))] [[], [], [], [], [], [], [], [], [], []] [qL 15 (.bin .add (.l 9) (.l 14)), qb 4 15])
 (.ret))⟩
theorem ln_spec_l1At : Linked Tryz.prog fn_spec_l1At ac_spec_l1At := ⟨Tryz.f164, _, Tryz.func164, rfl, by kernel_rfl, by kernel_rfl, by kernel_rfl, by kernel_rfl⟩
def ac_spec_ChunkGet : AF := ⟨[0, 1, 4, 5, 6, 7, 8, 9, 18, 34, 72], [.c 4 true 3, .t 5, .t 6],
 .seq (.region [qG 4 (.alloc [.int .i64 0, .int .i64 0, .str []]), qG 5 (.mv (qn 0)), qG 6 (.mv qo)])
 (.seq (.seq (.region [qa 10 1, qL 11 (.bin .lss (.l 10) (qn 0)), qc 12 11, qF 13 (.mv (.g 1)) 12, qF 14 (.mv (.g 0)) 12, qF 15 (.lenStr (.l 14)) 12, qF 16 (.bin .sub (.l 15) (qn 4)) 12, qF 17 (.bin .gtr (.l 13) (.l 16)) 12, qG 18 (.pick (.l 12) qt (.l 17))])
 (.cond (.g 18) (.seq (.region [qL 19 (.build [.int .i64 0, .int .i64 0, .str []] []), qi 3 4 19, qG 5 (.mv (qn 0)), qG 6 (.mv qo)])
 (.ret))
 (.skip)))
 (.seq (.region [qa 20 0, qa 21 1, qL 22 (.bin .add (.l 21) (qn 2)), qL 23 (.call fn_spec_l1At [.l 20, .l 22]), qb 7 23])
 (.seq (.seq (.region [qa 24 7, qL 25 (.call fn_spec_l6In [.l 24, qn 4, qn 64]), qL 26 (.un .not (.l 25)), qc 27 26, qF 28 (.mv (.g 1)) 27, qF 29 (.mv (.g 7)) 27, qF 30 (.bin .add (.l 28) (.l 29)) 27, qF 31 (.mv (.g 0)) 27, qF 32 (.lenStr (.l 31)) 27, qF 33 (.bin .gtr (.l 30) (.l 32)) 27, qG 34 (.pick (.l 27) qt (.l 33))])
 (.cond (.g 34) (.seq (.region [qL 35 (.build [.int .i64 0, .int .i64 0, .str []] []), qi 3 4 35, qG 5 (.mv (qn 0)), qG 6 (.mv qo)])
 (.ret))
 (.skip)))
 (.seq (.drawn [qa 36 0, qa 37 1, qL 38 (.idxStr (.l 36) (.l 37)), qL 39 (.conv .i64 (.l 38)), qa 40 0, qa 41 1, qL 42 (.bin .add (.l 41) (qn 1)), qL 43 (.idxStr (.l 40) (.l 42)), qL 44 (.conv .i64 (.l 43)), qa 45 0, qa 46 1, qL 47 (.bin .add (.l 46) (qn 4)), qa 48 1, qa 49 7, qL 50 (.bin .add (.l 48) (.l 49)), qL 51 (.cutStr (.l 45) (some (.l 47)) (some (.l 50))), qL 52 (.build [.int .i64 0, .int .i64 0, .str []] [(0, 1, .l 39), (1, 1, .l 44), (2, 1, .l 51)]), qG 8 (.alloc [.int .i64 0, .int .i64 0, .str []])] [[], [], [], [], [], [], [], [], [], [], [], [], [], [], [], [], [], []] [qi 3 8 52])
 (.seq (.region [qg 53 3 8, qL 54 (.call fn_spec_l11Put [.l 53]), qb 9 54])
 (.seq (.seq (.region [qa 55 1, qa 56 9, qL 57 (.lenStr (.l 56)), qL 58 (.bin .add (.l 55) (.l 57)), qa 59 0, qL 60 (.lenStr (.l 59)), qL 61 (.bin .gtr (.l 58) (.l 60)), qc 62 61, qF 63 (.mv (.g 0)) 62, qF 64 (.mv (.g 1)) 62, qF 65 (.mv (.g 1)) 62, qF 66 (.mv (.g 9)) 62, qF 67 (.lenStr (.l 66)) 62, qF 68 (.bin .add (.l 65) (.l 67)) 62, qF 69 (.cutStr (.l 63) (some (.l 64)) (some (.l 68))) 62, qF 70 (.mv (.g 9)) 62, qF 71 (.bin .neq (.l 69) (.l 70)) 62, qG 72 (.pick (.l 62) qt (.l 71))])
 (.cond (.g 72) (.seq (.region [qL 73 (.build [.int .i64 0, .int .i64 0, .str []] []), qi 3 4 73, qG 5 (.mv (qn 0)), qG 6 (.mv qo)])
 (.ret))
 (.skip)))
 (.seq (.region [qg 74 3 8, qa 75 1, qa 76 9, qL 77 (.lenStr (.l 76)), qL 78 (.bin .add (.l 75) (.l 77)), qi 3 4 74, qb 5 78, qG 6 (.mv qt)])
 (.ret))))))))⟩
theorem ln_spec_ChunkGet : Linked Tryz.prog fn_spec_ChunkGet ac_spec_ChunkGet := ⟨Tryz.f165, _, Tryz.func165, rfl, by kernel_rfl, by kernel_rfl, by kernel_rfl, by kernel_rfl⟩
def ac_spec_l13Alone : AF := ⟨[0, 2], [.t 2],
 .seq (.region [qG 2 (.mv qo)])
 (.seq (.region [qa 3 0, qL 4 (.bin .eql (.l 3) (qn 1)), qc 5 4, qF 6 (.mv (.g 0)) 5, qF 7 (.bin .eql (.l 6) (qn 2)) 5, qL 8 (.pick (.l 5) qt (.l 7)), qc 9 8, qF 10 (.mv (.g 0)) 9, qF 11 (.bin .eql (.l 10) (qn 14)) 9, qL 12 (.pick (.l 9) qt (.l 11)), qb 2 12])
 (.ret))⟩
theorem ln_spec_l13Alone : Linked Tryz.prog fn_spec_l13Alone ac_spec_l13Alone := ⟨Tryz.f166, _, Tryz.func166, rfl, by kernel_rfl, by kernel_rfl, by kernel_rfl, by kernel_rfl⟩
def ac_spec_l31Step : AF := ⟨[0, 1, 2, 3, 5, 6, 7, 8, 9, 10, 11, 12, 33], [.c 6 true 14, .t 7],
 .seq (.region [qG 3 (.box (.g 0)), qG 5 (.box (.g 2)), qG 6 (.alloc [.int .i64 0, .int .i64 0, .int .i64 0, .bool false, .int .i64 0, .int .i64 0, .int .i64 0, .nils, .int .i64 0, .int .i64 0, .int .i64 0, .int .i64 0, .nils, .int .i64 0]), qG 7 (.mv (.c .nils))])
 (.seq (.region [qL 13 (.make 1 1 (.bool false) (qn 12) (qn 12)), qb 8 13])
 (.seq (.region [qa 14 8, qg 15 4 5, qL 16 (.call fn_spec_PacketAlone [.l 15]), qL 17 (.un .not (.l 16)), qL 18 (.elS 1 (.l 14) (qn 1)), qj 1 18 17])
 (.seq (.drawn [qa 19 8, qd 20 2 5, qf 21 1 20, qg 22 14 3, qa 23 1, qg 24 4 5, qL 25 (.call fn_spec_l31Tag [.l 22, .l 23, .l 24]), qL 26 (.bin .neq (.l 21) (.l 25))] [[], [], [], [2], [], [3, 2], [2], []] [qL 27 (.elS 1 (.l 19) (qn 2)), qj 1 27 26])
 (.seq (.region [qg 28 14 3, qG 9 (.alloc [.int .i64 0, .int .i64 0, .int .i64 0, .bool false, .int .i64 0, .int .i64 0, .int .i64 0, .nils, .int .i64 0, .int .i64 0, .int .i64 0, .int .i64 0, .nils, .int .i64 0]), qi 14 9 28])
 (.seq (.seq (.region [qG 10 (.mv (qn 0))])
 (.block 0 (.loop (.seq (.seq (.region [qa 29 10, qd 30 3 5, qf 31 1 30, qL 32 (.len (.l 31)), qG 33 (.bin .lss (.l 29) (.l 32))])
 (.cond (.g 33) (.skip)
 (.exit 0)))
 (.seq (.block 1 (.seq (.drawn [qg 37 14 9, qa 38 1, qd 39 3 5, qf 40 1 39, qa 41 10, qL 42 (.elS 3 (.l 40) (.l 41)), qh 43 3 42, qL 44 (.call fn_spec_l31Chunk [.l 37, .l 38, .l 43]), qc 36 44, qL 45 (.extract (.l 36) 0), qL 46 (.extract (.l 36) 1), qG 11 (.alloc [.int .i64 0, .int .i64 0, .int .i64 0, .bool false, .int .i64 0, .int .i64 0, .int .i64 0, .nils, .int .i64 0, .int .i64 0, .int .i64 0, .int .i64 0, .nils, .int .i64 0]), qi 14 11 45] [[], [], [], [0], [], [0], [0], [], [], [], [], [7, 6, 5, 3, 0], []] [qb 12 46])
 (.seq (.region [qa 47 8, qa 48 12, qL 49 (.elS 1 (.l 47) (.l 48)), qN (.store 1 (.l 49) qt)])
 (.region [qg 50 14 11, qi 14 9 50]))))
 (.region [qa 34 10, qL 35 (.bin .add (.l 34) (qn 1)), qb 10 35]))))))
 (.seq (.region [qg 51 14 9, qa 52 8, qi 14 6 51, qb 7 52])
 (.ret)))))))⟩
theorem ln_spec_l31Step : Linked Tryz.prog fn_spec_l31Step ac_spec_l31Step := ⟨Tryz.f167, _, Tryz.func167, rfl, by kernel_rfl, by kernel_rfl, by kernel_rfl, by kernel_rfl⟩
def ac_impl_mayFollow : AF := ⟨[0, 1, 3, 4, 5, 7, 20, 36, 38, 39, 40, 41, 42, 58], [.t 4],
 .seq (.region [qG 3 (.box (.g 1)), qG 4 (.mv qo)])
 (.seq (.seq (.region [qa 8 0, qL 9 (.len (.l 8)), qL 10 (.bin .gtr (.l 9) (qn 0)), qc 11 10, qT 12 (.mv (.g 0)) 11, qT 13 (.mv (.g 0)) 11, qT 14 (.len (.l 13)) 11, qT 15 (.bin .sub (.l 14) (qn 1)) 11, qT 16 (.elS 7 (.l 12) (.l 15)) 11, qT 17 (.faddr 4 (.l 16)) 11, qT 18 (.load false 1 (.l 17)) 11, qT 19 (.un .not (.l 18)) 11, qG 20 (.pick (.l 11) (.l 19) qo)])
 (.cond (.g 20) (.seq (.drawn [qd 21 3 3, qf 22 1 21, qL 23 (.un .not (.l 22)), qc 24 23, qT 25 (.load true 7 (.g 3)) 24, qT 26 (.mv (.g 0)) 24, qT 27 (.mv (.g 0)) 24, qT 28 (.len (.l 27)) 24, qT 29 (.bin .sub (.l 28) (qn 1)) 24, qT 30 (.elS 7 (.l 26) (.l 29)) 24, qT 31 (.load true 7 (.l 30)) 24] [[], [], [], [], [], [], [], [4], [], [4], [4]] [qT 32 (.call fn_impl_likeParts [.l 25, .l 31]) 24, qL 33 (.pick (.l 24) (.l 32) qo), qb 4 33])
 (.ret))
 (.skip)))
 (.seq (.seq (.region [qd 34 3 3, qf 35 1 34, qG 36 (.un .not (.l 35))])
 (.cond (.g 36) (.seq (.region [qG 4 (.mv qo)])
 (.ret))
 (.skip)))
 (.seq (.seq (.region [qd 37 5 3, qG 38 (.load false 1 (.l 37))])
 (.cond (.g 38) (.seq (.region [qG 4 (.mv qt)])
 (.ret))
 (.skip)))
 (.seq (.region [qG 5 (.mv (qn 0))])
 (.seq (.seq (.region [qG 39 (.mv (.g 0)), qG 40 (.len (.g 39)), qG 41 (.mv (qn 0))])
 (.block 0 (.loop (.seq (.region [qG 42 (.bin .lss (.g 41) (.g 40))])
 (.seq (.cond (.g 42) (.skip)
 (.exit 0))
 (.seq (.block 1 (.seq (.region [qL 43 (.elS 7 (.g 39) (.g 41)), qh 44 7 43, qG 7 (.alloc [.int .i64 0, .int .i64 0, .int .i64 0, .bool false, .bool false, .bool false, .str []]), qi 7 7 44])
 (.seq (.region [qd 45 3 7, qf 46 1 45, qc 47 46, qT 48 (.faddr 5 (.g 7)) 47, qT 49 (.load false 1 (.l 48)) 47, qT 50 (.un .not (.l 49)) 47, qL 51 (.pick (.l 47) (.l 50) qo), qc 52 51, qT 53 (.faddr 1 (.g 7)) 52, qT 54 (.load false 1 (.l 53)) 52, qT 55 (.faddr 1 (.g 3)) 52, qT 56 (.load false 1 (.l 55)) 52, qT 57 (.bin .eql (.l 54) (.l 56)) 52, qG 58 (.pick (.l 52) (.l 57) qo)])
 (.cond (.g 58) (.region [qa 59 5, qL 60 (.bin .add (.l 59) (qn 1)), qb 5 60])
 (.skip)))))
 (.region [qL 61 (.bin .add (.g 41) (qn 1)), qb 41 61])))))))
 (.seq (.region [qd 62 2 3, qf 63 1 62, qa 64 5, qL 65 (.bin .eql (.l 63) (.l 64)), qb 4 65])
 (.ret)))))))⟩
theorem ln_impl_mayFollow : Linked Tryz.prog fn_impl_mayFollow ac_impl_mayFollow := ⟨Tryz.f170, _, Tryz.func170, rfl, by kernel_rfl, by kernel_rfl, by kernel_rfl, by kernel_rfl⟩
def ac_impl_Assoc_greet : AF := ⟨[0, 1, 2, 3, 5, 8, 9, 10, 11, 12, 17, 18, 32, 39, 45, 92], [.t 8],
 .seq (.region [qG 5 (.box (.g 1)), qG 8 (.mv (qn 0))])
 (.seq (.seq (.region [qa 13 2, qd 14 0 5, qf 15 1 14, qL 16 (.bin .eql (.l 15) (qn 2)), qG 17 (.beq true (.l 13) (.l 16))])
 (.cond (.g 17) (.seq (.region [qG 8 (.mv (qn 3))])
 (.ret))
 (.skip)))
 (.seq (.region [qG 9 (.mv (qn 0)), qG 10 (.mv (qn 2))])
 (.seq (.seq (.region [qG 18 (.mv (.g 2))])
 (.cond (.g 18) (.region [qG 9 (.mv (qn 1))])
 (.skip)))
 (.seq (.seq (.region [qa 19 0, qL 20 (.nilc (.l 19)), qe 21 2 20, qf 22 1 21, qa 23 9, qL 24 (.bin .lss (.l 22) (.l 23)), qc 25 24, qF 26 (.mv (.g 0)) 25, qF 27 (.nilc (.l 26)) 25, qF 28 (.faddr 2 (.l 27)) 25, qF 29 (.load false 1 (.l 28)) 25, qF 30 (.mv (.g 10)) 25, qF 31 (.bin .gtr (.l 29) (.l 30)) 25, qG 32 (.pick (.l 25) qt (.l 31))])
 (.cond (.g 32) (.seq (.region [qG 8 (.mv (qn 3))])
 (.ret))
 (.skip)))
 (.seq (.region [qg 34 3 5, qL 35 (.call fn_impl_InitGet [.l 34]), qc 33 35, qL 36 (.extract (.l 33) 0), qL 37 (.extract (.l 33) 1), qG 11 (.alloc [.int .i64 0, .int .i64 0, .int .i64 0, .int .i64 0]), qi 4 11 36, qb 12 37])
 (.seq (.seq (.region [qa 38 12, qG 39 (.un .not (.l 38))])
 (.cond (.g 39) (.seq (.region [qG 8 (.mv (qn 4))])
 (.ret))
 (.skip)))
 (.seq (.seq (.region [qa 40 0, qL 41 (.nilc (.l 40)), qe 42 2 41, qf 43 1 42, qa 44 9, qG 45 (.bin .eql (.l 43) (.l 44))])
 (.cond (.g 45) (.seq (.region [qa 46 0, qL 47 (.nilc (.l 46)), qe 48 2 47, qf 49 1 48, qL 50 (.bin .add (.l 49) (qn 1)), qL 51 (.nilc (.l 46)), qe 52 2 51, qj 1 52 50])
 (.seq (.drawn [qa 53 3, qa 54 3, qa 55 3, qd 56 0 11, qf 57 1 56, qd 58 2 11, qf 59 1 58, qd 60 3 11, qf 61 1 60, qL 62 (.nilc (.l 53)), qe 63 0 62, qj 1 63 57, qL 64 (.nilc (.l 54)), qe 65 1 64, qj 1 65 59] [[], [], [], [], [], [], [4], [], [6, 4], [], [], [8, 6], [], [], [8]] [qL 66 (.nilc (.l 55)), qe 67 2 66, qj 1 67 61])
 (.seq (.region [qG 8 (.mv (qn 0))])
 (.ret))))
 (.skip)))
 (.seq (.seq (.drawn [qd 68 0 11, qf 69 1 68, qa 70 3, qL 71 (.nilc (.l 70)), qe 72 0 71, qf 73 1 72, qL 74 (.bin .neq (.l 69) (.l 73)), qc 75 74, qF 76 (.faddr 2 (.g 11)) 75, qF 77 (.load false 1 (.l 76)) 75, qF 78 (.mv (.g 3)) 75, qF 79 (.nilc (.l 78)) 75, qF 80 (.faddr 1 (.l 79)) 75, qF 81 (.load false 1 (.l 80)) 75, qF 82 (.bin .neq (.l 77) (.l 81)) 75, qL 83 (.pick (.l 75) qt (.l 82)), qc 84 83, qF 85 (.faddr 3 (.g 11)) 84, qF 86 (.load false 1 (.l 85)) 84, qF 87 (.mv (.g 3)) 84, qF 88 (.nilc (.l 87)) 84, qF 89 (.faddr 2 (.l 88)) 84, qF 90 (.load false 1 (.l 89)) 84] [[], [], [], [], [], [1], [], [], [], [], [], [], [], [9], [], [], [], [], [], [], [], [], [18]] [qF 91 (.bin .neq (.l 86) (.l 90)) 84, qG 92 (.pick (.l 84) qt (.l 91))])
 (.cond (.g 92) (.seq (.region [qG 8 (.mv (qn 7))])
 (.ret))
 (.skip)))
 (.seq (.region [qG 8 (.mv (qn 0))])
 (.ret))))))))))⟩
theorem ln_impl_Assoc_greet : Linked Tryz.prog fn_impl_Assoc_greet ac_impl_Assoc_greet := ⟨Tryz.f171, _, Tryz.func171, rfl, by kernel_rfl, by kernel_rfl, by kernel_rfl, by kernel_rfl⟩
def ac_impl_Assoc_take : AF := ⟨[0, 1, 2, 4, 6, 7, 8, 9, 16, 32, 41, 42, 48, 56, 64, 72], [.t 6],
 .seq (.region [qG 4 (.box (.g 1)), qG 6 (.mv (qn 0))])
 (.seq (.region [qg 11 3 4, qL 12 (.call fn_impl_DataGet [.l 11]), qc 10 12, qL 13 (.extract (.l 10) 0), qL 14 (.extract (.l 10) 1), qG 7 (.alloc [.int .i64 0, .int .i64 0, .int .i64 0, .bool false, .bool false, .bool false, .str []]), qi 7 7 13, qb 8 14])
 (.seq (.seq (.region [qa 15 8, qG 16 (.un .not (.l 15))])
 (.cond (.g 16) (.seq (.region [qG 6 (.mv (qn 4))])
 (.ret))
 (.skip)))
 (.seq (.drawn [qd 17 0 7, qf 18 1 17, qa 19 2, qL 20 (.nilc (.l 19)), qe 21 2 20, qf 22 1 21] [[], [], [], [], [], [1]] [qL 23 (.bin .sub (.l 18) (.l 22)), qL 24 (.bin .add (.l 23) (qn 65536)), qL 25 (.bin .rem (.l 24) (qn 65536)), qb 9 25])
 (.seq (.seq (.region [qa 26 9, qa 27 2, qL 28 (.nilc (.l 27)), qe 29 3 28, qf 30 1 29, qL 31 (.len (.l 30)), qG 32 (.bin .lss (.l 26) (.l 31))])
 (.cond (.g 32) (.seq (.seq (.drawn [qa 33 2, qL 34 (.nilc (.l 33)), qe 35 3 34, qf 36 1 35, qa 37 9, qL 38 (.elS 7 (.l 36) (.l 37)), qh 39 7 38, qg 40 7 7] [[], [], [], [], [], [], [], [6, 5, 3]] [qG 41 (.eqs true [0, 0, 0, 1, 1, 1, 2] (.l 39) (.l 40))])
 (.cond (.g 41) (.seq (.region [qG 6 (.mv (qn 7))])
 (.ret))
 (.skip)))
 (.seq (.region [qG 6 (.mv (qn 0))])
 (.ret)))
 (.skip)))
 (.seq (.block 0 (.seq (.region [qa 43 0, qL 44 (.nilc (.l 43)), qe 45 2 44, qf 46 1 45, qL 47 (.bin .eql (.l 46) (qn 5)), qb 42 47])
 (.cond (.g 42) (.seq (.region [qG 6 (.mv (qn 3))])
 (.ret))
 (.seq (.drawn [qd 49 1 7, qf 50 1 49, qa 51 2, qL 52 (.nilc (.l 51)), qe 53 1 52, qf 54 1 53] [[], [], [], [], [], [1]] [qL 55 (.bin .geq (.l 50) (.l 54)), qb 48 55])
 (.cond (.g 48) (.seq (.region [qG 6 (.mv (qn 5))])
 (.ret))
 (.seq (.region [qa 57 9, qa 58 2, qL 59 (.nilc (.l 58)), qe 60 3 59, qf 61 1 60, qL 62 (.len (.l 61)), qL 63 (.bin .gtr (.l 57) (.l 62)), qb 56 63])
 (.cond (.g 56) (.seq (.region [qG 6 (.mv (qn 6))])
 (.ret))
 (.seq (.drawn [qa 65 2, qL 66 (.nilc (.l 65)), qe 67 3 66, qf 68 1 67, qg 69 7 7] [[], [], [], [], [3]] [qL 70 (.call fn_impl_mayFollow [.l 68, .l 69]), qL 71 (.un .not (.l 70)), qb 64 71])
 (.cond (.g 64) (.seq (.region [qG 6 (.mv (qn 8))])
 (.ret))
 (.seq (.region [qa 73 2, qL 74 (.nilc (.l 73)), qe 75 3 74, qf 76 1 75, qL 77 (.len (.l 76)), qL 78 (.bin .geq (.l 77) (qn 12)), qb 72 78])
 (.cond (.g 72) (.seq (.region [qG 6 (.mv (qn 11))])
 (.ret))
 (.skip))))))))))))
 (.seq (.drawn [qa 79 2, qa 80 2, qL 81 (.nilc (.l 80)), qe 82 3 81, qf 83 1 82, qg 84 7 7, qL 85 (.lits 7 [.l 84]), qL 86 (.append 7 48 (.l 83) (.l 85))] [[], [], [], [], [], [4], [4], []] [qL 87 (.nilc (.l 79)), qe 88 3 87, qj 1 88 86])
 (.seq (.region [qG 6 (.mv (qn 0))])
 (.ret))))))))⟩
theorem ln_impl_Assoc_take : Linked Tryz.prog fn_impl_Assoc_take ac_impl_Assoc_take := ⟨Tryz.f172, _, Tryz.func172, rfl, by kernel_rfl, by kernel_rfl, by kernel_rfl, by kernel_rfl⟩
def ac_impl_acknowledge : AF := ⟨[0, 1, 2, 4, 5, 6, 7, 8, 15, 34, 56], [.t 4],
 .seq (.region [qG 2 (.box (.g 0)), qG 4 (.mv (qn 0))])
 (.seq (.region [qg 10 3 2, qL 11 (.call fn_impl_SackGet [.l 10]), qc 9 11, qL 12 (.extract (.l 9) 0), qL 13 (.extract (.l 9) 1), qG 5 (.alloc [.int .i64 0, .nils]), qi 2 5 12, qb 6 13])
 (.seq (.seq (.region [qa 14 6, qG 15 (.un .not (.l 14))])
 (.cond (.g 15) (.seq (.region [qG 4 (.mv (qn 4))])
 (.ret))
 (.skip)))
 (.seq (.drawn [qa 16 1, qL 17 (.nilc (.l 16)), qe 18 2 17, qf 19 1 18, qL 20 (.call fn_impl_SerialAdd [.l 19, (qn (-1))]), qd 21 0 5, qf 22 1 21] [[], [], [], [], [], [], [4, 3]] [qL 23 (.call fn_impl_SerialDiff [.l 20, .l 22]), qb 7 23])
 (.seq (.seq (.region [qa 24 7, qL 25 (.bin .lss (.l 24) (qn 0)), qc 26 25, qF 27 (.mv (.g 7)) 26, qF 28 (.mv (.g 1)) 26, qF 29 (.nilc (.l 28)) 26, qF 30 (.faddr 3 (.l 29)) 26, qF 31 (.load false 1 (.l 30)) 26, qF 32 (.len (.l 31)) 26, qF 33 (.bin .gtr (.l 27) (.l 32)) 26, qG 34 (.pick (.l 26) qt (.l 33))])
 (.cond (.g 34) (.seq (.region [qG 4 (.mv (qn 9))])
 (.ret))
 (.skip)))
 (.seq (.seq (.region [qd 35 1 5, qf 36 1 35, qL 37 (.len (.l 36)), qb 8 37])
 (.seq (.drawn [qa 38 8, qL 39 (.bin .gtr (.l 38) (qn 0)), qc 40 39, qT 41 (.mv (.g 7)) 40, qT 42 (.faddr 1 (.g 5)) 40, qT 43 (.load false 1 (.l 42)) 40, qT 44 (.mv (.g 8)) 40, qT 45 (.bin .sub (.l 44) (qn 1)) 40, qT 46 (.elS 2 (.l 43) (.l 45)) 40, qT 47 (.faddr 1 (.l 46)) 40, qT 48 (.load false 1 (.l 47)) 40, qT 49 (.bin .add (.l 41) (.l 48)) 40, qT 50 (.mv (.g 1)) 40, qT 51 (.nilc (.l 50)) 40, qT 52 (.faddr 3 (.l 51)) 40, qT 53 (.load false 1 (.l 52)) 40, qT 54 (.len (.l 53)) 40] [[], [], [], [], [], [], [], [], [], [], [], [], [], [], [], [10, 8, 5], [10, 8, 5]] [qT 55 (.bin .gtr (.l 49) (.l 54)) 40, qG 56 (.pick (.l 40) (.l 55) qo)])
 (.cond (.g 56) (.seq (.region [qG 4 (.mv (qn 9))])
 (.ret))
 (.skip))))
 (.seq (.region [qa 57 1, qa 58 1, qL 59 (.nilc (.l 58)), qe 60 4 59, qf 61 1 60, qa 62 7, qL 63 (.max (.l 61) (.l 62)), qL 64 (.nilc (.l 57)), qe 65 4 64, qj 1 65 63])
 (.seq (.region [qG 4 (.mv (qn 0))])
 (.ret))))))))⟩
theorem ln_impl_acknowledge : Linked Tryz.prog fn_impl_acknowledge ac_impl_acknowledge := ⟨Tryz.f173, _, Tryz.func173, rfl, by kernel_rfl, by kernel_rfl, by kernel_rfl, by kernel_rfl⟩
def ac_spec_l2Next : AF := ⟨[0, 1, 4, 5, 6, 7, 15], [.t 4],
 .seq (.region [qG 4 (.mv (qn 0))])
 (.seq (.region [qa 8 0, qL 9 (.bin .rem (.l 8) (qn 65536)), qb 5 9])
 (.seq (.region [qa 10 0, qL 11 (.bin .quo (.l 10) (qn 65536)), qb 6 11])
 (.seq (.seq (.region [qG 7 (.mv (qn 0))])
 (.block 0 (.loop (.seq (.seq (.region [qa 12 7, qa 13 1, qL 14 (.lenStr (.l 13)), qG 15 (.bin .lss (.l 12) (.l 14))])
 (.cond (.g 15) (.skip)
 (.exit 0)))
 (.seq (.block 1 (.seq (.region [qa 18 5, qa 19 1, qa 20 7, qL 21 (.idxStr (.l 19) (.l 20)), qL 22 (.conv .i64 (.l 21)), qL 23 (.bin .add (.l 18) (.l 22)), qL 24 (.bin .rem (.l 23) (qn 65521)), qb 5 24])
 (.region [qa 25 6, qa 26 5, qL 27 (.bin .add (.l 25) (.l 26)), qL 28 (.bin .rem (.l 27) (qn 65521)), qb 6 28])))
 (.region [qa 16 7, qL 17 (.bin .add (.l 16) (qn 1)), qb 7 17]))))))
 (.seq (.region [qa 29 6, qL 30 (.bin .mul (qn 65536) (.l 29)), qa 31 5, qL 32 (.bin .add (.l 30) (.l 31)), qb 4 32])
 (.ret)))))⟩
theorem ln_spec_l2Next : Linked Tryz.prog fn_spec_l2Next ac_spec_l2Next := ⟨Tryz.f176, _, Tryz.func176, rfl, by kernel_rfl, by kernel_rfl, by kernel_rfl, by kernel_rfl⟩
def ac_spec_l31Follows : AF := ⟨[0, 1, 3, 4, 5, 18], [.t 4],
 .seq (.region [qG 3 (.box (.g 1)), qG 4 (.mv qo)])
 (.seq (.region [qa 6 0, qL 7 (.len (.l 6)), qb 5 7])
 (.seq (.seq (.region [qa 8 5, qL 9 (.bin .gtr (.l 8) (qn 0)), qc 10 9, qT 11 (.mv (.g 0)) 10, qT 12 (.mv (.g 5)) 10, qT 13 (.bin .sub (.l 12) (qn 1)) 10, qT 14 (.elS 7 (.l 11) (.l 13)) 10, qT 15 (.faddr 4 (.l 14)) 10, qT 16 (.load false 1 (.l 15)) 10, qT 17 (.un .not (.l 16)) 10, qG 18 (.pick (.l 10) (.l 17) qo)])
 (.cond (.g 18) (.seq (.drawn [qd 19 3 3, qf 20 1 19, qL 21 (.un .not (.l 20)), qc 22 21, qT 23 (.mv (.g 0)) 22, qT 24 (.mv (.g 5)) 22, qT 25 (.bin .sub (.l 24) (qn 1)) 22, qT 26 (.elS 7 (.l 23) (.l 25)) 22, qT 27 (.load true 7 (.l 26)) 22, qT 28 (.load true 7 (.g 3)) 22] [[], [], [], [], [], [], [], [], [], [8, 7]] [qT 29 (.call fn_spec_l22Same [.l 27, .l 28]) 22, qL 30 (.pick (.l 22) (.l 29) qo), qb 4 30])
 (.ret))
 (.skip)))
 (.seq (.drawn [qd 31 3 3, qf 32 1 31, qc 33 32, qT 34 (.faddr 5 (.g 3)) 33, qT 35 (.load false 1 (.l 34)) 33, qT 36 (.mv (.l 35)) 33, qF 37 (.faddr 2 (.g 3)) 36, qF 38 (.load false 1 (.l 37)) 36, qF 39 (.mv (.g 0)) 36, qF 40 (.faddr 1 (.g 3)) 36, qF 41 (.load false 1 (.l 40)) 36, qF 42 (.call fn_spec_l31Ssn [.l 39, .l 41]) 36] [[], [], [], [], [], [], [], [], [], [], [7], [7]] [qF 43 (.bin .eql (.l 38) (.l 42)) 36, qT 44 (.pick (.l 36) qt (.l 43)) 33, qL 45 (.pick (.l 33) (.l 44) qo), qb 4 45])
 (.ret))))⟩
theorem ln_spec_l31Follows : Linked Tryz.prog fn_spec_l31Follows ac_spec_l31Follows := ⟨Tryz.f177, _, Tryz.func177, rfl, by kernel_rfl, by kernel_rfl, by kernel_rfl, by kernel_rfl⟩
def ac_spec_l31Side2 : AF := ⟨[0, 1, 2], [.c 2 true 5],
 .seq (.region [qG 1 (.box (.g 0)), qG 2 (.alloc [.int .i64 0, .int .i64 0, .int .i64 0, .nils, .int .i64 0])])
 (.seq (.region [qL 3 (.lits 7 []), qd 4 3 1, qf 5 1 4, qL 6 (.append 7 48 (.l 3) (.l 5)), qd 7 3 1, qj 1 7 6])
 (.seq (.region [qg 8 5 1, qi 5 2 8])
 (.ret)))⟩
theorem ln_spec_l31Side2 : Linked Tryz.prog fn_spec_l31Side2 ac_spec_l31Side2 := ⟨Tryz.f178, _, Tryz.func178, rfl, by kernel_rfl, by kernel_rfl, by kernel_rfl, by kernel_rfl⟩
def ac_spec_l31Tag : AF := ⟨[0, 1, 2, 3, 5, 6, 7, 9, 14, 23], [.t 6],
 .seq (.region [qG 3 (.box (.g 0)), qG 5 (.box (.g 2)), qG 6 (.mv (qn 0))])
 (.seq (.seq (.region [qG 7 (.mv (qn 0))])
 (.block 0 (.loop (.seq (.seq (.region [qa 10 7, qd 11 3 5, qf 12 1 11, qL 13 (.len (.l 12)), qG 14 (.bin .lss (.l 10) (.l 13))])
 (.cond (.g 14) (.skip)
 (.exit 0)))
 (.seq (.block 1 (.seq (.region [qd 17 3 5, qf 18 1 17, qa 19 7, qL 20 (.elS 3 (.l 18) (.l 19)), qe 21 0 20, qf 22 1 21, qG 23 (.bin .eql (.l 22) (qn 1))])
 (.cond (.g 23) (.seq (.region [qG 6 (.mv (qn 0))])
 (.ret))
 (.skip))))
 (.region [qa 15 7, qL 16 (.bin .add (.l 15) (qn 1)), qb 7 16]))))))
 (.seq (.region [qg 25 14 3, qa 26 1, qL 27 (.call fn_spec_l31Side [.l 25, .l 26]), qc 24 27, qL 28 (.extract (.l 24) 0), qL 29 (.extract (.l 24) 1), qL 8 (.alloc [.int .i64 0, .int .i64 0, .int .i64 0, .nils, .int .i64 0]), qG 9 (.alloc [.int .i64 0, .int .i64 0, .int .i64 0, .nils, .int .i64 0]), qj 5 8 28, qi 5 9 29])
 (.seq (.region [qd 30 0 9, qf 31 1 30, qb 6 31])
 (.ret))))⟩
theorem ln_spec_l31Tag : Linked Tryz.prog fn_spec_l31Tag ac_spec_l31Tag := ⟨Tryz.f179, _, Tryz.func179, rfl, by kernel_rfl, by kernel_rfl, by kernel_rfl, by kernel_rfl⟩
def ac_spec_l31Chunk : AF := ⟨[0, 1, 2, 3, 5, 6, 7, 9, 10, 19, 27, 35], [.c 6 true 14, .t 7],
 .seq (.region [qG 3 (.box (.g 0)), qG 5 (.box (.g 2)), qG 6 (.alloc [.int .i64 0, .int .i64 0, .int .i64 0, .bool false, .int .i64 0, .int .i64 0, .int .i64 0, .nils, .int .i64 0, .int .i64 0, .int .i64 0, .int .i64 0, .nils, .int .i64 0]), qG 7 (.mv (qn 0))])
 (.seq (.seq (.region [qd 8 0 5, qG 9 (.load false 1 (.l 8))])
 (.block 0 (.seq (.seq (.region [qL 11 (.bin .eql (.g 9) (qn 1)), qb 10 11])
 (.cond (.g 10) (.skip)
 (.region [qL 12 (.bin .eql (.g 9) (qn 2)), qb 10 12])))
 (.cond (.g 10) (.seq (.region [qg 13 14 3, qa 14 1, qg 15 3 5, qL 16 (.call fn_spec_l31Init [.l 13, .l 14, .l 15]), qL 17 (.extract (.l 16) 0), qL 18 (.extract (.l 16) 1), qi 14 6 17, qb 7 18])
 (.ret))
 (.seq (.region [qL 20 (.bin .eql (.g 9) (qn 0)), qb 19 20])
 (.cond (.g 19) (.seq (.region [qg 21 14 3, qa 22 1, qg 23 3 5, qL 24 (.call fn_spec_l31Data [.l 21, .l 22, .l 23]), qL 25 (.extract (.l 24) 0), qL 26 (.extract (.l 24) 1), qi 14 6 25, qb 7 26])
 (.ret))
 (.seq (.region [qL 28 (.bin .eql (.g 9) (qn 3)), qb 27 28])
 (.cond (.g 27) (.seq (.region [qg 29 14 3, qa 30 1, qg 31 3 5, qL 32 (.call fn_spec_l31Sack [.l 29, .l 30, .l 31]), qL 33 (.extract (.l 32) 0), qL 34 (.extract (.l 32) 1), qi 14 6 33, qb 7 34])
 (.ret))
 (.seq (.seq (.region [qL 36 (.bin .eql (.g 9) (qn 6)), qb 35 36])
 (.cond (.g 35) (.skip)
 (.seq (.region [qL 37 (.bin .eql (.g 9) (qn 7)), qb 35 37])
 (.cond (.g 35) (.skip)
 (.seq (.region [qL 38 (.bin .eql (.g 9) (qn 8)), qb 35 38])
 (.cond (.g 35) (.skip)
 (.region [qL 39 (.bin .eql (.g 9) (qn 14)), qb 35 39])))))))
 (.cond (.g 35) (.seq (.region [qg 40 14 3, qa 41 1, qd 42 0 5, qf 43 1 42, qL 44 (.call fn_spec_l31End [.l 40, .l 41, .l 43]), qL 45 (.extract (.l 44) 0), qL 46 (.extract (.l 44) 1), qi 14 6 45, qb 7 46])
 (.ret))
 (.skip)))))))))))
 (.seq (.region [qg 47 14 3, qa 48 1, qd 49 0 5, qf 50 1 49, qL 51 (.call fn_spec_l31Cookie [.l 47, .l 48, .l 50]), qL 52 (.extract (.l 51) 0), qL 53 (.extract (.l 51) 1), qi 14 6 52, qb 7 53])
 (.ret)))⟩
theorem ln_spec_l31Chunk : Linked Tryz.prog fn_spec_l31Chunk ac_spec_l31Chunk := ⟨Tryz.f180, _, Tryz.func180, rfl, by kernel_rfl, by kernel_rfl, by kernel_rfl, by kernel_rfl⟩
def ac_impl_likeParts : AF := ⟨[0, 1, 2, 3, 4], [.t 4],
 .seq (.region [qG 2 (.box (.g 0)), qG 3 (.box (.g 1)), qG 4 (.mv qo)])
 (.seq (.region [qd 5 1 2, qf 6 1 5, qd 7 1 3, qf 8 1 7, qL 9 (.bin .eql (.l 6) (.l 8)), qc 10 9, qT 11 (.faddr 2 (.g 2)) 10, qT 12 (.load false 1 (.l 11)) 10, qT 13 (.faddr 2 (.g 3)) 10, qT 14 (.load false 1 (.l 13)) 10, qT 15 (.bin .eql (.l 12) (.l 14)) 10, qL 16 (.pick (.l 10) (.l 15) qo), qc 17 16, qT 18 (.faddr 5 (.g 2)) 17, qT 19 (.load false 1 (.l 18)) 17, qT 20 (.faddr 5 (.g 3)) 17, qT 21 (.load false 1 (.l 20)) 17, qT 22 (.beq false (.l 19) (.l 21)) 17, qL 23 (.pick (.l 17) (.l 22) qo), qb 4 23])
 (.ret))⟩
theorem ln_impl_likeParts : Linked Tryz.prog fn_impl_likeParts ac_impl_likeParts := ⟨Tryz.f181, _, Tryz.func181, rfl, by kernel_rfl, by kernel_rfl, by kernel_rfl, by kernel_rfl⟩
def ac_impl_DataGet : AF := ⟨[0, 1, 2, 3, 4, 23, 64], [.c 2 true 7, .t 3],
 .seq (.region [qG 1 (.box (.g 0)), qG 2 (.alloc [.int .i64 0, .int .i64 0, .int .i64 0, .bool false, .bool false, .bool false, .str []]), qG 3 (.mv qo)])
 (.seq (.seq (.region [qd 5 0 1, qf 6 1 5, qL 7 (.bin .neq (.l 6) (qn 0)), qc 8 7, qF 9 (.faddr 1 (.g 1)) 8, qF 10 (.load false 1 (.l 9)) 8, qF 11 (.bin .lss (.l 10) (qn 0)) 8, qL 12 (.pick (.l 8) qt (.l 11)), qc 13 12, qF 14 (.faddr 1 (.g 1)) 13, qF 15 (.load false 1 (.l 14)) 13, qF 16 (.bin .gtr (.l 15) (qn 7)) 13, qL 17 (.pick (.l 13) qt (.l 16)), qc 18 17, qF 19 (.faddr 2 (.g 1)) 18, qF 20 (.load false 1 (.l 19)) 18, qF 21 (.lenStr (.l 20)) 18, qF 22 (.bin .lss (.l 21) (qn 6)) 18, qG 23 (.pick (.l 18) qt (.l 22))])
 (.cond (.g 23) (.seq (.region [qL 24 (.build [.int .i64 0, .int .i64 0, .int .i64 0, .bool false, .bool false, .bool false, .str []] []), qi 7 2 24, qG 3 (.mv qo)])
 (.ret))
 (.skip)))
 (.seq (.drawn [qd 25 1 1, qf 26 1 25, qL 27 (.bin .and (.l 26) (qn 2)), qL 28 (.bin .neq (.l 27) (qn 0)), qd 29 1 1, qf 30 1 29, qL 31 (.bin .and (.l 30) (qn 1)), qL 32 (.bin .neq (.l 31) (qn 0)), qd 33 1 1, qf 34 1 33, qL 35 (.bin .and (.l 34) (qn 4)), qL 36 (.bin .neq (.l 35) (qn 0)), qd 37 2 1, qf 38 1 37, qL 39 (.cutStr (.l 38) (some (qn 6)) none), qL 40 (.build [.int .i64 0, .int .i64 0, .int .i64 0, .bool false, .bool false, .bool false, .str []] [(3, 1, .l 28), (4, 1, .l 32), (5, 1, .l 36), (6, 1, .l 39)]), qG 4 (.alloc [.int .i64 0, .int .i64 0, .int .i64 0, .bool false, .bool false, .bool false, .str []])] [[], [], [], [], [], [1], [], [], [], [5, 1], [], [], [], [9, 5, 1], [], [], [13, 9, 5, 1]] [qi 7 4 40])
 (.seq (.region [qd 42 2 1, qf 43 1 42, qL 44 (.call fn_impl_WordGet [.l 43, qn 0]), qc 41 44, qL 45 (.extract (.l 41) 0), qL 46 (.extract (.l 41) 1), qd 47 0 4, qj 1 47 45])
 (.seq (.region [qd 49 2 1, qf 50 1 49, qL 51 (.call fn_impl_WordGet [.l 50, qn 2]), qc 48 51, qL 52 (.extract (.l 48) 0), qL 53 (.extract (.l 48) 1), qd 54 1 4, qj 1 54 52])
 (.seq (.region [qd 56 2 1, qf 57 1 56, qL 58 (.call fn_impl_WordGet [.l 57, qn 4]), qc 55 58, qL 59 (.extract (.l 55) 0), qL 60 (.extract (.l 55) 1), qd 61 2 4, qj 1 61 59])
 (.seq (.seq (.region [qg 62 7 4, qL 63 (.call fn_impl_dataOk [.l 62]), qG 64 (.un .not (.l 63))])
 (.cond (.g 64) (.seq (.region [qL 65 (.build [.int .i64 0, .int .i64 0, .int .i64 0, .bool false, .bool false, .bool false, .str []] []), qi 7 2 65, qG 3 (.mv qo)])
 (.ret))
 (.skip)))
 (.seq (.region [qg 66 7 4, qi 7 2 66, qG 3 (.mv qt)])
 (.ret))))))))⟩
theorem ln_impl_DataGet : Linked Tryz.prog fn_impl_DataGet ac_impl_DataGet := ⟨Tryz.f182, _, Tryz.func182, rfl, by kernel_rfl, by kernel_rfl, by kernel_rfl, by kernel_rfl⟩
def ac_impl_SackGet : AF := ⟨[0, 1, 2, 3, 4, 5, 6, 21, 35, 64], [.c 2 true 2, .t 3],
 .seq (.region [qG 1 (.box (.g 0)), qG 2 (.alloc [.int .i64 0, .nils]), qG 3 (.mv qo)])
 (.seq (.seq (.region [qd 7 0 1, qf 8 1 7, qL 9 (.bin .neq (.l 8) (qn 3)), qc 10 9, qF 11 (.faddr 1 (.g 1)) 10, qF 12 (.load false 1 (.l 11)) 10, qF 13 (.bin .neq (.l 12) (qn 0)) 10, qL 14 (.pick (.l 10) qt (.l 13)), qc 15 14, qF 16 (.faddr 2 (.g 1)) 15, qF 17 (.load false 1 (.l 16)) 15, qF 18 (.lenStr (.l 17)) 15, qF 19 (.bin .rem (.l 18) (qn 4)) 15, qF 20 (.bin .neq (.l 19) (qn 2)) 15, qG 21 (.pick (.l 15) qt (.l 20))])
 (.cond (.g 21) (.seq (.region [qL 22 (.build [.int .i64 0, .nils] []), qi 2 2 22, qG 3 (.mv qo)])
 (.ret))
 (.skip)))
 (.seq (.region [qL 23 (.build [.int .i64 0, .nils] []), qG 4 (.alloc [.int .i64 0, .nils]), qi 2 4 23])
 (.seq (.region [qd 25 2 1, qf 26 1 25, qL 27 (.call fn_impl_WordGet [.l 26, qn 0]), qc 24 27, qL 28 (.extract (.l 24) 0), qL 29 (.extract (.l 24) 1), qd 30 0 4, qj 1 30 28])
 (.seq (.seq (.region [qG 5 (.mv (qn 2))])
 (.block 0 (.loop (.seq (.seq (.region [qa 31 5, qd 32 2 1, qf 33 1 32, qL 34 (.lenStr (.l 33)), qG 35 (.bin .lss (.l 31) (.l 34))])
 (.cond (.g 35) (.skip)
 (.exit 0)))
 (.seq (.block 1 (.seq (.region [qL 38 (.build [.int .i64 0, .int .i64 0] []), qG 6 (.alloc [.int .i64 0, .int .i64 0]), qi 2 6 38])
 (.seq (.region [qd 40 2 1, qf 41 1 40, qa 42 5, qL 43 (.call fn_impl_WordGet [.l 41, .l 42]), qc 39 43, qL 44 (.extract (.l 39) 0), qL 45 (.extract (.l 39) 1), qd 46 0 6, qj 1 46 44])
 (.seq (.region [qd 48 2 1, qf 49 1 48, qa 50 5, qL 51 (.bin .add (.l 50) (qn 2)), qL 52 (.call fn_impl_WordGet [.l 49, .l 51]), qc 47 52, qL 53 (.extract (.l 47) 0), qL 54 (.extract (.l 47) 1), qd 55 1 6, qj 1 55 53])
 (.region [qd 56 1 4, qf 57 1 56, qg 58 2 6, qL 59 (.lits 2 [.l 58]), qL 60 (.append 2 16 (.l 57) (.l 59)), qd 61 1 4, qj 1 61 60])))))
 (.region [qa 36 5, qL 37 (.bin .add (.l 36) (qn 4)), qb 5 37]))))))
 (.seq (.seq (.region [qg 62 2 4, qL 63 (.call fn_impl_sackOk [.l 62]), qG 64 (.un .not (.l 63))])
 (.cond (.g 64) (.seq (.region [qL 65 (.build [.int .i64 0, .nils] []), qi 2 2 65, qG 3 (.mv qo)])
 (.ret))
 (.skip)))
 (.seq (.region [qg 66 2 4, qi 2 2 66, qG 3 (.mv qt)])
 (.ret)))))))⟩
theorem ln_impl_SackGet : Linked Tryz.prog fn_impl_SackGet ac_impl_SackGet := ⟨Tryz.f183, _, Tryz.func183, rfl, by kernel_rfl, by kernel_rfl, by kernel_rfl, by kernel_rfl⟩
def ac_impl_SerialDiff : AF := ⟨[0, 1, 4, 5, 13, 20], [.t 4],
 .seq (.region [qG 4 (.mv (qn 0))])
 (.seq (.seq (.region [qa 6 0, qL 7 (.call fn_impl_serialOk [.l 6]), qL 8 (.un .not (.l 7)), qc 9 8, qF 10 (.mv (.g 1)) 9, qF 11 (.call fn_impl_serialOk [.l 10]) 9, qF 12 (.un .not (.l 11)) 9, qG 13 (.pick (.l 9) qt (.l 12))])
 (.cond (.g 13) (.seq (.region [qG 4 (.mv (qn (-65536)))])
 (.ret))
 (.skip)))
 (.seq (.region [qa 14 1, qa 15 0, qL 16 (.bin .sub (.l 14) (.l 15)), qL 17 (.bin .add (.l 16) (qn 65536)), qL 18 (.bin .rem (.l 17) (qn 65536)), qb 5 18])
 (.seq (.seq (.region [qa 19 5, qG 20 (.bin .gtr (.l 19) (qn 32768))])
 (.cond (.g 20) (.region [qa 21 5, qL 22 (.bin .sub (.l 21) (qn 65536)), qb 5 22])
 (.skip)))
 (.seq (.region [qa 23 5, qb 4 23])
 (.ret)))))⟩
theorem ln_impl_SerialDiff : Linked Tryz.prog fn_impl_SerialDiff ac_impl_SerialDiff := ⟨Tryz.f184, _, Tryz.func184, rfl, by kernel_rfl, by kernel_rfl, by kernel_rfl, by kernel_rfl⟩
def ac_spec_l22Same : AF := ⟨[0, 1, 2, 3, 4], [.t 4],
 .seq (.region [qG 2 (.box (.g 0)), qG 3 (.box (.g 1)), qG 4 (.mv qo)])
 (.seq (.region [qd 5 1 2, qf 6 1 5, qd 7 1 3, qf 8 1 7, qL 9 (.bin .eql (.l 6) (.l 8)), qc 10 9, qT 11 (.faddr 2 (.g 2)) 10, qT 12 (.load false 1 (.l 11)) 10, qT 13 (.faddr 2 (.g 3)) 10, qT 14 (.load false 1 (.l 13)) 10, qT 15 (.bin .eql (.l 12) (.l 14)) 10, qL 16 (.pick (.l 10) (.l 15) qo), qc 17 16, qT 18 (.faddr 5 (.g 2)) 17, qT 19 (.load false 1 (.l 18)) 17, qT 20 (.faddr 5 (.g 3)) 17, qT 21 (.load false 1 (.l 20)) 17, qT 22 (.beq false (.l 19) (.l 21)) 17, qL 23 (.pick (.l 17) (.l 22) qo), qb 4 23])
 (.ret))⟩
theorem ln_spec_l22Same : Linked Tryz.prog fn_spec_l22Same ac_spec_l22Same := ⟨Tryz.f185, _, Tryz.func185, rfl, by kernel_rfl, by kernel_rfl, by kernel_rfl, by kernel_rfl⟩
def ac_spec_l31Side : AF := ⟨[0, 1, 2, 4, 5, 6], [.c 4 true 5, .c 5 true 5],
 .seq (.region [qG 2 (.box (.g 0)), qG 4 (.alloc [.int .i64 0, .int .i64 0, .int .i64 0, .nils, .int .i64 0]), qG 5 (.alloc [.int .i64 0, .int .i64 0, .int .i64 0, .nils, .int .i64 0])])
 (.seq (.seq (.region [qG 6 (.mv (.g 1))])
 (.cond (.g 6) (.seq (.drawn [qd 7 9 2, qh 8 5 7, qd 9 4 2, qh 10 5 9, qi 5 4 8] [[], [], [], [1], [3]] [qi 5 5 10])
 (.ret))
 (.skip)))
 (.seq (.drawn [qd 11 4 2, qh 12 5 11, qd 13 9 2, qh 14 5 13, qi 5 4 12] [[], [], [], [1], [3]] [qi 5 5 14])
 (.ret)))⟩
theorem ln_spec_l31Side : Linked Tryz.prog fn_spec_l31Side ac_spec_l31Side := ⟨Tryz.f186, _, Tryz.func186, rfl, by kernel_rfl, by kernel_rfl, by kernel_rfl, by kernel_rfl⟩
def ac_spec_l31Init : AF := ⟨[0, 1, 2, 3, 5, 6, 7, 8, 9, 10, 11, 12, 75, 83, 87, 111], [.c 6 true 14, .t 7],
 .seq (.region [qG 3 (.box (.g 0)), qG 5 (.box (.g 2)), qG 6 (.alloc [.int .i64 0, .int .i64 0, .int .i64 0, .bool false, .int .i64 0, .int .i64 0, .int .i64 0, .nils, .int .i64 0, .int .i64 0, .int .i64 0, .int .i64 0, .nils, .int .i64 0]), qG 7 (.mv (qn 0))])
 (.seq (.region [qg 15 3 5, qL 16 (.call fn_spec_InitGet [.l 15]), qc 14 16, qL 17 (.extract (.l 14) 0), qL 18 (.extract (.l 14) 1), qG 8 (.alloc [.int .i64 0, .int .i64 0, .int .i64 0, .int .i64 0]), qi 4 8 17, qb 9 18])
 (.seq (.region [qd 19 2 3, qf 20 1 19, qL 21 (.bin .eql (.l 20) (qn 0)), qc 22 21, qT 23 (.mv (.g 1)) 22, qT 24 (.un .not (.l 23)) 22, qL 25 (.pick (.l 22) (.l 24) qo), qc 26 25, qT 27 (.faddr 0 (.g 5)) 26, qT 28 (.load false 1 (.l 27)) 26, qT 29 (.bin .eql (.l 28) (qn 1)) 26, qL 30 (.pick (.l 26) (.l 29) qo), qc 31 30, qF 32 (.faddr 2 (.g 3)) 31, qF 33 (.load false 1 (.l 32)) 31, qF 34 (.bin .eql (.l 33) (qn 1)) 31, qF 35 (.mv (.l 34)) 31, qT 36 (.mv (.g 1)) 35, qF 37 (.pick (.l 35) (.l 36) qo) 31, qF 38 (.mv (.l 37)) 31, qT 39 (.faddr 0 (.g 5)) 38, qT 40 (.load false 1 (.l 39)) 38, qT 41 (.bin .eql (.l 40) (qn 2)) 38, qF 42 (.pick (.l 38) (.l 41) qo) 31, qL 43 (.pick (.l 31) qt (.l 42)), qb 10 43])
 (.seq (.region [qd 44 2 3, qf 45 1 44, qL 46 (.call fn_spec_l6In [.l 45, qn 1, qn 2]), qc 47 46, qT 48 (.mv (.g 1)) 47, qT 49 (.un .not (.l 48)) 47, qL 50 (.pick (.l 47) (.l 49) qo), qc 51 50, qT 52 (.faddr 0 (.g 5)) 51, qT 53 (.load false 1 (.l 52)) 51, qT 54 (.bin .eql (.l 53) (qn 1)) 51, qL 55 (.pick (.l 51) (.l 54) qo), qc 56 55, qF 57 (.faddr 2 (.g 3)) 56, qF 58 (.load false 1 (.l 57)) 56, qF 59 (.bin .eql (.l 58) (qn 2)) 56, qF 60 (.mv (.l 59)) 56, qT 61 (.mv (.g 1)) 60, qF 62 (.pick (.l 60) (.l 61) qo) 56, qF 63 (.mv (.l 62)) 56, qT 64 (.faddr 0 (.g 5)) 63, qT 65 (.load false 1 (.l 64)) 63, qT 66 (.bin .eql (.l 65) (qn 2)) 63, qF 67 (.pick (.l 63) (.l 66) qo) 56, qL 68 (.pick (.l 56) qt (.l 67)), qb 11 68])
 (.seq (.region [qg 70 14 3, qa 71 1, qL 72 (.call fn_spec_l31Side [.l 70, .l 71]), qc 69 72, qL 73 (.extract (.l 69) 0), qL 74 (.extract (.l 69) 1), qG 12 (.alloc [.int .i64 0, .int .i64 0, .int .i64 0, .nils, .int .i64 0]), qL 13 (.alloc [.int .i64 0, .int .i64 0, .int .i64 0, .nils, .int .i64 0]), qi 5 12 73, qj 5 13 74])
 (.seq (.block 0 (.seq (.region [qa 76 10, qL 77 (.un .not (.l 76)), qc 78 77, qT 79 (.mv (.g 11)) 78, qT 80 (.un .not (.l 79)) 78, qL 81 (.pick (.l 78) (.l 80) qo), qb 75 81])
 (.cond (.g 75) (.seq (.region [qg 82 14 3, qi 14 6 82, qG 7 (.mv (qn 3))])
 (.ret))
 (.seq (.region [qa 84 9, qL 85 (.un .not (.l 84)), qb 83 85])
 (.cond (.g 83) (.seq (.region [qg 86 14 3, qi 14 6 86, qG 7 (.mv (qn 4))])
 (.ret))
 (.seq (.region [qa 88 11, qc 89 88, qT 90 (.faddr 0 (.g 8)) 89, qT 91 (.load false 1 (.l 90)) 89, qT 92 (.faddr 0 (.g 12)) 89, qT 93 (.load false 1 (.l 92)) 89, qT 94 (.bin .neq (.l 91) (.l 93)) 89, qT 95 (.mv (.l 94)) 89, qF 96 (.faddr 2 (.g 8)) 95, qF 97 (.load false 1 (.l 96)) 95, qF 98 (.faddr 1 (.g 12)) 95, qF 99 (.load false 1 (.l 98)) 95, qF 100 (.bin .neq (.l 97) (.l 99)) 95, qT 101 (.pick (.l 95) qt (.l 100)) 89, qT 102 (.mv (.l 101)) 89, qF 103 (.faddr 3 (.g 8)) 102, qF 104 (.load false 1 (.l 103)) 102, qF 105 (.faddr 2 (.g 12)) 102, qF 106 (.load false 1 (.l 105)) 102, qF 107 (.bin .neq (.l 104) (.l 106)) 102, qT 108 (.pick (.l 102) qt (.l 107)) 89, qL 109 (.pick (.l 89) (.l 108) qo), qb 87 109])
 (.cond (.g 87) (.seq (.region [qg 110 14 3, qi 14 6 110, qG 7 (.mv (qn 7))])
 (.ret))
 (.seq (.region [qa 112 11, qb 111 112])
 (.cond (.g 111) (.seq (.region [qg 113 14 3, qi 14 6 113, qG 7 (.mv (qn 0))])
 (.ret))
 (.skip))))))))))
 (.seq (.region [qd 114 2 3, qf 115 1 114, qL 116 (.bin .add (.l 115) (qn 1)), qd 117 2 3, qj 1 117 116])
 (.seq (.region [qg 118 14 3, qa 119 1, qd 120 0 8, qf 121 1 120, qd 122 2 8, qf 123 1 122, qd 124 3 8, qf 125 1 124, qL 126 (.lits 7 []), qL 127 (.build [.int .i64 0, .int .i64 0, .int .i64 0, .nils, .int .i64 0] [(0, 1, .l 121), (1, 1, .l 123), (2, 1, .l 125), (3, 1, .l 126)]), qL 128 (.call fn_spec_l31With [.l 118, .l 119, .l 127]), qi 14 6 128, qG 7 (.mv (qn 0))])
 (.ret))))))))⟩
theorem ln_spec_l31Init : Linked Tryz.prog fn_spec_l31Init ac_spec_l31Init := ⟨Tryz.f187, _, Tryz.func187, rfl, by kernel_rfl, by kernel_rfl, by kernel_rfl, by kernel_rfl⟩
def ac_spec_l31Data : AF := ⟨[0, 1, 2, 3, 5, 6, 7, 8, 9, 10, 12, 13, 14, 15, 30, 61, 65, 69, 83, 88, 92, 99, 104, 111], [.c 6 true 14, .t 7],
 .seq (.region [qG 3 (.box (.g 0)), qG 5 (.box (.g 2)), qG 6 (.alloc [.int .i64 0, .int .i64 0, .int .i64 0, .bool false, .int .i64 0, .int .i64 0, .int .i64 0, .nils, .int .i64 0, .int .i64 0, .int .i64 0, .int .i64 0, .nils, .int .i64 0]), qG 7 (.mv (qn 0))])
 (.seq (.region [qg 17 3 5, qL 18 (.call fn_spec_DataGet [.l 17]), qc 16 18, qL 19 (.extract (.l 16) 0), qL 20 (.extract (.l 16) 1), qG 8 (.alloc [.int .i64 0, .int .i64 0, .int .i64 0, .bool false, .bool false, .bool false, .str []]), qi 7 8 19, qb 9 20])
 (.seq (.region [qg 22 14 3, qa 23 1, qL 24 (.call fn_spec_l31Side [.l 22, .l 23]), qc 21 24, qL 25 (.extract (.l 21) 0), qL 26 (.extract (.l 21) 1), qG 10 (.alloc [.int .i64 0, .int .i64 0, .int .i64 0, .nils, .int .i64 0]), qL 11 (.alloc [.int .i64 0, .int .i64 0, .int .i64 0, .nils, .int .i64 0]), qi 5 10 25, qj 5 11 26])
 (.seq (.region [qd 27 3 10, qf 28 1 27, qL 29 (.len (.l 28)), qb 12 29])
 (.seq (.region [qG 13 (.mv (qn 0))])
 (.seq (.seq (.region [qG 30 (.mv (.g 9))])
 (.cond (.g 30) (.region [qd 31 0 8, qf 32 1 31, qd 33 2 10, qf 34 1 33, qL 35 (.un .neg (.l 34)), qL 36 (.call fn_spec_l3Add [.l 32, .l 35]), qb 13 36])
 (.skip)))
 (.seq (.region [qd 37 2 3, qf 38 1 37, qL 39 (.bin .eql (.l 38) (qn 4)), qc 40 39, qF 41 (.faddr 2 (.g 3)) 40, qF 42 (.load false 1 (.l 41)) 40, qF 43 (.bin .eql (.l 42) (qn 3)) 40, qF 44 (.mv (.l 43)) 40, qT 45 (.mv (.g 1)) 44, qT 46 (.un .not (.l 45)) 44, qF 47 (.pick (.l 44) (.l 46) qo) 40, qL 48 (.pick (.l 40) qt (.l 47)), qb 14 48])
 (.seq (.region [qa 49 14, qc 50 49, qF 51 (.faddr 2 (.g 3)) 50, qF 52 (.load false 1 (.l 51)) 50, qF 53 (.bin .eql (.l 52) (qn 5)) 50, qF 54 (.mv (.l 53)) 50, qT 55 (.mv (.g 1)) 54, qT 56 (.faddr 3 (.g 3)) 54, qT 57 (.load false 1 (.l 56)) 54, qT 58 (.beq true (.l 55) (.l 57)) 54, qF 59 (.pick (.l 54) (.l 58) qo) 50, qL 60 (.pick (.l 50) qt (.l 59)), qb 15 60])
 (.seq (.block 0 (.seq (.region [qa 62 15, qL 63 (.un .not (.l 62)), qb 61 63])
 (.cond (.g 61) (.seq (.region [qg 64 14 3, qi 14 6 64, qG 7 (.mv (qn 3))])
 (.ret))
 (.seq (.region [qa 66 9, qL 67 (.un .not (.l 66)), qb 65 67])
 (.cond (.g 65) (.seq (.region [qg 68 14 3, qi 14 6 68, qG 7 (.mv (qn 4))])
 (.ret))
 (.seq (.drawn [qa 70 13, qa 71 12, qL 72 (.bin .lss (.l 70) (.l 71)), qc 73 72, qT 74 (.faddr 3 (.g 10)) 73, qT 75 (.load false 1 (.l 74)) 73, qT 76 (.mv (.g 13)) 73, qT 77 (.elS 7 (.l 75) (.l 76)) 73, qT 78 (.load true 7 (.l 77)) 73, qT 79 (.load true 7 (.g 8)) 73] [[], [], [], [], [], [], [], [], [], [8, 7, 5]] [qT 80 (.eqs true [0, 0, 0, 1, 1, 1, 2] (.l 78) (.l 79)) 73, qL 81 (.pick (.l 73) (.l 80) qo), qb 69 81])
 (.cond (.g 69) (.seq (.region [qg 82 14 3, qi 14 6 82, qG 7 (.mv (qn 7))])
 (.ret))
 (.seq (.region [qa 84 13, qa 85 12, qL 86 (.bin .lss (.l 84) (.l 85)), qb 83 86])
 (.cond (.g 83) (.seq (.region [qg 87 14 3, qi 14 6 87, qG 7 (.mv (qn 0))])
 (.ret))
 (.seq (.region [qa 89 14, qL 90 (.un .not (.l 89)), qb 88 90])
 (.cond (.g 88) (.seq (.region [qg 91 14 3, qi 14 6 91, qG 7 (.mv (qn 3))])
 (.ret))
 (.seq (.region [qd 93 1 8, qf 94 1 93, qd 95 1 10, qf 96 1 95, qL 97 (.bin .geq (.l 94) (.l 96)), qb 92 97])
 (.cond (.g 92) (.seq (.region [qg 98 14 3, qi 14 6 98, qG 7 (.mv (qn 5))])
 (.ret))
 (.seq (.region [qa 100 13, qa 101 12, qL 102 (.bin .gtr (.l 100) (.l 101)), qb 99 102])
 (.cond (.g 99) (.seq (.region [qg 103 14 3, qi 14 6 103, qG 7 (.mv (qn 6))])
 (.ret))
 (.seq (.region [qd 105 3 10, qf 106 1 105, qg 107 7 8, qL 108 (.call fn_spec_l31Follows [.l 106, .l 107]), qL 109 (.un .not (.l 108)), qb 104 109])
 (.cond (.g 104) (.seq (.region [qg 110 14 3, qi 14 6 110, qG 7 (.mv (qn 8))])
 (.ret))
 (.seq (.region [qa 112 12, qL 113 (.bin .geq (.l 112) (qn 12)), qb 111 113])
 (.cond (.g 111) (.seq (.region [qg 114 14 3, qi 14 6 114, qG 7 (.mv (qn 11))])
 (.ret))
 (.skip))))))))))))))))))))
 (.seq (.drawn [qL 115 (.lits 7 []), qd 116 3 10, qf 117 1 116, qL 118 (.append 7 48 (.l 115) (.l 117)), qg 119 7 8, qL 120 (.lits 7 [.l 119])] [[], [], [0], [], [3, 2, 0], [3, 2, 0]] [qL 121 (.append 7 48 (.l 118) (.l 120)), qd 122 3 10, qj 1 122 121])
 (.seq (.region [qg 123 14 3, qa 124 1, qg 125 5 10, qL 126 (.call fn_spec_l31With [.l 123, .l 124, .l 125]), qi 14 6 126, qG 7 (.mv (qn 0))])
 (.ret)))))))))))⟩
theorem ln_spec_l31Data : Linked Tryz.prog fn_spec_l31Data ac_spec_l31Data := ⟨Tryz.f188, _, Tryz.func188, rfl, by kernel_rfl, by kernel_rfl, by kernel_rfl, by kernel_rfl⟩
def ac_spec_l31Sack : AF := ⟨[0, 1, 2, 3, 5, 6, 7, 8, 9, 11, 12, 13, 25, 31, 45, 69], [.c 6 true 14, .t 7],
 .seq (.region [qG 3 (.box (.g 0)), qG 5 (.box (.g 2)), qG 6 (.alloc [.int .i64 0, .int .i64 0, .int .i64 0, .bool false, .int .i64 0, .int .i64 0, .int .i64 0, .nils, .int .i64 0, .int .i64 0, .int .i64 0, .int .i64 0, .nils, .int .i64 0]), qG 7 (.mv (qn 0))])
 (.seq (.region [qg 15 3 5, qL 16 (.call fn_spec_SackGet [.l 15]), qc 14 16, qL 17 (.extract (.l 14) 0), qL 18 (.extract (.l 14) 1), qG 8 (.alloc [.int .i64 0, .nils]), qi 2 8 17, qb 9 18])
 (.seq (.region [qg 20 14 3, qa 21 1, qL 22 (.call fn_spec_l31Side [.l 20, .l 21]), qc 19 22, qL 23 (.extract (.l 19) 0), qL 24 (.extract (.l 19) 1), qL 10 (.alloc [.int .i64 0, .int .i64 0, .int .i64 0, .nils, .int .i64 0]), qG 11 (.alloc [.int .i64 0, .int .i64 0, .int .i64 0, .nils, .int .i64 0]), qj 5 10 23, qi 5 11 24])
 (.seq (.block 0 (.seq (.region [qd 26 2 3, qf 27 1 26, qL 28 (.call fn_spec_l6In [.l 27, qn 4, qn 5]), qL 29 (.un .not (.l 28)), qb 25 29])
 (.cond (.g 25) (.seq (.region [qg 30 14 3, qi 14 6 30, qG 7 (.mv (qn 3))])
 (.ret))
 (.seq (.region [qa 32 9, qL 33 (.un .not (.l 32)), qb 31 33])
 (.cond (.g 31) (.seq (.region [qg 34 14 3, qi 14 6 34, qG 7 (.mv (qn 4))])
 (.ret))
 (.skip))))))
 (.seq (.drawn [qd 35 2 11, qf 36 1 35, qL 37 (.call fn_spec_l3Add [.l 36, (qn (-1))]), qd 38 0 8, qf 39 1 38] [[], [], [], [], [2, 1]] [qL 40 (.call fn_spec_l3Diff [.l 37, .l 39]), qb 12 40])
 (.seq (.region [qa 41 12, qb 13 41])
 (.seq (.seq (.region [qd 42 1 8, qf 43 1 42, qL 44 (.len (.l 43)), qG 45 (.bin .gtr (.l 44) (qn 0))])
 (.cond (.g 45) (.region [qa 46 12, qd 47 1 8, qf 48 1 47, qd 49 1 8, qf 50 1 49, qL 51 (.len (.l 50)), qL 52 (.bin .sub (.l 51) (qn 1)), qL 53 (.elS 2 (.l 48) (.l 52)), qe 54 1 53, qf 55 1 54, qL 56 (.bin .add (.l 46) (.l 55)), qb 13 56])
 (.skip)))
 (.seq (.seq (.region [qa 57 12, qd 58 3 11, qf 59 1 58, qL 60 (.len (.l 59)), qL 61 (.call fn_spec_l6In [.l 57, qn 0, .l 60]), qL 62 (.un .not (.l 61)), qc 63 62, qF 64 (.mv (.g 13)) 63, qF 65 (.faddr 3 (.g 11)) 63, qF 66 (.load false 1 (.l 65)) 63, qF 67 (.len (.l 66)) 63, qF 68 (.bin .gtr (.l 64) (.l 67)) 63, qG 69 (.pick (.l 63) qt (.l 68))])
 (.cond (.g 69) (.seq (.region [qg 70 14 3, qi 14 6 70, qG 7 (.mv (qn 9))])
 (.ret))
 (.skip)))
 (.seq (.region [qd 71 4 11, qf 72 1 71, qa 73 12, qL 74 (.max (.l 72) (.l 73)), qd 75 4 11, qj 1 75 74])
 (.seq (.region [qg 76 14 3, qa 77 1, qL 78 (.un .not (.l 77)), qg 79 5 11, qL 80 (.call fn_spec_l31With [.l 76, .l 78, .l 79]), qi 14 6 80, qG 7 (.mv (qn 0))])
 (.ret))))))))))⟩
theorem ln_spec_l31Sack : Linked Tryz.prog fn_spec_l31Sack ac_spec_l31Sack := ⟨Tryz.f189, _, Tryz.func189, rfl, by kernel_rfl, by kernel_rfl, by kernel_rfl, by kernel_rfl⟩
def ac_spec_l31End : AF := ⟨[0, 1, 2, 3, 6, 7, 8, 10, 24, 33, 46, 57, 71, 90, 105], [.c 6 true 14, .t 7],
 .seq (.region [qG 3 (.box (.g 0)), qG 6 (.alloc [.int .i64 0, .int .i64 0, .int .i64 0, .bool false, .int .i64 0, .int .i64 0, .int .i64 0, .nils, .int .i64 0, .int .i64 0, .int .i64 0, .int .i64 0, .nils, .int .i64 0]), qG 7 (.mv (qn 0))])
 (.seq (.region [qg 12 14 3, qa 13 1, qL 14 (.call fn_spec_l31Side [.l 12, .l 13]), qc 11 14, qL 15 (.extract (.l 11) 0), qL 16 (.extract (.l 11) 1), qG 8 (.alloc [.int .i64 0, .int .i64 0, .int .i64 0, .nils, .int .i64 0]), qL 9 (.alloc [.int .i64 0, .int .i64 0, .int .i64 0, .nils, .int .i64 0]), qi 5 8 15, qj 5 9 16])
 (.seq (.region [qd 17 4 8, qf 18 1 17, qd 19 3 8, qf 20 1 19, qL 21 (.len (.l 20)), qL 22 (.bin .eql (.l 18) (.l 21)), qb 10 22])
 (.seq (.block 0 (.seq (.region [qa 25 2, qL 26 (.bin .eql (.l 25) (qn 6)), qc 27 26, qT 28 (.faddr 2 (.g 3)) 27, qT 29 (.load false 1 (.l 28)) 27, qT 30 (.call fn_spec_l6In [.l 29, qn 1, qn 6]) 27, qL 31 (.pick (.l 27) (.l 30) qo), qb 24 31])
 (.cond (.g 24) (.region [qd 32 2 3, qN (.store 1 (.l 32) (qn 7))])
 (.seq (.region [qa 34 2, qL 35 (.bin .eql (.l 34) (qn 7)), qc 36 35, qT 37 (.faddr 2 (.g 3)) 36, qT 38 (.load false 1 (.l 37)) 36, qT 39 (.bin .eql (.l 38) (qn 4)) 36, qL 40 (.pick (.l 36) (.l 39) qo), qc 41 40, qT 42 (.mv (.g 10)) 41, qT 43 (.un .not (.l 42)) 41, qL 44 (.pick (.l 41) (.l 43) qo), qb 33 44])
 (.cond (.g 33) (.seq (.region [qg 45 14 3, qi 14 6 45, qG 7 (.mv (qn 10))])
 (.ret))
 (.seq (.region [qa 47 2, qL 48 (.bin .eql (.l 47) (qn 7)), qc 49 48, qT 50 (.faddr 2 (.g 3)) 49, qT 51 (.load false 1 (.l 50)) 49, qT 52 (.bin .eql (.l 51) (qn 4)) 49, qL 53 (.pick (.l 49) (.l 52) qo), qb 46 53])
 (.cond (.g 46) (.seq (.region [qd 54 2 3, qN (.store 1 (.l 54) (qn 5))])
 (.region [qa 55 1, qd 56 3 3, qj 1 56 55]))
 (.seq (.region [qa 58 2, qL 59 (.bin .eql (.l 58) (qn 7)), qc 60 59, qT 61 (.faddr 2 (.g 3)) 60, qT 62 (.load false 1 (.l 61)) 60, qT 63 (.call fn_spec_l6In [.l 62, qn 5, qn 6]) 60, qL 64 (.pick (.l 60) (.l 63) qo), qc 65 64, qT 66 (.mv (.g 1)) 65, qT 67 (.faddr 3 (.g 3)) 65, qT 68 (.load false 1 (.l 67)) 65, qT 69 (.beq false (.l 66) (.l 68)) 65, qL 70 (.pick (.l 65) (.l 69) qo), qb 57 70])
 (.cond (.g 57) (.skip)
 (.seq (.region [qa 72 2, qL 73 (.bin .eql (.l 72) (qn 8)), qc 74 73, qT 75 (.faddr 2 (.g 3)) 74, qT 76 (.load false 1 (.l 75)) 74, qT 77 (.bin .eql (.l 76) (qn 5)) 74, qL 78 (.pick (.l 74) (.l 77) qo), qc 79 78, qT 80 (.mv (.g 1)) 79, qT 81 (.faddr 3 (.g 3)) 79, qT 82 (.load false 1 (.l 81)) 79, qT 83 (.beq true (.l 80) (.l 82)) 79, qL 84 (.pick (.l 79) (.l 83) qo), qc 85 84, qT 86 (.mv (.g 10)) 85, qT 87 (.un .not (.l 86)) 85, qL 88 (.pick (.l 85) (.l 87) qo), qb 71 88])
 (.cond (.g 71) (.seq (.region [qg 89 14 3, qi 14 6 89, qG 7 (.mv (qn 10))])
 (.ret))
 (.seq (.region [qa 91 2, qL 92 (.bin .eql (.l 91) (qn 8)), qc 93 92, qT 94 (.faddr 2 (.g 3)) 93, qT 95 (.load false 1 (.l 94)) 93, qT 96 (.call fn_spec_l6In [.l 95, qn 5, qn 6]) 93, qL 97 (.pick (.l 93) (.l 96) qo), qc 98 97, qT 99 (.mv (.g 1)) 98, qT 100 (.faddr 3 (.g 3)) 98, qT 101 (.load false 1 (.l 100)) 98, qT 102 (.beq true (.l 99) (.l 101)) 98, qL 103 (.pick (.l 98) (.l 102) qo), qb 90 103])
 (.cond (.g 90) (.region [qd 104 2 3, qN (.store 1 (.l 104) (qn 6))])
 (.seq (.region [qa 106 2, qL 107 (.bin .eql (.l 106) (qn 14)), qc 108 107, qT 109 (.faddr 2 (.g 3)) 108, qT 110 (.load false 1 (.l 109)) 108, qT 111 (.bin .eql (.l 110) (qn 6)) 108, qL 112 (.pick (.l 108) (.l 111) qo), qc 113 112, qT 114 (.mv (.g 1)) 113, qT 115 (.faddr 3 (.g 3)) 113, qT 116 (.load false 1 (.l 115)) 113, qT 117 (.beq false (.l 114) (.l 116)) 113, qL 118 (.pick (.l 113) (.l 117) qo), qb 105 118])
 (.cond (.g 105) (.region [qd 119 2 3, qN (.store 1 (.l 119) (qn 7))])
 (.seq (.region [qg 23 14 3, qi 14 6 23, qG 7 (.mv (qn 3))])
 (.ret)))))))))))))))))
 (.seq (.region [qg 120 14 3, qi 14 6 120, qG 7 (.mv (qn 0))])
 (.ret)))))⟩
theorem ln_spec_l31End : Linked Tryz.prog fn_spec_l31End ac_spec_l31End := ⟨Tryz.f190, _, Tryz.func190, rfl, by kernel_rfl, by kernel_rfl, by kernel_rfl, by kernel_rfl⟩
def ac_spec_l31Cookie : AF := ⟨[0, 1, 2, 3, 6, 7, 9, 25, 37], [.c 6 true 14, .t 7],
 .seq (.region [qG 3 (.box (.g 0)), qG 6 (.alloc [.int .i64 0, .int .i64 0, .int .i64 0, .bool false, .int .i64 0, .int .i64 0, .int .i64 0, .nils, .int .i64 0, .int .i64 0, .int .i64 0, .int .i64 0, .nils, .int .i64 0]), qG 7 (.mv (qn 0))])
 (.seq (.block 0 (.seq (.region [qa 10 2, qL 11 (.bin .eql (.l 10) (qn 10)), qc 12 11, qT 13 (.mv (.g 1)) 12, qT 14 (.un .not (.l 13)) 12, qL 15 (.pick (.l 12) (.l 14) qo), qc 16 15, qT 17 (.faddr 2 (.g 3)) 16, qT 18 (.load false 1 (.l 17)) 16, qT 19 (.call fn_spec_l6In [.l 18, qn 2, qn 4]) 16, qL 20 (.pick (.l 16) (.l 19) qo), qb 9 20])
 (.cond (.g 9) (.region [qd 21 2 3, qf 22 1 21, qL 23 (.max (.l 22) (qn 3)), qd 24 2 3, qj 1 24 23])
 (.seq (.region [qa 26 2, qL 27 (.bin .eql (.l 26) (qn 11)), qc 28 27, qT 29 (.mv (.g 1)) 28, qL 30 (.pick (.l 28) (.l 29) qo), qc 31 30, qT 32 (.faddr 2 (.g 3)) 31, qT 33 (.load false 1 (.l 32)) 31, qT 34 (.call fn_spec_l6In [.l 33, qn 3, qn 4]) 31, qL 35 (.pick (.l 31) (.l 34) qo), qb 25 35])
 (.cond (.g 25) (.region [qd 36 2 3, qN (.store 1 (.l 36) (qn 4))])
 (.seq (.region [qa 38 2, qL 39 (.bin .eql (.l 38) (qn 4)), qc 40 39, qF 41 (.mv (.g 2)) 40, qF 42 (.bin .eql (.l 41) (qn 5)) 40, qL 43 (.pick (.l 40) qt (.l 42)), qc 44 43, qF 45 (.mv (.g 2)) 44, qF 46 (.bin .eql (.l 45) (qn 9)) 44, qL 47 (.pick (.l 44) qt (.l 46)), qc 48 47, qT 49 (.faddr 2 (.g 3)) 48, qT 50 (.load false 1 (.l 49)) 48, qT 51 (.call fn_spec_l6In [.l 50, qn 3, qn 6]) 48, qL 52 (.pick (.l 48) (.l 51) qo), qb 37 52])
 (.cond (.g 37) (.skip)
 (.seq (.region [qg 8 14 3, qi 14 6 8, qG 7 (.mv (qn 3))])
 (.ret)))))))))
 (.seq (.region [qg 53 14 3, qi 14 6 53, qG 7 (.mv (qn 0))])
 (.ret)))⟩
theorem ln_spec_l31Cookie : Linked Tryz.prog fn_spec_l31Cookie ac_spec_l31Cookie := ⟨Tryz.f191, _, Tryz.func191, rfl, by kernel_rfl, by kernel_rfl, by kernel_rfl, by kernel_rfl⟩
def ac_spec_l31With : AF := ⟨[0, 1, 2, 3, 5, 6, 7], [.c 6 true 14],
 .seq (.region [qG 3 (.box (.g 0)), qG 5 (.box (.g 2)), qG 6 (.alloc [.int .i64 0, .int .i64 0, .int .i64 0, .bool false, .int .i64 0, .int .i64 0, .int .i64 0, .nils, .int .i64 0, .int .i64 0, .int .i64 0, .int .i64 0, .nils, .int .i64 0])])
 (.seq (.seq (.region [qG 7 (.mv (.g 1))])
 (.cond (.g 7) (.region [qg 8 5 5, qd 9 9 3, qj 5 9 8])
 (.region [qg 10 5 5, qd 11 4 3, qj 5 11 10])))
 (.seq (.region [qg 12 14 3, qi 14 6 12])
 (.ret)))⟩
theorem ln_spec_l31With : Linked Tryz.prog fn_spec_l31With ac_spec_l31With := ⟨Tryz.f192, _, Tryz.func192, rfl, by kernel_rfl, by kernel_rfl, by kernel_rfl, by kernel_rfl⟩
def ac_spec_DataGet : AF := ⟨[0, 1, 2, 3, 4, 19, 52], [.c 2 true 7, .t 3],
 .seq (.region [qG 1 (.box (.g 0)), qG 2 (.alloc [.int .i64 0, .int .i64 0, .int .i64 0, .bool false, .bool false, .bool false, .str []]), qG 3 (.mv qo)])
 (.seq (.seq (.region [qd 5 0 1, qf 6 1 5, qL 7 (.bin .neq (.l 6) (qn 0)), qc 8 7, qF 9 (.faddr 1 (.g 1)) 8, qF 10 (.load false 1 (.l 9)) 8, qF 11 (.call fn_spec_l6In [.l 10, qn 0, qn 7]) 8, qF 12 (.un .not (.l 11)) 8, qL 13 (.pick (.l 8) qt (.l 12)), qc 14 13, qF 15 (.faddr 2 (.g 1)) 14, qF 16 (.load false 1 (.l 15)) 14, qF 17 (.lenStr (.l 16)) 14, qF 18 (.bin .lss (.l 17) (qn 6)) 14, qG 19 (.pick (.l 14) qt (.l 18))])
 (.cond (.g 19) (.seq (.region [qL 20 (.build [.int .i64 0, .int .i64 0, .int .i64 0, .bool false, .bool false, .bool false, .str []] []), qi 7 2 20, qG 3 (.mv qo)])
 (.ret))
 (.skip)))
 (.seq (.drawn [qd 21 2 1, qf 22 1 21, qL 23 (.call fn_spec_l1At [.l 22, qn 0]), qd 24 2 1, qf 25 1 24, qL 26 (.call fn_spec_l1At [.l 25, qn 2]), qd 27 2 1, qf 28 1 27, qL 29 (.call fn_spec_l1At [.l 28, qn 4]), qd 30 2 1, qf 31 1 30, qL 32 (.cutStr (.l 31) (some (qn 6)) none), qL 33 (.build [.int .i64 0, .int .i64 0, .int .i64 0, .bool false, .bool false, .bool false, .str []] [(0, 1, .l 23), (1, 1, .l 26), (2, 1, .l 29), (6, 1, .l 32)]), qG 4 (.alloc [.int .i64 0, .int .i64 0, .int .i64 0, .bool false, .bool false, .bool false, .str []])] [[], [], [], [], [2, 1], [], [], [5, 4, 2, 1], [], [], [8, 7, 5, 4, 2, 1], [], [], [10, 8, 7, 5, 4, 2, 1]] [qi 7 4 33])
 (.seq (.region [qd 34 1 1, qf 35 1 34, qL 36 (.bin .rem (.l 35) (qn 2)), qL 37 (.bin .eql (.l 36) (qn 1)), qd 38 4 4, qj 1 38 37])
 (.seq (.region [qd 39 1 1, qf 40 1 39, qL 41 (.bin .quo (.l 40) (qn 2)), qL 42 (.bin .rem (.l 41) (qn 2)), qL 43 (.bin .eql (.l 42) (qn 1)), qd 44 3 4, qj 1 44 43])
 (.seq (.region [qd 45 1 1, qf 46 1 45, qL 47 (.bin .quo (.l 46) (qn 4)), qL 48 (.bin .eql (.l 47) (qn 1)), qd 49 5 4, qj 1 49 48])
 (.seq (.seq (.region [qg 50 7 4, qL 51 (.call fn_spec_l12Data [.l 50]), qG 52 (.un .not (.l 51))])
 (.cond (.g 52) (.seq (.region [qL 53 (.build [.int .i64 0, .int .i64 0, .int .i64 0, .bool false, .bool false, .bool false, .str []] []), qi 7 2 53, qG 3 (.mv qo)])
 (.ret))
 (.skip)))
 (.seq (.region [qg 54 7 4, qi 7 2 54, qG 3 (.mv qt)])
 (.ret))))))))⟩
theorem ln_spec_DataGet : Linked Tryz.prog fn_spec_DataGet ac_spec_DataGet := ⟨Tryz.f193, _, Tryz.func193, rfl, by kernel_rfl, by kernel_rfl, by kernel_rfl, by kernel_rfl⟩
def ac_spec_SackGet : AF := ⟨[0, 1, 2, 3, 4, 5, 20, 31, 51], [.c 2 true 2, .t 3],
 .seq (.region [qG 1 (.box (.g 0)), qG 2 (.alloc [.int .i64 0, .nils]), qG 3 (.mv qo)])
 (.seq (.seq (.region [qd 6 0 1, qf 7 1 6, qL 8 (.bin .neq (.l 7) (qn 3)), qc 9 8, qF 10 (.faddr 1 (.g 1)) 9, qF 11 (.load false 1 (.l 10)) 9, qF 12 (.bin .neq (.l 11) (qn 0)) 9, qL 13 (.pick (.l 9) qt (.l 12)), qc 14 13, qF 15 (.faddr 2 (.g 1)) 14, qF 16 (.load false 1 (.l 15)) 14, qF 17 (.lenStr (.l 16)) 14, qF 18 (.bin .rem (.l 17) (qn 4)) 14, qF 19 (.bin .neq (.l 18) (qn 2)) 14, qG 20 (.pick (.l 14) qt (.l 19))])
 (.cond (.g 20) (.seq (.region [qL 21 (.build [.int .i64 0, .nils] []), qi 2 2 21, qG 3 (.mv qo)])
 (.ret))
 (.skip)))
 (.seq (.region [qd 22 2 1, qf 23 1 22, qL 24 (.call fn_spec_l1At [.l 23, qn 0]), qL 25 (.lits 2 []), qL 26 (.build [.int .i64 0, .nils] [(0, 1, .l 24), (1, 1, .l 25)]), qG 4 (.alloc [.int .i64 0, .nils]), qi 2 4 26])
 (.seq (.seq (.region [qG 5 (.mv (qn 2))])
 (.block 0 (.loop (.seq (.seq (.region [qa 27 5, qd 28 2 1, qf 29 1 28, qL 30 (.lenStr (.l 29)), qG 31 (.bin .lss (.l 27) (.l 30))])
 (.cond (.g 31) (.skip)
 (.exit 0)))
 (.seq (.block 1 (.drawn [qd 34 1 4, qf 35 1 34, qd 36 2 1, qf 37 1 36, qa 38 5, qL 39 (.call fn_spec_l1At [.l 37, .l 38]), qd 40 2 1, qf 41 1 40, qa 42 5, qL 43 (.bin .add (.l 42) (qn 2)), qL 44 (.call fn_spec_l1At [.l 41, .l 43]), qL 45 (.build [.int .i64 0, .int .i64 0] [(0, 1, .l 39), (1, 1, .l 44)]), qL 46 (.lits 2 [.l 45])] [[], [], [], [1], [], [1], [], [5, 3, 1], [], [], [1], [], [1]] [qL 47 (.append 2 16 (.l 35) (.l 46)), qd 48 1 4, qj 1 48 47]))
 (.region [qa 32 5, qL 33 (.bin .add (.l 32) (qn 4)), qb 5 33]))))))
 (.seq (.seq (.region [qg 49 2 4, qL 50 (.call fn_spec_l12Sack [.l 49]), qG 51 (.un .not (.l 50))])
 (.cond (.g 51) (.seq (.region [qL 52 (.build [.int .i64 0, .nils] []), qi 2 2 52, qG 3 (.mv qo)])
 (.ret))
 (.skip)))
 (.seq (.region [qg 53 2 4, qi 2 2 53, qG 3 (.mv qt)])
 (.ret))))))⟩
theorem ln_spec_SackGet : Linked Tryz.prog fn_spec_SackGet ac_spec_SackGet := ⟨Tryz.f194, _, Tryz.func194, rfl, by kernel_rfl, by kernel_rfl, by kernel_rfl, by kernel_rfl⟩
def ac_spec_l3Diff : AF := ⟨[0, 1, 4, 5, 11], [.t 4],
 .seq (.region [qG 4 (.mv (qn 0))])
 (.seq (.region [qa 6 1, qa 7 0, qL 8 (.un .neg (.l 7)), qL 9 (.call fn_spec_l3Add [.l 6, .l 8]), qb 5 9])
 (.seq (.seq (.region [qa 10 5, qG 11 (.bin .gtr (.l 10) (qn 32768))])
 (.cond (.g 11) (.region [qa 12 5, qL 13 (.bin .sub (.l 12) (qn 65536)), qb 5 13])
 (.skip)))
 (.seq (.region [qa 14 5, qb 4 14])
 (.ret))))⟩
theorem ln_spec_l3Diff : Linked Tryz.prog fn_spec_l3Diff ac_spec_l3Diff := ⟨Tryz.f195, _, Tryz.func195, rfl, by kernel_rfl, by kernel_rfl, by kernel_rfl, by kernel_rfl⟩
end Go.Proofs.YtjkbbdmkgealfaaGreatDoor
