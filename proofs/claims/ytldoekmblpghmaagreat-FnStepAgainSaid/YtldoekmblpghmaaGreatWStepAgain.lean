/-
  The law 'FnStepAgain' is proved: it returns true whatever the input, and the input reads as it did. No condition.
-/
import Derived.Test.YtldoekmblpghmaaGreatQ30
import Derived.Test.YtldoekmblpghmaaGreatQ29
import Derived.Test.YtldoekmblpghmaaGreatRows
namespace Go.Proofs.YtldoekmblpghmaaGreat
set_option linter.all false
section
set_option maxRecDepth 100000
def ac_laws_FnStepAgain : AF := ⟨[0, 1, 4, 5, 6, 7, 8, 9, 10, 11, 12, 14, 15, 17, 25, 69, 117], [.t 4],
  .seq (.region [⟨(.g 4), .mv (.c (.bool false)), none⟩])
  (.seq (.seq (.region [⟨(.l 18), .mv (.g 0), none⟩, ⟨(.l 19), .len (.l 18), none⟩, ⟨(.l 20), .bin .gtr (.l 19) (.c (.int .i64 1048576)), none⟩, ⟨(.l 21), .mv (.l 20), none⟩, ⟨(.l 22), .mv (.g 1), (some ((.l 21), false))⟩, ⟨(.l 23), .len (.l 22), (some ((.l 21), false))⟩, ⟨(.l 24), .bin .gtr (.l 23) (.c (.int .i64 1048576)), (some ((.l 21), false))⟩, ⟨(.g 25), .pick (.l 21) (.c (.bool true)) (.l 24), none⟩])
  (.cond (.g 25) (.seq (.region [⟨(.g 4), .mv (.c (.bool true)), none⟩])
   (.ret))
  (.skip)))
  (.seq (.region [⟨(.l 27), .mv (.g 0), none⟩, ⟨(.l 28), .call fn_spec_DrawAssocStep [(.l 27)], none⟩, ⟨(.l 26), .mv (.l 28), none⟩, ⟨(.l 29), .extract (.l 26) 0, none⟩, ⟨(.l 30), .extract (.l 26) 1, none⟩, ⟨(.g 5), .alloc [(.int .i64 0), (.int .i64 0), (.int .i64 0), (.bool false), (.int .i64 0), (.int .i64 0), (.int .i64 0), .nils, (.int .i64 0), (.int .i64 0), (.int .i64 0), (.int .i64 0), .nils, (.int .i64 0)], none⟩, ⟨(.g 6), .alloc [(.int .i64 0), (.int .i64 0), (.int .i64 0), .nils], none⟩, ⟨.no, .store 14 (.g 5) (.l 29), none⟩, ⟨.no, .store 4 (.g 6) (.l 30), none⟩])
  (.seq (.region [⟨(.l 32), .load true 14 (.g 5), none⟩, ⟨(.l 33), .load true 4 (.g 6), none⟩, ⟨(.l 34), .call fn_impl_AssocStep [(.l 32), (.l 33)], none⟩, ⟨(.l 31), .mv (.l 34), none⟩, ⟨(.l 35), .extract (.l 31) 0, none⟩, ⟨(.l 36), .extract (.l 31) 1, none⟩, ⟨(.g 7), .alloc [(.int .i64 0), (.int .i64 0), (.int .i64 0), (.bool false), (.int .i64 0), (.int .i64 0), (.int .i64 0), .nils, (.int .i64 0), (.int .i64 0), (.int .i64 0), (.int .i64 0), .nils, (.int .i64 0)], none⟩, ⟨.no, .store 14 (.g 7) (.l 35), none⟩, ⟨(.g 8), .mv (.l 36), none⟩])
  (.seq (.region [⟨(.l 38), .load true 14 (.g 5), none⟩, ⟨(.l 39), .load true 4 (.g 6), none⟩, ⟨(.l 40), .call fn_spec_AssocStep [(.l 38), (.l 39)], none⟩, ⟨(.l 37), .mv (.l 40), none⟩, ⟨(.l 41), .extract (.l 37) 0, none⟩, ⟨(.l 42), .extract (.l 37) 1, none⟩, ⟨(.g 9), .alloc [(.int .i64 0), (.int .i64 0), (.int .i64 0), (.bool false), (.int .i64 0), (.int .i64 0), (.int .i64 0), .nils, (.int .i64 0), (.int .i64 0), (.int .i64 0), (.int .i64 0), .nils, (.int .i64 0)], none⟩, ⟨.no, .store 14 (.g 9) (.l 41), none⟩, ⟨(.g 10), .mv (.l 42), none⟩])
  (.seq (.seq (.region [⟨(.l 43), .mv (.g 8), none⟩, ⟨(.l 44), .mv (.g 10), none⟩, ⟨(.l 45), .call fn_laws_sameInts [(.l 43), (.l 44)], none⟩, ⟨(.l 46), .un .not (.l 45), none⟩, ⟨(.l 47), .mv (.l 46), none⟩, ⟨(.l 48), .load true 14 (.g 7), (some ((.l 47), false))⟩, ⟨(.l 49), .load true 14 (.g 9), (some ((.l 47), false))⟩, ⟨(.l 50), .call fn_laws_sameAssoc [(.l 48), (.l 49)], (some ((.l 47), false))⟩, ⟨(.l 51), .un .not (.l 50), (some ((.l 47), false))⟩, ⟨(.l 52), .pick (.l 47) (.c (.bool true)) (.l 51), none⟩, ⟨(.l 53), .mv (.l 52), none⟩, ⟨(.l 54), .faddr 0 (.g 9), (some ((.l 53), false))⟩, ⟨(.l 55), .load false 1 (.l 54), (some ((.l 53), false))⟩, ⟨(.l 56), .bin .eql (.l 55) (.c (.int .i64 0)), (some ((.l 53), false))⟩, ⟨(.l 57), .pick (.l 53) (.c (.bool true)) (.l 56), none⟩, ⟨(.l 58), .mv (.l 57), none⟩, ⟨(.l 59), .faddr 2 (.g 5), (some ((.l 58), false))⟩, ⟨(.l 60), .load false 1 (.l 59), (some ((.l 58), false))⟩, ⟨(.l 61), .bin .neq (.l 60) (.c (.int .i64 4)), (some ((.l 58), false))⟩, ⟨(.l 62), .pick (.l 58) (.c (.bool true)) (.l 61), none⟩, ⟨(.l 63), .mv (.l 62), none⟩, ⟨(.l 64), .faddr 4 (.g 5), (some ((.l 63), false))⟩, ⟨(.l 65), .faddr 3 (.l 64), (some ((.l 63), false))⟩, ⟨(.l 66), .load false 1 (.l 65), (some ((.l 63), false))⟩, ⟨(.l 67), .len (.l 66), (some ((.l 63), false))⟩, ⟨(.l 68), .bin .eql (.l 67) (.c (.int .i64 0)), (some ((.l 63), false))⟩, ⟨(.g 69), .pick (.l 63) (.c (.bool true)) (.l 68), none⟩])
  (.cond (.g 69) (.seq (.region [⟨(.l 70), .mv (.g 8), none⟩, ⟨(.l 71), .mv (.g 10), none⟩, ⟨(.l 72), .call fn_laws_sameInts [(.l 70), (.l 71)], none⟩, ⟨(.l 73), .mv (.l 72), none⟩, ⟨(.l 74), .load true 14 (.g 7), (some ((.l 73), true))⟩, ⟨(.l 75), .load true 14 (.g 9), (some ((.l 73), true))⟩, ⟨(.l 76), .call fn_laws_sameAssoc [(.l 74), (.l 75)], (some ((.l 73), true))⟩, ⟨(.l 77), .pick (.l 73) (.l 76) (.c (.bool false)), none⟩, ⟨(.g 4), .mv (.l 77), none⟩])
   (.ret))
  (.skip)))
  (.seq (.drawn [⟨(.l 78), .faddr 4 (.g 5), none⟩, ⟨(.l 79), .faddr 3 (.l 78), none⟩, ⟨(.l 80), .load false 1 (.l 79), none⟩, ⟨(.l 81), .mv (.g 1), none⟩, ⟨(.l 82), .len (.l 81), none⟩, ⟨(.l 83), .faddr 4 (.g 5), none⟩, ⟨(.l 84), .faddr 3 (.l 83), none⟩, ⟨(.l 85), .load false 1 (.l 84), none⟩, ⟨(.l 86), .len (.l 85), none⟩, ⟨(.l 87), .bin .rem (.l 82) (.l 86), none⟩, ⟨(.l 88), .elS 7 (.l 80) (.l 87), none⟩, ⟨(.l 89), .load true 7 (.l 88), none⟩, ⟨(.g 11), .alloc [(.int .i64 0), (.int .i64 0), (.int .i64 0), (.bool false), (.bool false), (.bool false), (.str [])], none⟩] [[], [], [], [], [2], [], [], [4, 2], [4, 2], [], [], [], [11, 10, 8, 7, 4, 2]] [⟨.no, .store 7 (.g 11) (.l 89), none⟩])
  (.seq (.region [⟨(.l 91), .load true 7 (.g 11), none⟩, ⟨(.l 92), .call fn_impl_DataPut [(.l 91)], none⟩, ⟨(.l 90), .mv (.l 92), none⟩, ⟨(.l 93), .extract (.l 90) 0, none⟩, ⟨(.l 94), .extract (.l 90) 1, none⟩, ⟨(.g 12), .alloc [(.int .i64 0), (.int .i64 0), (.str [])], none⟩, ⟨.no, .store 3 (.g 12) (.l 93), none⟩, ⟨(.l 13), .mv (.l 94), none⟩])
  (.seq (.drawn [⟨(.l 96), .load true 14 (.g 5), none⟩, ⟨(.l 97), .load true 14 (.g 5), none⟩, ⟨(.l 98), .load true 3 (.g 12), none⟩, ⟨(.l 99), .call fn_laws_from [(.l 97), (.c (.bool false)), (.l 98)], none⟩, ⟨(.l 100), .call fn_impl_AssocStep [(.l 96), (.l 99)], none⟩, ⟨(.l 95), .mv (.l 100), none⟩, ⟨(.l 101), .extract (.l 95) 0, none⟩, ⟨(.l 102), .extract (.l 95) 1, none⟩, ⟨(.g 14), .alloc [(.int .i64 0), (.int .i64 0), (.int .i64 0), (.bool false), (.int .i64 0), (.int .i64 0), (.int .i64 0), .nils, (.int .i64 0), (.int .i64 0), (.int .i64 0), (.int .i64 0), .nils, (.int .i64 0)], none⟩, ⟨.no, .store 14 (.g 14) (.l 101), none⟩] [[], [0], [1, 0], [0], [], [], [], [], [4, 3, 2, 1, 0], []] [⟨(.g 15), .mv (.l 102), none⟩])
  (.seq (.region [⟨(.l 103), .faddr 6 (.g 11), none⟩, ⟨.no, .store 1 (.l 103) (.c (.str [113])), none⟩])
  (.seq (.seq (.drawn [⟨(.l 104), .faddr 4 (.g 5), none⟩, ⟨(.l 105), .faddr 3 (.l 104), none⟩, ⟨(.l 106), .load false 1 (.l 105), none⟩, ⟨(.l 107), .mv (.g 1), none⟩, ⟨(.l 108), .len (.l 107), none⟩, ⟨(.l 109), .faddr 4 (.g 5), none⟩, ⟨(.l 110), .faddr 3 (.l 109), none⟩, ⟨(.l 111), .load false 1 (.l 110), none⟩, ⟨(.l 112), .len (.l 111), none⟩, ⟨(.l 113), .bin .rem (.l 108) (.l 112), none⟩] [[], [], [], [], [2], [], [], [4, 2], [4, 2], []] [⟨(.l 114), .elS 7 (.l 106) (.l 113), none⟩, ⟨(.l 115), .faddr 6 (.l 114), none⟩, ⟨(.l 116), .load false 1 (.l 115), none⟩, ⟨(.g 117), .bin .eql (.l 116) (.c (.str [113])), none⟩])
  (.cond (.g 117) (.region [⟨(.l 118), .faddr 6 (.g 11), none⟩, ⟨.no, .store 1 (.l 118) (.c (.str [114])), none⟩])
  (.skip)))
  (.seq (.region [⟨(.l 120), .load true 7 (.g 11), none⟩, ⟨(.l 121), .call fn_impl_DataPut [(.l 120)], none⟩, ⟨(.l 119), .mv (.l 121), none⟩, ⟨(.l 122), .extract (.l 119) 0, none⟩, ⟨(.l 123), .extract (.l 119) 1, none⟩, ⟨.no, .store 3 (.g 12) (.l 122), none⟩])
  (.seq (.drawn [⟨(.l 125), .load true 14 (.g 5), none⟩, ⟨(.l 126), .load true 14 (.g 5), none⟩, ⟨(.l 127), .load true 3 (.g 12), none⟩, ⟨(.l 128), .call fn_laws_from [(.l 126), (.c (.bool false)), (.l 127)], none⟩, ⟨(.l 129), .call fn_impl_AssocStep [(.l 125), (.l 128)], none⟩, ⟨(.l 124), .mv (.l 129), none⟩, ⟨(.l 130), .extract (.l 124) 0, none⟩, ⟨(.l 131), .extract (.l 124) 1, none⟩, ⟨(.l 16), .alloc [(.int .i64 0), (.int .i64 0), (.int .i64 0), (.bool false), (.int .i64 0), (.int .i64 0), (.int .i64 0), .nils, (.int .i64 0), (.int .i64 0), (.int .i64 0), (.int .i64 0), .nils, (.int .i64 0)], none⟩, ⟨.no, .store 14 (.l 16) (.l 130), none⟩] [[], [0], [1, 0], [0], [], [], [], [], [4, 3, 2, 1, 0], []] [⟨(.g 17), .mv (.l 131), none⟩])
  (.seq (.region [⟨(.l 132), .mv (.g 15), none⟩, ⟨(.l 133), .len (.l 132), none⟩, ⟨(.l 134), .bin .eql (.l 133) (.c (.int .i64 0)), none⟩, ⟨(.l 135), .mv (.l 134), none⟩, ⟨(.l 136), .load true 14 (.g 14), (some ((.l 135), true))⟩, ⟨(.l 137), .load true 14 (.g 5), (some ((.l 135), true))⟩, ⟨(.l 138), .call fn_laws_sameAssoc [(.l 136), (.l 137)], (some ((.l 135), true))⟩, ⟨(.l 139), .pick (.l 135) (.l 138) (.c (.bool false)), none⟩, ⟨(.l 140), .mv (.l 139), none⟩, ⟨(.l 141), .mv (.g 17), (some ((.l 140), true))⟩, ⟨(.l 142), .call fn_laws_one [(.l 141), (.c (.int .i64 7))], (some ((.l 140), true))⟩, ⟨(.l 143), .pick (.l 140) (.l 142) (.c (.bool false)), none⟩, ⟨(.g 4), .mv (.l 143), none⟩])
  (.ret))))))))))))))⟩
theorem ln_laws_FnStepAgain : Linked Tryz.prog fn_laws_FnStepAgain ac_laws_FnStepAgain := ⟨Tryz.f15, _, Tryz.func15, rfl, by kernel_rfl, by kernel_rfl, by kernel_rfl, by kernel_rfl⟩
end
end Go.Proofs.YtldoekmblpghmaaGreat

namespace Go.Proofs.YtldoekmblpghmaaGreat
set_option linter.all false
section
set_option maxRecDepth 200000
set_option maxHeartbeats 8000000
attribute [-simp] List.getD_eq_getElem?_getD

theorem FnStepAgain_ok (code more : List UInt8) : Fn Tryz.prog fn_laws_FnStepAgain [bsl code, bsl more] [] (.bool true) [] := by
  obtain ⟨x, p, hx, hp, f1⟩ := DrawAssocStep_ok code
  have g1 := impl_AssocStep_ok x p hx.bd (by omega)
  have g2 := spec_AssocStep_ok x p hx.bd (by omega)
  have g3 := sameInts_self (stepS x p).2 (by have := stepS_len x p; omega)
  have g4 := sameAssoc_self (stepS x p).1 (stepS_bd p)
  have hm := srcN (x := x) (p := p)
  have hbd := stepS_bd (x := x) p
  have hln := stepS_len x p
  generalize stepS x p = r at *
  obtain ⟨y, rl⟩ := r
  simp only at hm hbd hln
  simp only [assoc_v, packet_v, isl] at f1 g1 g2 g3 g4
  refine Fn.of_go ln_laws_FnStepAgain rfl ?_
  simp [ac_laws_FnStepAgain, bsl]
  cases h0 : decide (1048576 < code.length)
  rotate_left
  · simp
    exact Ends.mk [] [] (by simp)
  simp
  cases h00 : decide (1048576 < more.length)
  rotate_left
  · simp
    exact Ends.mk [] [] (by simp)
  simp
  refine goCall_eq f1 (by simp [bsl]) ?_
  simp
  refine goCall_eq g1 (by simp) ?_
  simp
  refine goCall_eq g2 (by simp) ?_
  simp
  refine goCall_eq g3 (by simp) ?_
  simp
  refine goCall_eq g4 (by simp) ?_
  simp
  cases h1 : decide (y.src = 0)
  rotate_left
  · simp
    refine goCall_eq g3 (by simp) ?_
    simp
    refine goCall_eq g4 (by simp) ?_
    simp
    exact Ends.mk [] [] (by simp)
  have hm := hm h1
  simp
  cases h2 : decide (x.state = 4)
  · simp
    refine goCall_eq g3 (by simp) ?_
    simp
    refine goCall_eq g4 (by simp) ?_
    simp
    exact Ends.mk [] [] (by simp)
  simp
  have hxo := (mine_iff.1 hm).1
  have ho := OpenA.mk' hxo (of_decide_eq_true h2)
  have hf := ho.first
  have hl := ho.len
  cases h3 : decide (x.a.sent = [])
  rotate_left
  · simp
    refine goCall_eq g3 (by simp) ?_
    simp
    refine goCall_eq g4 (by simp) ?_
    simp
    exact Ends.mk [] [] (by simp)
  have h3 := of_decide_eq_false h3
  have h3l : 0 < x.a.sent.length := by
    rcases Nat.eq_zero_or_pos x.a.sent.length with q | q
    · exact absurd (List.eq_nil_of_length_eq_zero q) h3
    · exact q
  obtain ⟨j, hj⟩ : ∃ j, j = more.length % x.a.sent.length := ⟨_, rfl⟩
  have hjl : j < x.a.sent.length := by rw [hj]; exact Nat.mod_lt _ (by omega)
  have hjm : ((more.length : Int)).tmod (x.a.sent.length : Int) = (j : Int) := by
    rw [Int.tmod_eq_emod_of_nonneg (by omega), hj]; exact (Int.natCast_emod _ _).symm
  obtain ⟨d1, d2⟩ := part_of ho hjl
  have hok2 : ∀ tx : List UInt8, tx.length = 1 → ({ nth x.a.sent j with text := tx } : Part).ok = true := by
    intro tx htx
    simp only [Part.ok, Bool.and_eq_true] at d1 ⊢
    exact ⟨d1.1, by rw [htx]; decide⟩
  have hne2 : ∀ tx : List UInt8, (nth x.a.sent j).text ≠ tx → ¬ nth x.a.sent j = { nth x.a.sent j with text := tx } := by
    intro tx h e
    exact h (congrArg Part.text e)
  obtain ⟨c, p1, e2, e3, e4⟩ := part_put d1
  have q1 := from_ok x false c
  have a1 := impl_AssocStep_ok x (fromS x false c) hx.bd (by simp [fromS])
  have t1 := step_again ho hjl e2 e3 d2
  rw [if_pos rfl] at t1
  rw [fine_from hxo false e4 (by omega) t1] at a1
  have g5 := sameAssoc_self x hx.bd
  have o1 := one_ok [7] 7
  simp only [assoc_v, from_v, chunk_v, isl, psl, Part.v, Part.cells] at p1 q1 a1 o1 g5
  simp [hjm, hjl, pt_v]
  refine ⟨h3, ?_⟩
  refine goCall_eq p1 (by simp) ?_
  simp
  refine goDCall_eq q1 (by simp) (by simp) ?_
  simp
  refine goDCall_eq a1 (by simp) (by simp) ?_
  simp [hjm, hjl, pt_v]
  refine ⟨h3, ?_⟩
  cases h6 : decide ((nth x.a.sent j).text = [113])
  · have h6 := of_decide_eq_false h6
    obtain ⟨c', p2, e6, e7, e8⟩ := part_put (hok2 [113] rfl)
    have q2 := from_ok x false c'
    have a2 := impl_AssocStep_ok x (fromS x false c') hx.bd (by simp [fromS])
    have t2 := step_again ho hjl e6 e7 (by exact d2)
    rw [if_neg (hne2 [113] (by simpa using h6))] at t2
    rw [one_from hxo false e8 (by omega) t2 (by omega)] at a2
    simp only [assoc_v, from_v, chunk_v, isl, psl, Part.v, Part.cells] at p2 q2 a2
    simp
    refine goCall_eq p2 (by simp) ?_
    simp
    refine goDCall_eq q2 (by simp) (by simp) ?_
    simp
    refine goDCall_eq a2 (by simp) (by simp) ?_
    simp
    refine goCall_eq g5 (by simp) ?_
    simp
    refine goCall_eq o1 (by simp) ?_
    simp
    exact Ends.mk [] [] (by simp)
  · have h6 := of_decide_eq_true h6
    obtain ⟨c', p2, e6, e7, e8⟩ := part_put (hok2 [114] rfl)
    have q2 := from_ok x false c'
    have a2 := impl_AssocStep_ok x (fromS x false c') hx.bd (by simp [fromS])
    have t2 := step_again ho hjl e6 e7 (by exact d2)
    rw [if_neg (hne2 [114] (by rw [h6]; decide))] at t2
    rw [one_from hxo false e8 (by omega) t2 (by omega)] at a2
    simp only [assoc_v, from_v, chunk_v, isl, psl, Part.v, Part.cells] at p2 q2 a2
    simp
    refine goCall_eq p2 (by simp) ?_
    simp
    refine goDCall_eq q2 (by simp) (by simp) ?_
    simp
    refine goDCall_eq a2 (by simp) (by simp) ?_
    simp
    refine goCall_eq g5 (by simp) ?_
    simp
    refine goCall_eq o1 (by simp) ?_
    simp
    exact Ends.mk [] [] (by simp)
end
end Go.Proofs.YtldoekmblpghmaaGreat

namespace Go.Proofs.YtldoekmblpghmaaGreat.fnStepAgain
set_option linter.all false
open Go.ChangeShapes Go.WideShapes Go.ChangeAt Go.RowKit

theorem own : ownKnob Tryz.prog.godebug = none := by kernel_rfl
theorem laidOut : laidOutB Tryz.prog = true := by kernel_rfl

set_option maxRecDepth 100000 in
theorem lifted (os : Os) (started : os.Started) (H : Type) (enc : TypeId × Value → H) :
    ReturnsInHanded {} Tryz.checked os 15 .any (Rows.fnStepAgainSpec.pre6 enc Tryz.prog Tryz.f15 Rows.fnStepAgainRow.domain false) (Rows.fnStepAgainSpec.post enc Tryz.prog Tryz.f15 false true false false) := by
  refine returnsInHanded_of_change_shaped (C := Tryz.checked) own started (by kernel_rfl) Tryz.func15
    (ChangeSpec.witness6 (enc := enc) (C := Tryz.checked) false ⟨#[], #[.slice none 0 0, .slice none 0 0], []⟩ 8 (by kernel_rfl) (by kernel_rfl) (by kernel_rfl) (by kernel_rfl)) ?_
  intro W base args ds gs before hval0 hW _ _ hsh _
  have hval : ∀ (j : Nat) t v, Tryz.f15.params[j]? = some t → args[j]? = some v → Value.okWide Tryz.prog W .any base t v := hval0
  have hW' := hW
  obtain ⟨p, q, hA0, hV, rfl, hfz, hnd⟩ := hW
  have hA : DataW.TrodAll enc Tryz.prog W 0 (fun _ => true) true Tryz.f15.params.toList args.toList ds p := hA0
  rw [Tryz.params15] at hA hval
  obtain ⟨v0, v1, d0, d1, p0, p1, rfl, rfl, rfl, h0, h1⟩ := trodAll_two hA
  obtain ⟨rfl, rfl⟩ := trodVars_none hV
  clear hA0 hval0
  simp only [List.append_nil] at hW'
  obtain ⟨l0, hl0⟩ := open_bytes Tryz.underlying22 Tryz.underlying5 (by kernel_rfl) (hval 0 22 v0 rfl rfl) h0
  obtain ⟨l1, hl1⟩ := open_bytes Tryz.underlying22 Tryz.underlying5 (by kernel_rfl) (hval 1 22 v1 rfl rfl) h1
  refine ((FnStepAgain_ok l0 l1).calls_true rfl W [v0, v1] (tabsW W hsh) (rel_two hl0 hl1)).mono fun e W' ⟨he, hb⟩ => ?_
  subst he
  have hlt : ∀ x ∈ p0 ++ p1, x.block < W.heap.size := fun x hx => by simpa using hW'.lt x hx
  have ha0 := Below.trod laidOut (by kernel_rfl) (of_decide_eq_true (by kernel_rfl)) h0 hb (fun x hx => hlt x (List.mem_append_left _ hx))
  have ha1 := Below.trod laidOut (by kernel_rfl) (of_decide_eq_true (by kernel_rfl)) h1 hb (fun x hx => hlt x (List.mem_append_right _ hx))
  exact ⟨_, rfl, ⟨_, _, _, [], _, [], hW', trodAll_mk1 (shut_bool Tryz.underlying4 _), trodAll_mk2 ha0 ha1, rfl, hb.frame _, fun h => by cases h⟩⟩

theorem closed : joinedFacts Tryz.prog 15 Tryz.f15 Rows.fnStepAgainSpec Rows.fnStepAgainRow = true := by
  have key : ∀ P : Program, P = Tryz.prog → P.mayEnter = true → P.liftsFinal = false → P.make = some .cut → joinedFacts P 15 Tryz.f15 Rows.fnStepAgainSpec Rows.fnStepAgainRow = true := by
    intro P hP h1 h2 h3
    unfold joinedFacts
    rw [h1, h2, h3]
    subst hP
    kernel_rfl
  exact key _ rfl enters finals makes

theorem proved : Rows.FnStepAgainSaid :=
  OpenClaim.holds_of_wide 15 Tryz.f15 rfl rfl rfl rfl rfl rfl rfl ⟨rfl, rfl, rfl, rfl, rfl⟩ rfl rfl rfl rfl rfl (by kernel_rfl) Tryz.func15 closed
    (of_decide_eq_true (by kernel_rfl)) (by unfold Func.isWrapper; first | (rw [if_pos (by decide +kernel)]; kernel_rfl) | (rw [if_neg (by decide +kernel)]; exact ⟨rfl, rfl⟩))
    (fun os started H enc _ => lifted os started H enc)
end Go.Proofs.YtldoekmblpghmaaGreat.fnStepAgain
