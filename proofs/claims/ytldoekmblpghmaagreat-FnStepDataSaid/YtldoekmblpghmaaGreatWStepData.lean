/-
  The law 'FnStepData' is proved: it returns true whatever the input, and the input reads as it did. No condition.
-/
import Derived.Test.YtldoekmblpghmaaGreatQ30
import Derived.Test.YtldoekmblpghmaaGreatQ29
import Derived.Test.YtldoekmblpghmaaGreatRows
namespace Go.Proofs.YtldoekmblpghmaaGreat
set_option linter.all false
section
set_option maxRecDepth 100000
def ac_laws_FnStepData : AF := ⟨[0, 2, 3, 4, 5, 6, 7, 8, 9, 10, 12, 13, 16, 74, 109], [.t 2],
  .seq (.region [⟨(.g 2), .mv (.c (.bool false)), none⟩])
  (.seq (.seq (.region [⟨(.l 14), .mv (.g 0), none⟩, ⟨(.l 15), .len (.l 14), none⟩, ⟨(.g 16), .bin .gtr (.l 15) (.c (.int .i64 1048576)), none⟩])
  (.cond (.g 16) (.seq (.region [⟨(.g 2), .mv (.c (.bool true)), none⟩])
   (.ret))
  (.skip)))
  (.seq (.region [⟨(.l 18), .mv (.g 0), none⟩, ⟨(.l 19), .call fn_spec_DrawAssocStep [(.l 18)], none⟩, ⟨(.l 17), .mv (.l 19), none⟩, ⟨(.l 20), .extract (.l 17) 0, none⟩, ⟨(.l 21), .extract (.l 17) 1, none⟩, ⟨(.g 3), .alloc [(.int .i64 0), (.int .i64 0), (.int .i64 0), (.bool false), (.int .i64 0), (.int .i64 0), (.int .i64 0), .nils, (.int .i64 0), (.int .i64 0), (.int .i64 0), (.int .i64 0), .nils, (.int .i64 0)], none⟩, ⟨(.g 4), .alloc [(.int .i64 0), (.int .i64 0), (.int .i64 0), .nils], none⟩, ⟨.no, .store 14 (.g 3) (.l 20), none⟩, ⟨.no, .store 4 (.g 4) (.l 21), none⟩])
  (.seq (.region [⟨(.l 23), .load true 14 (.g 3), none⟩, ⟨(.l 24), .load true 4 (.g 4), none⟩, ⟨(.l 25), .call fn_impl_AssocStep [(.l 23), (.l 24)], none⟩, ⟨(.l 22), .mv (.l 25), none⟩, ⟨(.l 26), .extract (.l 22) 0, none⟩, ⟨(.l 27), .extract (.l 22) 1, none⟩, ⟨(.g 5), .alloc [(.int .i64 0), (.int .i64 0), (.int .i64 0), (.bool false), (.int .i64 0), (.int .i64 0), (.int .i64 0), .nils, (.int .i64 0), (.int .i64 0), (.int .i64 0), (.int .i64 0), .nils, (.int .i64 0)], none⟩, ⟨.no, .store 14 (.g 5) (.l 26), none⟩, ⟨(.g 6), .mv (.l 27), none⟩])
  (.seq (.region [⟨(.l 29), .load true 14 (.g 3), none⟩, ⟨(.l 30), .load true 4 (.g 4), none⟩, ⟨(.l 31), .call fn_spec_AssocStep [(.l 29), (.l 30)], none⟩, ⟨(.l 28), .mv (.l 31), none⟩, ⟨(.l 32), .extract (.l 28) 0, none⟩, ⟨(.l 33), .extract (.l 28) 1, none⟩, ⟨(.g 7), .alloc [(.int .i64 0), (.int .i64 0), (.int .i64 0), (.bool false), (.int .i64 0), (.int .i64 0), (.int .i64 0), .nils, (.int .i64 0), (.int .i64 0), (.int .i64 0), (.int .i64 0), .nils, (.int .i64 0)], none⟩, ⟨.no, .store 14 (.g 7) (.l 32), none⟩, ⟨(.g 8), .mv (.l 33), none⟩])
  (.seq (.seq (.region [⟨(.l 34), .mv (.g 6), none⟩, ⟨(.l 35), .mv (.g 8), none⟩, ⟨(.l 36), .call fn_laws_sameInts [(.l 34), (.l 35)], none⟩, ⟨(.l 37), .un .not (.l 36), none⟩, ⟨(.l 38), .mv (.l 37), none⟩, ⟨(.l 39), .load true 14 (.g 5), (some ((.l 38), false))⟩, ⟨(.l 40), .load true 14 (.g 7), (some ((.l 38), false))⟩, ⟨(.l 41), .call fn_laws_sameAssoc [(.l 39), (.l 40)], (some ((.l 38), false))⟩, ⟨(.l 42), .un .not (.l 41), (some ((.l 38), false))⟩, ⟨(.l 43), .pick (.l 38) (.c (.bool true)) (.l 42), none⟩, ⟨(.l 44), .mv (.l 43), none⟩, ⟨(.l 45), .faddr 0 (.g 7), (some ((.l 44), false))⟩, ⟨(.l 46), .load false 1 (.l 45), (some ((.l 44), false))⟩, ⟨(.l 47), .bin .eql (.l 46) (.c (.int .i64 0)), (some ((.l 44), false))⟩, ⟨(.l 48), .pick (.l 44) (.c (.bool true)) (.l 47), none⟩, ⟨(.l 49), .mv (.l 48), none⟩, ⟨(.l 50), .faddr 2 (.g 3), (some ((.l 49), false))⟩, ⟨(.l 51), .load false 1 (.l 50), (some ((.l 49), false))⟩, ⟨(.l 52), .bin .neq (.l 51) (.c (.int .i64 4)), (some ((.l 49), false))⟩, ⟨(.l 53), .pick (.l 49) (.c (.bool true)) (.l 52), none⟩, ⟨(.l 54), .mv (.l 53), none⟩, ⟨(.l 55), .faddr 4 (.g 3), (some ((.l 54), false))⟩, ⟨(.l 56), .faddr 3 (.l 55), (some ((.l 54), false))⟩, ⟨(.l 57), .load false 1 (.l 56), (some ((.l 54), false))⟩, ⟨(.l 58), .len (.l 57), (some ((.l 54), false))⟩, ⟨(.l 59), .bin .gtr (.l 58) (.c (.int .i64 0)), (some ((.l 54), false))⟩, ⟨(.l 60), .mv (.l 59), (some ((.l 54), false))⟩, ⟨(.l 61), .faddr 4 (.g 3), (some ((.l 60), true))⟩, ⟨(.l 62), .faddr 3 (.l 61), (some ((.l 60), true))⟩, ⟨(.l 63), .load false 1 (.l 62), (some ((.l 60), true))⟩, ⟨(.l 64), .faddr 4 (.g 3), (some ((.l 60), true))⟩, ⟨(.l 65), .faddr 3 (.l 64), (some ((.l 60), true))⟩, ⟨(.l 66), .load false 1 (.l 65), (some ((.l 60), true))⟩, ⟨(.l 67), .len (.l 66), (some ((.l 60), true))⟩, ⟨(.l 68), .bin .sub (.l 67) (.c (.int .i64 1)), (some ((.l 60), true))⟩, ⟨(.l 69), .elS 7 (.l 63) (.l 68), (some ((.l 60), true))⟩, ⟨(.l 70), .faddr 4 (.l 69), (some ((.l 60), true))⟩, ⟨(.l 71), .load false 1 (.l 70), (some ((.l 60), true))⟩, ⟨(.l 72), .un .not (.l 71), (some ((.l 60), true))⟩, ⟨(.l 73), .pick (.l 60) (.l 72) (.c (.bool false)), (some ((.l 54), false))⟩, ⟨(.g 74), .pick (.l 54) (.c (.bool true)) (.l 73), none⟩])
  (.cond (.g 74) (.seq (.region [⟨(.l 75), .mv (.g 6), none⟩, ⟨(.l 76), .mv (.g 8), none⟩, ⟨(.l 77), .call fn_laws_sameInts [(.l 75), (.l 76)], none⟩, ⟨(.l 78), .mv (.l 77), none⟩, ⟨(.l 79), .load true 14 (.g 5), (some ((.l 78), true))⟩, ⟨(.l 80), .load true 14 (.g 7), (some ((.l 78), true))⟩, ⟨(.l 81), .call fn_laws_sameAssoc [(.l 79), (.l 80)], (some ((.l 78), true))⟩, ⟨(.l 82), .pick (.l 78) (.l 81) (.c (.bool false)), none⟩, ⟨(.g 2), .mv (.l 82), none⟩])
   (.ret))
  (.skip)))
  (.seq (.region [⟨(.l 83), .faddr 4 (.g 3), none⟩, ⟨(.l 84), .faddr 2 (.l 83), none⟩, ⟨(.l 85), .load false 1 (.l 84), none⟩, ⟨(.l 86), .faddr 4 (.g 3), none⟩, ⟨(.l 87), .faddr 3 (.l 86), none⟩, ⟨(.l 88), .load false 1 (.l 87), none⟩, ⟨(.l 89), .len (.l 88), none⟩, ⟨(.l 90), .call fn_impl_SerialAdd [(.l 85), (.l 89)], none⟩, ⟨(.l 91), .build [(.int .i64 0), (.int .i64 0), (.int .i64 0), (.bool false), (.bool false), (.bool false), (.str [])] [(0, 1, (.l 90)), (3, 1, (.c (.bool true))), (4, 1, (.c (.bool true))), (5, 1, (.c (.bool true))), (6, 1, (.c (.str [110, 101, 119])))], none⟩, ⟨(.g 9), .alloc [(.int .i64 0), (.int .i64 0), (.int .i64 0), (.bool false), (.bool false), (.bool false), (.str [])], none⟩, ⟨.no, .store 7 (.g 9) (.l 91), none⟩])
  (.seq (.region [⟨(.l 93), .load true 7 (.g 9), none⟩, ⟨(.l 94), .call fn_impl_DataPut [(.l 93)], none⟩, ⟨(.l 92), .mv (.l 94), none⟩, ⟨(.l 95), .extract (.l 92) 0, none⟩, ⟨(.l 96), .extract (.l 92) 1, none⟩, ⟨(.g 10), .alloc [(.int .i64 0), (.int .i64 0), (.str [])], none⟩, ⟨.no, .store 3 (.g 10) (.l 95), none⟩, ⟨(.l 11), .mv (.l 96), none⟩])
  (.seq (.drawn [⟨(.l 98), .load true 14 (.g 3), none⟩, ⟨(.l 99), .load true 14 (.g 3), none⟩, ⟨(.l 100), .load true 3 (.g 10), none⟩, ⟨(.l 101), .call fn_laws_from [(.l 99), (.c (.bool false)), (.l 100)], none⟩, ⟨(.l 102), .call fn_impl_AssocStep [(.l 98), (.l 101)], none⟩, ⟨(.l 97), .mv (.l 102), none⟩, ⟨(.l 103), .extract (.l 97) 0, none⟩, ⟨(.l 104), .extract (.l 97) 1, none⟩, ⟨(.g 12), .alloc [(.int .i64 0), (.int .i64 0), (.int .i64 0), (.bool false), (.int .i64 0), (.int .i64 0), (.int .i64 0), .nils, (.int .i64 0), (.int .i64 0), (.int .i64 0), (.int .i64 0), .nils, (.int .i64 0)], none⟩, ⟨.no, .store 14 (.g 12) (.l 103), none⟩] [[], [0], [1, 0], [0], [], [], [], [], [4, 3, 2, 1, 0], []] [⟨(.g 13), .mv (.l 104), none⟩])
  (.seq (.seq (.region [⟨(.l 105), .faddr 4 (.g 3), none⟩, ⟨(.l 106), .faddr 3 (.l 105), none⟩, ⟨(.l 107), .load false 1 (.l 106), none⟩, ⟨(.l 108), .len (.l 107), none⟩, ⟨(.g 109), .bin .eql (.l 108) (.c (.int .i64 12)), none⟩])
  (.cond (.g 109) (.seq (.region [⟨(.l 110), .mv (.g 13), none⟩, ⟨(.l 111), .call fn_laws_one [(.l 110), (.c (.int .i64 11))], none⟩, ⟨(.g 2), .mv (.l 111), none⟩])
   (.ret))
  (.skip)))
  (.seq (.drawn [⟨(.l 112), .mv (.g 13), none⟩, ⟨(.l 113), .len (.l 112), none⟩, ⟨(.l 114), .bin .eql (.l 113) (.c (.int .i64 0)), none⟩, ⟨(.l 115), .mv (.l 114), none⟩, ⟨(.l 116), .faddr 4 (.g 12), (some ((.l 115), true))⟩, ⟨(.l 117), .faddr 3 (.l 116), (some ((.l 115), true))⟩, ⟨(.l 118), .load false 1 (.l 117), (some ((.l 115), true))⟩, ⟨(.l 119), .lits 7 [], (some ((.l 115), true))⟩, ⟨(.l 120), .faddr 4 (.g 3), (some ((.l 115), true))⟩, ⟨(.l 121), .faddr 3 (.l 120), (some ((.l 115), true))⟩, ⟨(.l 122), .load false 1 (.l 121), (some ((.l 115), true))⟩, ⟨(.l 123), .append 7 48 (.l 119) (.l 122), (some ((.l 115), true))⟩, ⟨(.l 124), .load true 7 (.g 9), (some ((.l 115), true))⟩, ⟨(.l 125), .lits 7 [(.l 124)], (some ((.l 115), true))⟩, ⟨(.l 126), .append 7 48 (.l 123) (.l 125), (some ((.l 115), true))⟩] [[], [], [], [], [], [], [], [6], [], [], [7, 6], [6], [11, 10, 7, 6], [11, 10, 7, 6], [6]] [⟨(.l 127), .call fn_laws_sameParts [(.l 118), (.l 126)], (some ((.l 115), true))⟩, ⟨(.l 128), .pick (.l 115) (.l 127) (.c (.bool false)), none⟩, ⟨(.l 129), .mv (.l 128), none⟩, ⟨(.l 130), .faddr 2 (.g 12), (some ((.l 129), true))⟩, ⟨(.l 131), .load false 1 (.l 130), (some ((.l 129), true))⟩, ⟨(.l 132), .bin .eql (.l 131) (.c (.int .i64 4)), (some ((.l 129), true))⟩, ⟨(.l 133), .pick (.l 129) (.l 132) (.c (.bool false)), none⟩, ⟨(.g 2), .mv (.l 133), none⟩])
  (.ret)))))))))))⟩
theorem ln_laws_FnStepData : Linked Tryz.prog fn_laws_FnStepData ac_laws_FnStepData := ⟨Tryz.f16, _, Tryz.func16, rfl, by kernel_rfl, by kernel_rfl, by kernel_rfl, by kernel_rfl⟩
end
end Go.Proofs.YtldoekmblpghmaaGreat

namespace Go.Proofs.YtldoekmblpghmaaGreat
set_option linter.all false
section
set_option maxRecDepth 200000
set_option maxHeartbeats 8000000
attribute [-simp] List.getD_eq_getElem?_getD

theorem FnStepData_ok (code : List UInt8) : Fn Tryz.prog fn_laws_FnStepData [bsl code] [] (.bool true) [] := by
  obtain ⟨x, p, hx, hp, f1⟩ := DrawAssocStep_ok code
  have g1 := impl_AssocStep_ok x p hx.bd (by omega)
  have g2 := spec_AssocStep_ok x p hx.bd (by omega)
  have g3 := sameInts_self (stepS x p).2 (by have := stepS_len x p; omega)
  have g4 := sameAssoc_self (stepS x p).1 (stepS_bd p)
  have hm := srcN (x := x) (p := p)
  have hbd := stepS_bd (x := x) p
  have hln := stepS_len x p
  generalize stepS x p = r at *
  obtain ⟨y, rl⟩ := r
  simp only at hm hbd hln
  simp only [assoc_v, packet_v, isl] at f1 g1 g2 g3 g4
  refine Fn.of_go ln_laws_FnStepData rfl ?_
  simp [ac_laws_FnStepData, bsl]
  refine goTest_dec (fun h0 => ?_) (fun h0 => ?_)
  · simp
    exact Ends.mk [] [] (by simp)
  simp
  refine goCall_eq f1 (by simp [bsl]) ?_
  simp
  refine goCall_eq g1 (by simp) ?_
  simp
  refine goCall_eq g2 (by simp) ?_
  simp
  refine goCall_eq g3 (by simp) ?_
  simp
  refine goCall_eq g4 (by simp) ?_
  simp
  cases h1 : decide (y.src = 0)
  rotate_left
  · simp
    refine goCall_eq g3 (by simp) ?_
    simp
    refine goCall_eq g4 (by simp) ?_
    simp
    exact Ends.mk [] [] (by simp)
  have hm := hm h1
  simp
  cases h2 : decide (x.state = 4)
  · simp
    refine goCall_eq g3 (by simp) ?_
    simp
    refine goCall_eq g4 (by simp) ?_
    simp
    exact Ends.mk [] [] (by simp)
  simp
  have hxo := (mine_iff.1 hm).1
  have ho := OpenA.mk' hxo (of_decide_eq_true h2)
  have hf := ho.first
  have hl := ho.len
  cases h3 : decide (0 < x.a.sent.length)
  · have hend : x.a.sent = [] ∨ (nth x.a.sent (x.a.sent.length - 1)).last = true := by
      left
      exact List.eq_nil_of_length_eq_zero (by have := of_decide_eq_false h3; omega)
    have hin : inS x.a.first = true := by simp [inS]; omega
    have s1 := impl_SerialAdd_ok x.a.first x.a.sent.length (by omega)
    rw [hin] at s1
    simp only [if_true] at s1
    obtain ⟨c, p1, e2, e3, e4⟩ := new_put x x.a.sent.length (stream := 0) (ssn := 0) true (by omega) (by omega)
    have q1 := from_ok x false c
    have a1 := impl_AssocStep_ok x (fromS x false c) hx.bd (by simp [fromS])
    have hst := ho.streams
    have hstep := step_new ho (n := x.a.sent.length) (by omega) (stream := 0) (ssn := 0) (loose := true) e2 e3 (by omega)
    rw [if_neg (by omega), if_neg (by omega), if_neg (by rw [follow_end hend]; simp [newPart])] at hstep
    cases h12 : decide (12 ≤ x.a.sent.length)
    · rw [if_neg (of_decide_eq_false h12)] at hstep
      have h12 := of_decide_eq_false h12
      rw [fine_from hxo false e4 (by omega) hstep] at a1
      have sp := sameParts_ok (x.a.sent ++ [newPart x x.a.sent.length 0 0 true]) (x.a.sent ++ [newPart x x.a.sent.length 0 0 true]) (by simp; omega)
      have h4 := ho.four
      simp only [assoc_v, from_v, chunk_v, isl, psl, newPart, newText, Part.v, Part.cells, decide_true] at p1 q1 a1 sp
      generalize addS x.a.first x.a.sent.length = v1 at *
      simp
      refine goCall_eq s1 (by simp) ?_
      simp
      refine goCall_eq p1 (by simp) ?_
      simp
      refine goDCall_eq q1 (by simp) (by simp) ?_
      simp
      refine goDCall_eq a1 (by simp) (by simp) ?_
      simp
      have e12 : decide (x.a.sent.length = 12) = false := decide_eq_false (by omega)
      simp [e12]
      refine ⟨⟨fun a _ => rfl, by unfold roomOk; omega⟩, by unfold roomOk; omega, ?_⟩
      refine goCall_gen [] [] [] [1904] none sp (by simp [pt_v]) ?_
      simp [h4]
      exact Ends.mk [] [] (by simp)
    · rw [if_pos (of_decide_eq_true h12)] at hstep
      have h12 := of_decide_eq_true h12
      rw [one_from hxo false e4 (by omega) hstep (by omega)] at a1
      have o1 := one_ok [11] 11
      simp only [assoc_v, from_v, chunk_v, isl, psl, newPart, newText, Part.v, Part.cells, decide_true] at p1 q1 a1 o1
      generalize addS x.a.first x.a.sent.length = v1 at *
      simp
      refine goCall_eq s1 (by simp) ?_
      simp
      refine goCall_eq p1 (by simp) ?_
      simp
      refine goDCall_eq q1 (by simp) (by simp) ?_
      simp
      refine goDCall_eq a1 (by simp) (by simp) ?_
      simp
      have e12 : x.a.sent.length = 12 := by omega
      simp [e12]
      refine goCall_eq o1 (by simp) ?_
      simp
      exact Ends.mk [] [] (by simp)
  · have h3 := of_decide_eq_true h3
    have hlt2 : x.a.sent.length - 1 < x.a.sent.length := by omega
    simp [hlt2, pt_v]
    refine ⟨by omega, by omega, ?_⟩
    cases h5 : (nth x.a.sent (x.a.sent.length - 1)).last
    · simp
      refine goCall_eq g3 (by simp) ?_
      simp
      refine goCall_eq g4 (by simp) ?_
      simp
      exact Ends.mk [] [] (by simp)
    have hend : x.a.sent = [] ∨ (nth x.a.sent (x.a.sent.length - 1)).last = true := Or.inr h5
    have hin : inS x.a.first = true := by simp [inS]; omega
    have s1 := impl_SerialAdd_ok x.a.first x.a.sent.length (by omega)
    rw [hin] at s1
    simp only [if_true] at s1
    obtain ⟨c, p1, e2, e3, e4⟩ := new_put x x.a.sent.length (stream := 0) (ssn := 0) true (by omega) (by omega)
    have q1 := from_ok x false c
    have a1 := impl_AssocStep_ok x (fromS x false c) hx.bd (by simp [fromS])
    have hst := ho.streams
    have hstep := step_new ho (n := x.a.sent.length) (by omega) (stream := 0) (ssn := 0) (loose := true) e2 e3 (by omega)
    rw [if_neg (by omega), if_neg (by omega), if_neg (by rw [follow_end hend]; simp [newPart])] at hstep
    cases h12 : decide (12 ≤ x.a.sent.length)
    · rw [if_neg (of_decide_eq_false h12)] at hstep
      have h12 := of_decide_eq_false h12
      rw [fine_from hxo false e4 (by omega) hstep] at a1
      have sp := sameParts_ok (x.a.sent ++ [newPart x x.a.sent.length 0 0 true]) (x.a.sent ++ [newPart x x.a.sent.length 0 0 true]) (by simp; omega)
      have h4 := ho.four
      simp only [assoc_v, from_v, chunk_v, isl, psl, newPart, newText, Part.v, Part.cells, decide_true] at p1 q1 a1 sp
      generalize addS x.a.first x.a.sent.length = v1 at *
      simp
      refine goCall_eq s1 (by simp) ?_
      simp
      refine goCall_eq p1 (by simp) ?_
      simp
      refine goDCall_eq q1 (by simp) (by simp) ?_
      simp
      refine goDCall_eq a1 (by simp) (by simp) ?_
      simp
      have e12 : decide (x.a.sent.length = 12) = false := decide_eq_false (by omega)
      simp [e12]
      refine ⟨⟨fun a _ => rfl, by unfold roomOk; omega⟩, by unfold roomOk; omega, ?_⟩
      refine goCall_gen [] [] [] [1904] none sp (by simp [pt_v]) ?_
      simp [h4]
      exact Ends.mk [] [] (by simp)
    · rw [if_pos (of_decide_eq_true h12)] at hstep
      have h12 := of_decide_eq_true h12
      rw [one_from hxo false e4 (by omega) hstep (by omega)] at a1
      have o1 := one_ok [11] 11
      simp only [assoc_v, from_v, chunk_v, isl, psl, newPart, newText, Part.v, Part.cells, decide_true] at p1 q1 a1 o1
      generalize addS x.a.first x.a.sent.length = v1 at *
      simp
      refine goCall_eq s1 (by simp) ?_
      simp
      refine goCall_eq p1 (by simp) ?_
      simp
      refine goDCall_eq q1 (by simp) (by simp) ?_
      simp
      refine goDCall_eq a1 (by simp) (by simp) ?_
      simp
      have e12 : x.a.sent.length = 12 := by omega
      simp [e12]
      refine goCall_eq o1 (by simp) ?_
      simp
      exact Ends.mk [] [] (by simp)
end
end Go.Proofs.YtldoekmblpghmaaGreat

namespace Go.Proofs.YtldoekmblpghmaaGreat.fnStepData
set_option linter.all false
open Go.ChangeShapes Go.WideShapes Go.ChangeAt Go.RowKit

theorem own : ownKnob Tryz.prog.godebug = none := by kernel_rfl
theorem laidOut : laidOutB Tryz.prog = true := by kernel_rfl

set_option maxRecDepth 100000 in
theorem lifted (os : Os) (started : os.Started) (H : Type) (enc : TypeId × Value → H) :
    ReturnsInHanded {} Tryz.checked os 16 .any (Rows.fnStepDataSpec.pre6 enc Tryz.prog Tryz.f16 Rows.fnStepDataRow.domain false) (Rows.fnStepDataSpec.post enc Tryz.prog Tryz.f16 false true false false) := by
  refine returnsInHanded_of_change_shaped (C := Tryz.checked) own started (by kernel_rfl) Tryz.func16
    (ChangeSpec.witness6 (enc := enc) (C := Tryz.checked) false ⟨#[], #[.slice none 0 0], []⟩ 8 (by kernel_rfl) (by kernel_rfl) (by kernel_rfl) (by kernel_rfl)) ?_
  intro W base args ds gs before hval0 hW _ _ hsh _
  have hval : ∀ (j : Nat) t v, Tryz.f16.params[j]? = some t → args[j]? = some v → Value.okWide Tryz.prog W .any base t v := hval0
  have hW' := hW
  obtain ⟨p, q, hA0, hV, rfl, hfz, hnd⟩ := hW
  have hA : DataW.TrodAll enc Tryz.prog W 0 (fun _ => true) true Tryz.f16.params.toList args.toList ds p := hA0
  rw [Tryz.params16] at hA hval
  obtain ⟨v0, d0, rfl, rfl, h0⟩ := trodAll_one hA
  obtain ⟨rfl, rfl⟩ := trodVars_none hV
  clear hA0 hval0
  simp only [List.append_nil] at hW'
  obtain ⟨l0, hl0⟩ := open_bytes Tryz.underlying22 Tryz.underlying5 (by kernel_rfl) (hval 0 22 v0 rfl rfl) h0
  refine ((FnStepData_ok l0).calls_true rfl W [v0] (tabsW W hsh) (rel_one hl0)).mono fun e W' ⟨he, hb⟩ => ?_
  subst he
  have hlt : ∀ x ∈ p, x.block < W.heap.size := fun x hx => by simpa using hW'.lt x hx
  have hargs := Below.trod laidOut (by kernel_rfl) (of_decide_eq_true (by kernel_rfl)) h0 hb hlt
  exact ⟨_, rfl, ⟨_, _, _, [], _, [], hW', trodAll_mk1 (shut_bool Tryz.underlying4 _), trodAll_mk1 hargs, rfl, hb.frame _, fun h => by cases h⟩⟩

theorem closed : joinedFacts Tryz.prog 16 Tryz.f16 Rows.fnStepDataSpec Rows.fnStepDataRow = true := by
  have key : ∀ P : Program, P = Tryz.prog → P.mayEnter = true → P.liftsFinal = false → P.make = some .cut → joinedFacts P 16 Tryz.f16 Rows.fnStepDataSpec Rows.fnStepDataRow = true := by
    intro P hP h1 h2 h3
    unfold joinedFacts
    rw [h1, h2, h3]
    subst hP
    kernel_rfl
  exact key _ rfl enters finals makes

theorem proved : Rows.FnStepDataSaid :=
  OpenClaim.holds_of_wide 16 Tryz.f16 rfl rfl rfl rfl rfl rfl rfl ⟨rfl, rfl, rfl, rfl, rfl⟩ rfl rfl rfl rfl rfl (by kernel_rfl) Tryz.func16 closed
    (of_decide_eq_true (by kernel_rfl)) (by unfold Func.isWrapper; first | (rw [if_pos (by decide +kernel)]; kernel_rfl) | (rw [if_neg (by decide +kernel)]; exact ⟨rfl, rfl⟩))
    (fun os started H enc _ => lifted os started H enc)
end Go.Proofs.YtldoekmblpghmaaGreat.fnStepData
