/-
  The law 'FnStepTsn' is proved: it returns true whatever the input, and the input reads as it did. No condition.
-/
import Derived.Test.YtldoekmblpghmaaGreatQ30
import Derived.Test.YtldoekmblpghmaaGreatQ29
import Derived.Test.YtldoekmblpghmaaGreatRows
namespace Go.Proofs.YtldoekmblpghmaaGreat
set_option linter.all false
section
set_option maxRecDepth 100000
def ac_laws_FnStepTsn : AF := ⟨[0, 2, 3, 4, 5, 6, 7, 8, 9, 10, 13, 15, 18, 55], [.t 2],
  .seq (.region [⟨(.g 2), .mv (.c (.bool false)), none⟩])
  (.seq (.seq (.region [⟨(.l 16), .mv (.g 0), none⟩, ⟨(.l 17), .len (.l 16), none⟩, ⟨(.g 18), .bin .gtr (.l 17) (.c (.int .i64 1048576)), none⟩])
  (.cond (.g 18) (.seq (.region [⟨(.g 2), .mv (.c (.bool true)), none⟩])
   (.ret))
  (.skip)))
  (.seq (.region [⟨(.l 20), .mv (.g 0), none⟩, ⟨(.l 21), .call fn_spec_DrawAssocStep [(.l 20)], none⟩, ⟨(.l 19), .mv (.l 21), none⟩, ⟨(.l 22), .extract (.l 19) 0, none⟩, ⟨(.l 23), .extract (.l 19) 1, none⟩, ⟨(.g 3), .alloc [(.int .i64 0), (.int .i64 0), (.int .i64 0), (.bool false), (.int .i64 0), (.int .i64 0), (.int .i64 0), .nils, (.int .i64 0), (.int .i64 0), (.int .i64 0), (.int .i64 0), .nils, (.int .i64 0)], none⟩, ⟨(.g 4), .alloc [(.int .i64 0), (.int .i64 0), (.int .i64 0), .nils], none⟩, ⟨.no, .store 14 (.g 3) (.l 22), none⟩, ⟨.no, .store 4 (.g 4) (.l 23), none⟩])
  (.seq (.region [⟨(.l 25), .load true 14 (.g 3), none⟩, ⟨(.l 26), .load true 4 (.g 4), none⟩, ⟨(.l 27), .call fn_impl_AssocStep [(.l 25), (.l 26)], none⟩, ⟨(.l 24), .mv (.l 27), none⟩, ⟨(.l 28), .extract (.l 24) 0, none⟩, ⟨(.l 29), .extract (.l 24) 1, none⟩, ⟨(.g 5), .alloc [(.int .i64 0), (.int .i64 0), (.int .i64 0), (.bool false), (.int .i64 0), (.int .i64 0), (.int .i64 0), .nils, (.int .i64 0), (.int .i64 0), (.int .i64 0), (.int .i64 0), .nils, (.int .i64 0)], none⟩, ⟨.no, .store 14 (.g 5) (.l 28), none⟩, ⟨(.g 6), .mv (.l 29), none⟩])
  (.seq (.region [⟨(.l 31), .load true 14 (.g 3), none⟩, ⟨(.l 32), .load true 4 (.g 4), none⟩, ⟨(.l 33), .call fn_spec_AssocStep [(.l 31), (.l 32)], none⟩, ⟨(.l 30), .mv (.l 33), none⟩, ⟨(.l 34), .extract (.l 30) 0, none⟩, ⟨(.l 35), .extract (.l 30) 1, none⟩, ⟨(.g 7), .alloc [(.int .i64 0), (.int .i64 0), (.int .i64 0), (.bool false), (.int .i64 0), (.int .i64 0), (.int .i64 0), .nils, (.int .i64 0), (.int .i64 0), (.int .i64 0), (.int .i64 0), .nils, (.int .i64 0)], none⟩, ⟨.no, .store 14 (.g 7) (.l 34), none⟩, ⟨(.g 8), .mv (.l 35), none⟩])
  (.seq (.seq (.region [⟨(.l 36), .mv (.g 6), none⟩, ⟨(.l 37), .mv (.g 8), none⟩, ⟨(.l 38), .call fn_laws_sameInts [(.l 36), (.l 37)], none⟩, ⟨(.l 39), .un .not (.l 38), none⟩, ⟨(.l 40), .mv (.l 39), none⟩, ⟨(.l 41), .load true 14 (.g 5), (some ((.l 40), false))⟩, ⟨(.l 42), .load true 14 (.g 7), (some ((.l 40), false))⟩, ⟨(.l 43), .call fn_laws_sameAssoc [(.l 41), (.l 42)], (some ((.l 40), false))⟩, ⟨(.l 44), .un .not (.l 43), (some ((.l 40), false))⟩, ⟨(.l 45), .pick (.l 40) (.c (.bool true)) (.l 44), none⟩, ⟨(.l 46), .mv (.l 45), none⟩, ⟨(.l 47), .faddr 0 (.g 7), (some ((.l 46), false))⟩, ⟨(.l 48), .load false 1 (.l 47), (some ((.l 46), false))⟩, ⟨(.l 49), .bin .eql (.l 48) (.c (.int .i64 0)), (some ((.l 46), false))⟩, ⟨(.l 50), .pick (.l 46) (.c (.bool true)) (.l 49), none⟩, ⟨(.l 51), .mv (.l 50), none⟩, ⟨(.l 52), .faddr 2 (.g 3), (some ((.l 51), false))⟩, ⟨(.l 53), .load false 1 (.l 52), (some ((.l 51), false))⟩, ⟨(.l 54), .bin .neq (.l 53) (.c (.int .i64 4)), (some ((.l 51), false))⟩, ⟨(.g 55), .pick (.l 51) (.c (.bool true)) (.l 54), none⟩])
  (.cond (.g 55) (.seq (.region [⟨(.l 56), .mv (.g 6), none⟩, ⟨(.l 57), .mv (.g 8), none⟩, ⟨(.l 58), .call fn_laws_sameInts [(.l 56), (.l 57)], none⟩, ⟨(.l 59), .mv (.l 58), none⟩, ⟨(.l 60), .load true 14 (.g 5), (some ((.l 59), true))⟩, ⟨(.l 61), .load true 14 (.g 7), (some ((.l 59), true))⟩, ⟨(.l 62), .call fn_laws_sameAssoc [(.l 60), (.l 61)], (some ((.l 59), true))⟩, ⟨(.l 63), .pick (.l 59) (.l 62) (.c (.bool false)), none⟩, ⟨(.g 2), .mv (.l 63), none⟩])
   (.ret))
  (.skip)))
  (.seq (.region [⟨(.l 64), .faddr 4 (.g 3), none⟩, ⟨(.l 65), .faddr 2 (.l 64), none⟩, ⟨(.l 66), .load false 1 (.l 65), none⟩, ⟨(.l 67), .faddr 4 (.g 3), none⟩, ⟨(.l 68), .faddr 3 (.l 67), none⟩, ⟨(.l 69), .load false 1 (.l 68), none⟩, ⟨(.l 70), .len (.l 69), none⟩, ⟨(.l 71), .bin .add (.l 70) (.c (.int .i64 1)), none⟩, ⟨(.l 72), .call fn_impl_SerialAdd [(.l 66), (.l 71)], none⟩, ⟨(.l 73), .build [(.int .i64 0), (.int .i64 0), (.int .i64 0), (.bool false), (.bool false), (.bool false), (.str [])] [(0, 1, (.l 72)), (3, 1, (.c (.bool true))), (4, 1, (.c (.bool true))), (5, 1, (.c (.bool true))), (6, 1, (.c (.str [110, 101, 119])))], none⟩, ⟨(.g 9), .alloc [(.int .i64 0), (.int .i64 0), (.int .i64 0), (.bool false), (.bool false), (.bool false), (.str [])], none⟩, ⟨.no, .store 7 (.g 9) (.l 73), none⟩])
  (.seq (.region [⟨(.l 75), .load true 7 (.g 9), none⟩, ⟨(.l 76), .call fn_impl_DataPut [(.l 75)], none⟩, ⟨(.l 74), .mv (.l 76), none⟩, ⟨(.l 77), .extract (.l 74) 0, none⟩, ⟨(.l 78), .extract (.l 74) 1, none⟩, ⟨(.g 10), .alloc [(.int .i64 0), (.int .i64 0), (.str [])], none⟩, ⟨.no, .store 3 (.g 10) (.l 77), none⟩, ⟨(.l 11), .mv (.l 78), none⟩])
  (.seq (.drawn [⟨(.l 80), .load true 14 (.g 3), none⟩, ⟨(.l 81), .load true 14 (.g 3), none⟩, ⟨(.l 82), .load true 3 (.g 10), none⟩, ⟨(.l 83), .call fn_laws_from [(.l 81), (.c (.bool false)), (.l 82)], none⟩, ⟨(.l 84), .call fn_impl_AssocStep [(.l 80), (.l 83)], none⟩, ⟨(.l 79), .mv (.l 84), none⟩, ⟨(.l 85), .extract (.l 79) 0, none⟩, ⟨(.l 86), .extract (.l 79) 1, none⟩, ⟨(.l 12), .alloc [(.int .i64 0), (.int .i64 0), (.int .i64 0), (.bool false), (.int .i64 0), (.int .i64 0), (.int .i64 0), .nils, (.int .i64 0), (.int .i64 0), (.int .i64 0), (.int .i64 0), .nils, (.int .i64 0)], none⟩, ⟨.no, .store 14 (.l 12) (.l 85), none⟩] [[], [0], [1, 0], [0], [], [], [], [], [4, 3, 2, 1, 0], []] [⟨(.g 13), .mv (.l 86), none⟩])
  (.seq (.region [⟨(.l 87), .faddr 4 (.g 3), none⟩, ⟨(.l 88), .faddr 1 (.l 87), none⟩, ⟨(.l 89), .load false 1 (.l 88), none⟩, ⟨(.l 90), .faddr 1 (.g 9), none⟩, ⟨.no, .store 1 (.l 90) (.l 89), none⟩])
  (.seq (.region [⟨(.l 92), .load true 7 (.g 9), none⟩, ⟨(.l 93), .call fn_impl_DataPut [(.l 92)], none⟩, ⟨(.l 91), .mv (.l 93), none⟩, ⟨(.l 94), .extract (.l 91) 0, none⟩, ⟨(.l 95), .extract (.l 91) 1, none⟩, ⟨.no, .store 3 (.g 10) (.l 94), none⟩])
  (.seq (.drawn [⟨(.l 97), .load true 14 (.g 3), none⟩, ⟨(.l 98), .load true 14 (.g 3), none⟩, ⟨(.l 99), .load true 3 (.g 10), none⟩, ⟨(.l 100), .call fn_laws_from [(.l 98), (.c (.bool false)), (.l 99)], none⟩, ⟨(.l 101), .call fn_impl_AssocStep [(.l 97), (.l 100)], none⟩, ⟨(.l 96), .mv (.l 101), none⟩, ⟨(.l 102), .extract (.l 96) 0, none⟩, ⟨(.l 103), .extract (.l 96) 1, none⟩, ⟨(.l 14), .alloc [(.int .i64 0), (.int .i64 0), (.int .i64 0), (.bool false), (.int .i64 0), (.int .i64 0), (.int .i64 0), .nils, (.int .i64 0), (.int .i64 0), (.int .i64 0), (.int .i64 0), .nils, (.int .i64 0)], none⟩, ⟨.no, .store 14 (.l 14) (.l 102), none⟩] [[], [0], [1, 0], [0], [], [], [], [], [4, 3, 2, 1, 0], []] [⟨(.g 15), .mv (.l 103), none⟩])
  (.seq (.region [⟨(.l 104), .mv (.g 13), none⟩, ⟨(.l 105), .call fn_laws_one [(.l 104), (.c (.int .i64 6))], none⟩, ⟨(.l 106), .mv (.l 105), none⟩, ⟨(.l 107), .mv (.g 15), (some ((.l 106), true))⟩, ⟨(.l 108), .call fn_laws_one [(.l 107), (.c (.int .i64 5))], (some ((.l 106), true))⟩, ⟨(.l 109), .pick (.l 106) (.l 108) (.c (.bool false)), none⟩, ⟨(.g 2), .mv (.l 109), none⟩])
  (.ret)))))))))))))⟩
theorem ln_laws_FnStepTsn : Linked Tryz.prog fn_laws_FnStepTsn ac_laws_FnStepTsn := ⟨Tryz.f18, _, Tryz.func18, rfl, by kernel_rfl, by kernel_rfl, by kernel_rfl, by kernel_rfl⟩
end
end Go.Proofs.YtldoekmblpghmaaGreat

namespace Go.Proofs.YtldoekmblpghmaaGreat
set_option linter.all false
section
set_option maxRecDepth 200000
set_option maxHeartbeats 8000000
attribute [-simp] List.getD_eq_getElem?_getD

theorem FnStepTsn_ok (code : List UInt8) : Fn Tryz.prog fn_laws_FnStepTsn [bsl code] [] (.bool true) [] := by
  obtain ⟨x, p, hx, hp, f1⟩ := DrawAssocStep_ok code
  have g1 := impl_AssocStep_ok x p hx.bd (by omega)
  have g2 := spec_AssocStep_ok x p hx.bd (by omega)
  have g3 := sameInts_self (stepS x p).2 (by have := stepS_len x p; omega)
  have g4 := sameAssoc_self (stepS x p).1 (stepS_bd p)
  have hm := srcN (x := x) (p := p)
  have hbd := stepS_bd (x := x) p
  have hln := stepS_len x p
  generalize stepS x p = r at *
  obtain ⟨y, rl⟩ := r
  simp only at hm hbd hln
  simp only [assoc_v, packet_v, isl] at f1 g1 g2 g3 g4
  refine Fn.of_go ln_laws_FnStepTsn rfl ?_
  simp [ac_laws_FnStepTsn, bsl]
  refine goTest_dec (fun h0 => ?_) (fun h0 => ?_)
  · simp
    exact Ends.mk [] [] (by simp)
  simp
  refine goCall_eq f1 (by simp [bsl]) ?_
  simp
  refine goCall_eq g1 (by simp) ?_
  simp
  refine goCall_eq g2 (by simp) ?_
  simp
  refine goCall_eq g3 (by simp) ?_
  simp
  refine goCall_eq g4 (by simp) ?_
  simp
  cases h1 : decide (y.src = 0)
  rotate_left
  · simp
    refine goCall_eq g3 (by simp) ?_
    simp
    refine goCall_eq g4 (by simp) ?_
    simp
    exact Ends.mk [] [] (by simp)
  have hm := hm h1
  simp
  cases h2 : decide (x.state = 4)
  · simp
    refine goCall_eq g3 (by simp) ?_
    simp
    refine goCall_eq g4 (by simp) ?_
    simp
    exact Ends.mk [] [] (by simp)
  simp
  have hxo := (mine_iff.1 hm).1
  have ho := OpenA.mk' hxo (of_decide_eq_true h2)
  have hf := ho.first
  have hl := ho.len
  have hin : inS x.a.first = true := by simp [inS]; omega
  have s1 := impl_SerialAdd_ok x.a.first (x.a.sent.length + 1 : Nat) (by omega)
  rw [hin] at s1
  simp only [if_true] at s1
  have hst := ho.streams
  obtain ⟨c, p1, e2, e3, e4⟩ := new_put x (x.a.sent.length + 1) (stream := 0) (ssn := 0) true (by omega) (by omega)
  obtain ⟨c2, p2, e6, e7, e8⟩ := new_put x (x.a.sent.length + 1) (stream := x.a.streams) (ssn := 0) true (by omega) (by omega)
  have q1 := from_ok x false c
  have q2 := from_ok x false c2
  have a1 := impl_AssocStep_ok x (fromS x false c) hx.bd (by simp [fromS])
  have a2 := impl_AssocStep_ok x (fromS x false c2) hx.bd (by simp [fromS])
  have t1 := step_new ho (n := x.a.sent.length + 1) (by omega) (stream := 0) (ssn := 0) (loose := true) e2 e3 (by omega)
  have t2 := step_new ho (n := x.a.sent.length + 1) (by omega) (stream := x.a.streams) (ssn := 0) (loose := true) e6 e7 (by omega)
  rw [if_neg (by omega), if_pos (by omega)] at t1
  rw [if_pos (by omega)] at t2
  rw [one_from hxo false e4 (by omega) t1 (by omega)] at a1
  rw [one_from hxo false e8 (by omega) t2 (by omega)] at a2
  have o1 := one_ok [6] 6
  have o2 := one_ok [5] 5
  simp only [assoc_v, from_v, chunk_v, isl, psl, newPart, newText, Part.v, Part.cells, decide_true] at p1 q1 a1 o1 p2 q2 a2 o2
  generalize addS x.a.first (x.a.sent.length + 1 : Nat) = v1 at *
  rw [Int.natCast_add, Int.natCast_one] at s1
  refine ⟨by omega, ?_⟩
  refine goCall_eq s1 (by simp) ?_
  simp
  refine goCall_eq p1 (by simp) ?_
  simp
  refine goDCall_eq q1 (by simp) (by simp) ?_
  simp
  refine goDCall_eq a1 (by simp) (by simp) ?_
  simp
  refine goCall_eq p2 (by simp) ?_
  simp
  refine goDCall_eq q2 (by simp) (by simp) ?_
  simp
  refine goDCall_eq a2 (by simp) (by simp) ?_
  simp
  refine goCall_eq o1 (by simp) ?_
  simp
  refine goCall_eq o2 (by simp) ?_
  simp
  exact Ends.mk [] [] (by simp)
end
end Go.Proofs.YtldoekmblpghmaaGreat

namespace Go.Proofs.YtldoekmblpghmaaGreat.fnStepTsn
set_option linter.all false
open Go.ChangeShapes Go.WideShapes Go.ChangeAt Go.RowKit

theorem own : ownKnob Tryz.prog.godebug = none := by kernel_rfl
theorem laidOut : laidOutB Tryz.prog = true := by kernel_rfl

set_option maxRecDepth 100000 in
theorem lifted (os : Os) (started : os.Started) (H : Type) (enc : TypeId × Value → H) :
    ReturnsInHanded {} Tryz.checked os 18 .any (Rows.fnStepTsnSpec.pre6 enc Tryz.prog Tryz.f18 Rows.fnStepTsnRow.domain false) (Rows.fnStepTsnSpec.post enc Tryz.prog Tryz.f18 false true false false) := by
  refine returnsInHanded_of_change_shaped (C := Tryz.checked) own started (by kernel_rfl) Tryz.func18
    (ChangeSpec.witness6 (enc := enc) (C := Tryz.checked) false ⟨#[], #[.slice none 0 0], []⟩ 8 (by kernel_rfl) (by kernel_rfl) (by kernel_rfl) (by kernel_rfl)) ?_
  intro W base args ds gs before hval0 hW _ _ hsh _
  have hval : ∀ (j : Nat) t v, Tryz.f18.params[j]? = some t → args[j]? = some v → Value.okWide Tryz.prog W .any base t v := hval0
  have hW' := hW
  obtain ⟨p, q, hA0, hV, rfl, hfz, hnd⟩ := hW
  have hA : DataW.TrodAll enc Tryz.prog W 0 (fun _ => true) true Tryz.f18.params.toList args.toList ds p := hA0
  rw [Tryz.params18] at hA hval
  obtain ⟨v0, d0, rfl, rfl, h0⟩ := trodAll_one hA
  obtain ⟨rfl, rfl⟩ := trodVars_none hV
  clear hA0 hval0
  simp only [List.append_nil] at hW'
  obtain ⟨l0, hl0⟩ := open_bytes Tryz.underlying22 Tryz.underlying5 (by kernel_rfl) (hval 0 22 v0 rfl rfl) h0
  refine ((FnStepTsn_ok l0).calls_true rfl W [v0] (tabsW W hsh) (rel_one hl0)).mono fun e W' ⟨he, hb⟩ => ?_
  subst he
  have hlt : ∀ x ∈ p, x.block < W.heap.size := fun x hx => by simpa using hW'.lt x hx
  have hargs := Below.trod laidOut (by kernel_rfl) (of_decide_eq_true (by kernel_rfl)) h0 hb hlt
  exact ⟨_, rfl, ⟨_, _, _, [], _, [], hW', trodAll_mk1 (shut_bool Tryz.underlying4 _), trodAll_mk1 hargs, rfl, hb.frame _, fun h => by cases h⟩⟩

theorem closed : joinedFacts Tryz.prog 18 Tryz.f18 Rows.fnStepTsnSpec Rows.fnStepTsnRow = true := by
  have key : ∀ P : Program, P = Tryz.prog → P.mayEnter = true → P.liftsFinal = false → P.make = some .cut → joinedFacts P 18 Tryz.f18 Rows.fnStepTsnSpec Rows.fnStepTsnRow = true := by
    intro P hP h1 h2 h3
    unfold joinedFacts
    rw [h1, h2, h3]
    subst hP
    kernel_rfl
  exact key _ rfl enters finals makes

theorem proved : Rows.FnStepTsnSaid :=
  OpenClaim.holds_of_wide 18 Tryz.f18 rfl rfl rfl rfl rfl rfl rfl ⟨rfl, rfl, rfl, rfl, rfl⟩ rfl rfl rfl rfl rfl (by kernel_rfl) Tryz.func18 closed
    (of_decide_eq_true (by kernel_rfl)) (by unfold Func.isWrapper; first | (rw [if_pos (by decide +kernel)]; kernel_rfl) | (rw [if_neg (by decide +kernel)]; exact ⟨rfl, rfl⟩))
    (fun os started H enc _ => lifted os started H enc)
end Go.Proofs.YtldoekmblpghmaaGreat.fnStepTsn
