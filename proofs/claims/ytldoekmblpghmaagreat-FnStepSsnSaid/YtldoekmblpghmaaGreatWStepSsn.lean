/-
  The law 'FnStepSsn' is proved: it returns true whatever the input, and the input reads as it did. No condition.
-/
import Derived.Test.YtldoekmblpghmaaGreatQ30
import Derived.Test.YtldoekmblpghmaaGreatQ29
import Derived.Test.YtldoekmblpghmaaGreatRows
namespace Go.Proofs.YtldoekmblpghmaaGreat
set_option linter.all false
section
set_option maxRecDepth 100000
def ac_laws_FnStepSsn : AF := ⟨[0, 2, 3, 4, 5, 6, 7, 8, 9, 10, 13, 16, 53], [.t 2],
  .seq (.region [⟨(.g 2), .mv (.c (.bool false)), none⟩])
  (.seq (.seq (.region [⟨(.l 14), .mv (.g 0), none⟩, ⟨(.l 15), .len (.l 14), none⟩, ⟨(.g 16), .bin .gtr (.l 15) (.c (.int .i64 1048576)), none⟩])
  (.cond (.g 16) (.seq (.region [⟨(.g 2), .mv (.c (.bool true)), none⟩])
   (.ret))
  (.skip)))
  (.seq (.region [⟨(.l 18), .mv (.g 0), none⟩, ⟨(.l 19), .call fn_spec_DrawAssocStep [(.l 18)], none⟩, ⟨(.l 17), .mv (.l 19), none⟩, ⟨(.l 20), .extract (.l 17) 0, none⟩, ⟨(.l 21), .extract (.l 17) 1, none⟩, ⟨(.g 3), .alloc [(.int .i64 0), (.int .i64 0), (.int .i64 0), (.bool false), (.int .i64 0), (.int .i64 0), (.int .i64 0), .nils, (.int .i64 0), (.int .i64 0), (.int .i64 0), (.int .i64 0), .nils, (.int .i64 0)], none⟩, ⟨(.g 4), .alloc [(.int .i64 0), (.int .i64 0), (.int .i64 0), .nils], none⟩, ⟨.no, .store 14 (.g 3) (.l 20), none⟩, ⟨.no, .store 4 (.g 4) (.l 21), none⟩])
  (.seq (.region [⟨(.l 23), .load true 14 (.g 3), none⟩, ⟨(.l 24), .load true 4 (.g 4), none⟩, ⟨(.l 25), .call fn_impl_AssocStep [(.l 23), (.l 24)], none⟩, ⟨(.l 22), .mv (.l 25), none⟩, ⟨(.l 26), .extract (.l 22) 0, none⟩, ⟨(.l 27), .extract (.l 22) 1, none⟩, ⟨(.g 5), .alloc [(.int .i64 0), (.int .i64 0), (.int .i64 0), (.bool false), (.int .i64 0), (.int .i64 0), (.int .i64 0), .nils, (.int .i64 0), (.int .i64 0), (.int .i64 0), (.int .i64 0), .nils, (.int .i64 0)], none⟩, ⟨.no, .store 14 (.g 5) (.l 26), none⟩, ⟨(.g 6), .mv (.l 27), none⟩])
  (.seq (.region [⟨(.l 29), .load true 14 (.g 3), none⟩, ⟨(.l 30), .load true 4 (.g 4), none⟩, ⟨(.l 31), .call fn_spec_AssocStep [(.l 29), (.l 30)], none⟩, ⟨(.l 28), .mv (.l 31), none⟩, ⟨(.l 32), .extract (.l 28) 0, none⟩, ⟨(.l 33), .extract (.l 28) 1, none⟩, ⟨(.g 7), .alloc [(.int .i64 0), (.int .i64 0), (.int .i64 0), (.bool false), (.int .i64 0), (.int .i64 0), (.int .i64 0), .nils, (.int .i64 0), (.int .i64 0), (.int .i64 0), (.int .i64 0), .nils, (.int .i64 0)], none⟩, ⟨.no, .store 14 (.g 7) (.l 32), none⟩, ⟨(.g 8), .mv (.l 33), none⟩])
  (.seq (.seq (.region [⟨(.l 34), .mv (.g 6), none⟩, ⟨(.l 35), .mv (.g 8), none⟩, ⟨(.l 36), .call fn_laws_sameInts [(.l 34), (.l 35)], none⟩, ⟨(.l 37), .un .not (.l 36), none⟩, ⟨(.l 38), .mv (.l 37), none⟩, ⟨(.l 39), .load true 14 (.g 5), (some ((.l 38), false))⟩, ⟨(.l 40), .load true 14 (.g 7), (some ((.l 38), false))⟩, ⟨(.l 41), .call fn_laws_sameAssoc [(.l 39), (.l 40)], (some ((.l 38), false))⟩, ⟨(.l 42), .un .not (.l 41), (some ((.l 38), false))⟩, ⟨(.l 43), .pick (.l 38) (.c (.bool true)) (.l 42), none⟩, ⟨(.l 44), .mv (.l 43), none⟩, ⟨(.l 45), .faddr 0 (.g 7), (some ((.l 44), false))⟩, ⟨(.l 46), .load false 1 (.l 45), (some ((.l 44), false))⟩, ⟨(.l 47), .bin .eql (.l 46) (.c (.int .i64 0)), (some ((.l 44), false))⟩, ⟨(.l 48), .pick (.l 44) (.c (.bool true)) (.l 47), none⟩, ⟨(.l 49), .mv (.l 48), none⟩, ⟨(.l 50), .faddr 2 (.g 3), (some ((.l 49), false))⟩, ⟨(.l 51), .load false 1 (.l 50), (some ((.l 49), false))⟩, ⟨(.l 52), .bin .neq (.l 51) (.c (.int .i64 4)), (some ((.l 49), false))⟩, ⟨(.g 53), .pick (.l 49) (.c (.bool true)) (.l 52), none⟩])
  (.cond (.g 53) (.seq (.region [⟨(.l 54), .mv (.g 6), none⟩, ⟨(.l 55), .mv (.g 8), none⟩, ⟨(.l 56), .call fn_laws_sameInts [(.l 54), (.l 55)], none⟩, ⟨(.l 57), .mv (.l 56), none⟩, ⟨(.l 58), .load true 14 (.g 5), (some ((.l 57), true))⟩, ⟨(.l 59), .load true 14 (.g 7), (some ((.l 57), true))⟩, ⟨(.l 60), .call fn_laws_sameAssoc [(.l 58), (.l 59)], (some ((.l 57), true))⟩, ⟨(.l 61), .pick (.l 57) (.l 60) (.c (.bool false)), none⟩, ⟨(.g 2), .mv (.l 61), none⟩])
   (.ret))
  (.skip)))
  (.seq (.region [⟨(.l 62), .faddr 4 (.g 3), none⟩, ⟨(.l 63), .faddr 2 (.l 62), none⟩, ⟨(.l 64), .load false 1 (.l 63), none⟩, ⟨(.l 65), .faddr 4 (.g 3), none⟩, ⟨(.l 66), .faddr 3 (.l 65), none⟩, ⟨(.l 67), .load false 1 (.l 66), none⟩, ⟨(.l 68), .len (.l 67), none⟩, ⟨(.l 69), .call fn_impl_SerialAdd [(.l 64), (.l 68)], none⟩, ⟨(.l 70), .build [(.int .i64 0), (.int .i64 0), (.int .i64 0), (.bool false), (.bool false), (.bool false), (.str [])] [(0, 1, (.l 69)), (2, 1, (.c (.int .i64 999))), (3, 1, (.c (.bool true))), (4, 1, (.c (.bool true))), (6, 1, (.c (.str [110, 101, 119])))], none⟩, ⟨(.g 9), .alloc [(.int .i64 0), (.int .i64 0), (.int .i64 0), (.bool false), (.bool false), (.bool false), (.str [])], none⟩, ⟨.no, .store 7 (.g 9) (.l 70), none⟩])
  (.seq (.region [⟨(.l 72), .load true 7 (.g 9), none⟩, ⟨(.l 73), .call fn_impl_DataPut [(.l 72)], none⟩, ⟨(.l 71), .mv (.l 73), none⟩, ⟨(.l 74), .extract (.l 71) 0, none⟩, ⟨(.l 75), .extract (.l 71) 1, none⟩, ⟨(.g 10), .alloc [(.int .i64 0), (.int .i64 0), (.str [])], none⟩, ⟨.no, .store 3 (.g 10) (.l 74), none⟩, ⟨(.l 11), .mv (.l 75), none⟩])
  (.seq (.drawn [⟨(.l 77), .load true 14 (.g 3), none⟩, ⟨(.l 78), .load true 14 (.g 3), none⟩, ⟨(.l 79), .load true 3 (.g 10), none⟩, ⟨(.l 80), .call fn_laws_from [(.l 78), (.c (.bool false)), (.l 79)], none⟩, ⟨(.l 81), .call fn_impl_AssocStep [(.l 77), (.l 80)], none⟩, ⟨(.l 76), .mv (.l 81), none⟩, ⟨(.l 82), .extract (.l 76) 0, none⟩, ⟨(.l 83), .extract (.l 76) 1, none⟩, ⟨(.l 12), .alloc [(.int .i64 0), (.int .i64 0), (.int .i64 0), (.bool false), (.int .i64 0), (.int .i64 0), (.int .i64 0), .nils, (.int .i64 0), (.int .i64 0), (.int .i64 0), (.int .i64 0), .nils, (.int .i64 0)], none⟩, ⟨.no, .store 14 (.l 12) (.l 82), none⟩] [[], [0], [1, 0], [0], [], [], [], [], [4, 3, 2, 1, 0], []] [⟨(.g 13), .mv (.l 83), none⟩])
  (.seq (.region [⟨(.l 84), .mv (.g 13), none⟩, ⟨(.l 85), .call fn_laws_one [(.l 84), (.c (.int .i64 8))], none⟩, ⟨(.g 2), .mv (.l 85), none⟩])
  (.ret))))))))))⟩
theorem ln_laws_FnStepSsn : Linked Tryz.prog fn_laws_FnStepSsn ac_laws_FnStepSsn := ⟨Tryz.f17, _, Tryz.func17, rfl, by kernel_rfl, by kernel_rfl, by kernel_rfl, by kernel_rfl⟩
end
end Go.Proofs.YtldoekmblpghmaaGreat

namespace Go.Proofs.YtldoekmblpghmaaGreat
set_option linter.all false
section
set_option maxRecDepth 200000
set_option maxHeartbeats 8000000
attribute [-simp] List.getD_eq_getElem?_getD

theorem FnStepSsn_ok (code : List UInt8) : Fn Tryz.prog fn_laws_FnStepSsn [bsl code] [] (.bool true) [] := by
  obtain ⟨x, p, hx, hp, f1⟩ := DrawAssocStep_ok code
  have g1 := impl_AssocStep_ok x p hx.bd (by omega)
  have g2 := spec_AssocStep_ok x p hx.bd (by omega)
  have g3 := sameInts_self (stepS x p).2 (by have := stepS_len x p; omega)
  have g4 := sameAssoc_self (stepS x p).1 (stepS_bd p)
  have hm := srcN (x := x) (p := p)
  have hbd := stepS_bd (x := x) p
  have hln := stepS_len x p
  generalize stepS x p = r at *
  obtain ⟨y, rl⟩ := r
  simp only at hm hbd hln
  simp only [assoc_v, packet_v, isl] at f1 g1 g2 g3 g4
  refine Fn.of_go ln_laws_FnStepSsn rfl ?_
  simp [ac_laws_FnStepSsn, bsl]
  refine goTest_dec (fun h0 => ?_) (fun h0 => ?_)
  · simp
    exact Ends.mk [] [] (by simp)
  simp
  refine goCall_eq f1 (by simp [bsl]) ?_
  simp
  refine goCall_eq g1 (by simp) ?_
  simp
  refine goCall_eq g2 (by simp) ?_
  simp
  refine goCall_eq g3 (by simp) ?_
  simp
  refine goCall_eq g4 (by simp) ?_
  simp
  cases h1 : decide (y.src = 0)
  rotate_left
  · simp
    refine goCall_eq g3 (by simp) ?_
    simp
    refine goCall_eq g4 (by simp) ?_
    simp
    exact Ends.mk [] [] (by simp)
  have hm := hm h1
  simp
  cases h2 : decide (x.state = 4)
  · simp
    refine goCall_eq g3 (by simp) ?_
    simp
    refine goCall_eq g4 (by simp) ?_
    simp
    exact Ends.mk [] [] (by simp)
  simp
  have hxo := (mine_iff.1 hm).1
  have ho := OpenA.mk' hxo (of_decide_eq_true h2)
  have hf := ho.first
  have hl := ho.len
  have hin : inS x.a.first = true := by simp [inS]; omega
  have s1 := impl_SerialAdd_ok x.a.first x.a.sent.length (by omega)
  rw [hin] at s1
  simp only [if_true] at s1
  obtain ⟨c, p1, e2, e3, e4⟩ := new_put x x.a.sent.length (stream := 0) (ssn := 999) false (by omega) (by omega)
  have q1 := from_ok x false c
  have a1 := impl_AssocStep_ok x (fromS x false c) hx.bd (by simp [fromS])
  have hst := ho.streams
  have hstep := step_new ho (n := x.a.sent.length) (by omega) (stream := 0) (ssn := 999) (loose := false) e2 e3 (by omega)
  rw [if_neg (by omega), if_neg (by omega), if_pos (follow_wrong rfl rfl rfl (by omega))] at hstep
  rw [one_from hxo false e4 (by omega) hstep (by omega)] at a1
  have o1 := one_ok [8] 8
  simp only [assoc_v, from_v, chunk_v, isl, psl, newPart, newText, Part.v, Part.cells, decide_true] at p1 q1 a1 o1
  generalize addS x.a.first x.a.sent.length = v1 at *
  refine goCall_eq s1 (by simp) ?_
  simp
  refine goCall_eq p1 (by simp) ?_
  simp
  refine goDCall_eq q1 (by simp) (by simp) ?_
  simp
  refine goDCall_eq a1 (by simp) (by simp) ?_
  simp
  refine goCall_eq o1 (by simp) ?_
  simp
  exact Ends.mk [] [] (by simp)
end
end Go.Proofs.YtldoekmblpghmaaGreat

namespace Go.Proofs.YtldoekmblpghmaaGreat.fnStepSsn
set_option linter.all false
open Go.ChangeShapes Go.WideShapes Go.ChangeAt Go.RowKit

theorem own : ownKnob Tryz.prog.godebug = none := by kernel_rfl
theorem laidOut : laidOutB Tryz.prog = true := by kernel_rfl

set_option maxRecDepth 100000 in
theorem lifted (os : Os) (started : os.Started) (H : Type) (enc : TypeId × Value → H) :
    ReturnsInHanded {} Tryz.checked os 17 .any (Rows.fnStepSsnSpec.pre6 enc Tryz.prog Tryz.f17 Rows.fnStepSsnRow.domain false) (Rows.fnStepSsnSpec.post enc Tryz.prog Tryz.f17 false true false false) := by
  refine returnsInHanded_of_change_shaped (C := Tryz.checked) own started (by kernel_rfl) Tryz.func17
    (ChangeSpec.witness6 (enc := enc) (C := Tryz.checked) false ⟨#[], #[.slice none 0 0], []⟩ 8 (by kernel_rfl) (by kernel_rfl) (by kernel_rfl) (by kernel_rfl)) ?_
  intro W base args ds gs before hval0 hW _ _ hsh _
  have hval : ∀ (j : Nat) t v, Tryz.f17.params[j]? = some t → args[j]? = some v → Value.okWide Tryz.prog W .any base t v := hval0
  have hW' := hW
  obtain ⟨p, q, hA0, hV, rfl, hfz, hnd⟩ := hW
  have hA : DataW.TrodAll enc Tryz.prog W 0 (fun _ => true) true Tryz.f17.params.toList args.toList ds p := hA0
  rw [Tryz.params17] at hA hval
  obtain ⟨v0, d0, rfl, rfl, h0⟩ := trodAll_one hA
  obtain ⟨rfl, rfl⟩ := trodVars_none hV
  clear hA0 hval0
  simp only [List.append_nil] at hW'
  obtain ⟨l0, hl0⟩ := open_bytes Tryz.underlying22 Tryz.underlying5 (by kernel_rfl) (hval 0 22 v0 rfl rfl) h0
  refine ((FnStepSsn_ok l0).calls_true rfl W [v0] (tabsW W hsh) (rel_one hl0)).mono fun e W' ⟨he, hb⟩ => ?_
  subst he
  have hlt : ∀ x ∈ p, x.block < W.heap.size := fun x hx => by simpa using hW'.lt x hx
  have hargs := Below.trod laidOut (by kernel_rfl) (of_decide_eq_true (by kernel_rfl)) h0 hb hlt
  exact ⟨_, rfl, ⟨_, _, _, [], _, [], hW', trodAll_mk1 (shut_bool Tryz.underlying4 _), trodAll_mk1 hargs, rfl, hb.frame _, fun h => by cases h⟩⟩

theorem closed : joinedFacts Tryz.prog 17 Tryz.f17 Rows.fnStepSsnSpec Rows.fnStepSsnRow = true := by
  have key : ∀ P : Program, P = Tryz.prog → P.mayEnter = true → P.liftsFinal = false → P.make = some .cut → joinedFacts P 17 Tryz.f17 Rows.fnStepSsnSpec Rows.fnStepSsnRow = true := by
    intro P hP h1 h2 h3
    unfold joinedFacts
    rw [h1, h2, h3]
    subst hP
    kernel_rfl
  exact key _ rfl enters finals makes

theorem proved : Rows.FnStepSsnSaid :=
  OpenClaim.holds_of_wide 17 Tryz.f17 rfl rfl rfl rfl rfl rfl rfl ⟨rfl, rfl, rfl, rfl, rfl⟩ rfl rfl rfl rfl rfl (by kernel_rfl) Tryz.func17 closed
    (of_decide_eq_true (by kernel_rfl)) (by unfold Func.isWrapper; first | (rw [if_pos (by decide +kernel)]; kernel_rfl) | (rw [if_neg (by decide +kernel)]; exact ⟨rfl, rfl⟩))
    (fun os started H enc _ => lifted os started H enc)
end Go.Proofs.YtldoekmblpghmaaGreat.fnStepSsn
