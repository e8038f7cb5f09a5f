/-
  The law 'FnStepSent' is proved: it returns true whatever the input, and the input reads as it did. No condition.
-/
import Derived.Test.YtldoekmblpghmaaGreatQ29
import Derived.Test.YtldoekmblpghmaaGreatRows
namespace Go.Proofs.YtldoekmblpghmaaGreat
set_option linter.all false
section
set_option maxRecDepth 100000
def ac_laws_FnStepSent : AF := ⟨[0, 2, 3, 4, 5, 6, 7, 8, 10, 12, 15, 47, 75], [.t 2],
  .seq (.region [⟨(.g 2), .mv (.c (.bool false)), none⟩])
  (.seq (.seq (.region [⟨(.l 13), .mv (.g 0), none⟩, ⟨(.l 14), .len (.l 13), none⟩, ⟨(.g 15), .bin .gtr (.l 14) (.c (.int .i64 1048576)), none⟩])
  (.cond (.g 15) (.seq (.region [⟨(.g 2), .mv (.c (.bool true)), none⟩])
   (.ret))
  (.skip)))
  (.seq (.region [⟨(.l 17), .mv (.g 0), none⟩, ⟨(.l 18), .call fn_spec_DrawAssocStep [(.l 17)], none⟩, ⟨(.l 16), .mv (.l 18), none⟩, ⟨(.l 19), .extract (.l 16) 0, none⟩, ⟨(.l 20), .extract (.l 16) 1, none⟩, ⟨(.g 3), .alloc [(.int .i64 0), (.int .i64 0), (.int .i64 0), (.bool false), (.int .i64 0), (.int .i64 0), (.int .i64 0), .nils, (.int .i64 0), (.int .i64 0), (.int .i64 0), (.int .i64 0), .nils, (.int .i64 0)], none⟩, ⟨(.g 4), .alloc [(.int .i64 0), (.int .i64 0), (.int .i64 0), .nils], none⟩, ⟨.no, .store 14 (.g 3) (.l 19), none⟩, ⟨.no, .store 4 (.g 4) (.l 20), none⟩])
  (.seq (.region [⟨(.l 22), .load true 14 (.g 3), none⟩, ⟨(.l 23), .load true 4 (.g 4), none⟩, ⟨(.l 24), .call fn_impl_AssocStep [(.l 22), (.l 23)], none⟩, ⟨(.l 21), .mv (.l 24), none⟩, ⟨(.l 25), .extract (.l 21) 0, none⟩, ⟨(.l 26), .extract (.l 21) 1, none⟩, ⟨(.g 5), .alloc [(.int .i64 0), (.int .i64 0), (.int .i64 0), (.bool false), (.int .i64 0), (.int .i64 0), (.int .i64 0), .nils, (.int .i64 0), (.int .i64 0), (.int .i64 0), (.int .i64 0), .nils, (.int .i64 0)], none⟩, ⟨.no, .store 14 (.g 5) (.l 25), none⟩, ⟨(.g 6), .mv (.l 26), none⟩])
  (.seq (.region [⟨(.l 28), .load true 14 (.g 3), none⟩, ⟨(.l 29), .load true 4 (.g 4), none⟩, ⟨(.l 30), .call fn_spec_AssocStep [(.l 28), (.l 29)], none⟩, ⟨(.l 27), .mv (.l 30), none⟩, ⟨(.l 31), .extract (.l 27) 0, none⟩, ⟨(.l 32), .extract (.l 27) 1, none⟩, ⟨(.g 7), .alloc [(.int .i64 0), (.int .i64 0), (.int .i64 0), (.bool false), (.int .i64 0), (.int .i64 0), (.int .i64 0), .nils, (.int .i64 0), (.int .i64 0), (.int .i64 0), (.int .i64 0), .nils, (.int .i64 0)], none⟩, ⟨.no, .store 14 (.g 7) (.l 31), none⟩, ⟨(.g 8), .mv (.l 32), none⟩])
  (.seq (.seq (.region [⟨(.l 33), .mv (.g 6), none⟩, ⟨(.l 34), .mv (.g 8), none⟩, ⟨(.l 35), .call fn_laws_sameInts [(.l 33), (.l 34)], none⟩, ⟨(.l 36), .un .not (.l 35), none⟩, ⟨(.l 37), .mv (.l 36), none⟩, ⟨(.l 38), .load true 14 (.g 5), (some ((.l 37), false))⟩, ⟨(.l 39), .load true 14 (.g 7), (some ((.l 37), false))⟩, ⟨(.l 40), .call fn_laws_sameAssoc [(.l 38), (.l 39)], (some ((.l 37), false))⟩, ⟨(.l 41), .un .not (.l 40), (some ((.l 37), false))⟩, ⟨(.l 42), .pick (.l 37) (.c (.bool true)) (.l 41), none⟩, ⟨(.l 43), .mv (.l 42), none⟩, ⟨(.l 44), .faddr 0 (.g 7), (some ((.l 43), false))⟩, ⟨(.l 45), .load false 1 (.l 44), (some ((.l 43), false))⟩, ⟨(.l 46), .bin .eql (.l 45) (.c (.int .i64 0)), (some ((.l 43), false))⟩, ⟨(.g 47), .pick (.l 43) (.c (.bool true)) (.l 46), none⟩])
  (.cond (.g 47) (.seq (.region [⟨(.l 48), .mv (.g 6), none⟩, ⟨(.l 49), .mv (.g 8), none⟩, ⟨(.l 50), .call fn_laws_sameInts [(.l 48), (.l 49)], none⟩, ⟨(.l 51), .mv (.l 50), none⟩, ⟨(.l 52), .load true 14 (.g 5), (some ((.l 51), true))⟩, ⟨(.l 53), .load true 14 (.g 7), (some ((.l 51), true))⟩, ⟨(.l 54), .call fn_laws_sameAssoc [(.l 52), (.l 53)], (some ((.l 51), true))⟩, ⟨(.l 55), .pick (.l 51) (.l 54) (.c (.bool false)), none⟩, ⟨(.g 2), .mv (.l 55), none⟩])
   (.ret))
  (.skip)))
  (.seq (.seq (.region [⟨(.l 56), .faddr 4 (.g 5), none⟩, ⟨(.l 57), .faddr 3 (.l 56), none⟩, ⟨(.l 58), .load false 1 (.l 57), none⟩, ⟨(.l 59), .len (.l 58), none⟩, ⟨(.l 60), .faddr 4 (.g 3), none⟩, ⟨(.l 61), .faddr 3 (.l 60), none⟩, ⟨(.l 62), .load false 1 (.l 61), none⟩, ⟨(.l 63), .len (.l 62), none⟩, ⟨(.l 64), .bin .lss (.l 59) (.l 63), none⟩, ⟨(.l 65), .mv (.l 64), none⟩, ⟨(.l 66), .faddr 9 (.g 5), (some ((.l 65), false))⟩, ⟨(.l 67), .faddr 3 (.l 66), (some ((.l 65), false))⟩, ⟨(.l 68), .load false 1 (.l 67), (some ((.l 65), false))⟩, ⟨(.l 69), .len (.l 68), (some ((.l 65), false))⟩, ⟨(.l 70), .faddr 9 (.g 3), (some ((.l 65), false))⟩, ⟨(.l 71), .faddr 3 (.l 70), (some ((.l 65), false))⟩, ⟨(.l 72), .load false 1 (.l 71), (some ((.l 65), false))⟩, ⟨(.l 73), .len (.l 72), (some ((.l 65), false))⟩, ⟨(.l 74), .bin .lss (.l 69) (.l 73), (some ((.l 65), false))⟩, ⟨(.g 75), .pick (.l 65) (.c (.bool true)) (.l 74), none⟩])
  (.cond (.g 75) (.seq (.region [⟨(.g 2), .mv (.c (.bool false)), none⟩])
   (.ret))
  (.skip)))
  (.seq (.region [⟨(.l 77), .load true 14 (.g 3), none⟩, ⟨(.l 78), .load true 4 (.g 4), none⟩, ⟨(.l 79), .call fn_laws_rest [(.l 77), (.l 78)], none⟩, ⟨(.l 76), .mv (.l 79), none⟩, ⟨(.l 80), .extract (.l 76) 0, none⟩, ⟨(.l 81), .extract (.l 76) 1, none⟩, ⟨(.l 9), .alloc [(.int .i64 0), (.int .i64 0), (.int .i64 0), .nils, (.int .i64 0)], none⟩, ⟨(.g 10), .alloc [(.int .i64 0), (.int .i64 0), (.int .i64 0), .nils, (.int .i64 0)], none⟩, ⟨.no, .store 5 (.l 9) (.l 80), none⟩, ⟨.no, .store 5 (.g 10) (.l 81), none⟩])
  (.seq (.region [⟨(.l 83), .load true 14 (.g 5), none⟩, ⟨(.l 84), .load true 4 (.g 4), none⟩, ⟨(.l 85), .call fn_laws_rest [(.l 83), (.l 84)], none⟩, ⟨(.l 82), .mv (.l 85), none⟩, ⟨(.l 86), .extract (.l 82) 0, none⟩, ⟨(.l 87), .extract (.l 82) 1, none⟩, ⟨(.l 11), .alloc [(.int .i64 0), (.int .i64 0), (.int .i64 0), .nils, (.int .i64 0)], none⟩, ⟨(.g 12), .alloc [(.int .i64 0), (.int .i64 0), (.int .i64 0), .nils, (.int .i64 0)], none⟩, ⟨.no, .store 5 (.l 11) (.l 86), none⟩, ⟨.no, .store 5 (.g 12) (.l 87), none⟩])
  (.seq (.drawn [⟨(.l 88), .faddr 4 (.g 5), none⟩, ⟨(.l 89), .faddr 3 (.l 88), none⟩, ⟨(.l 90), .load false 1 (.l 89), none⟩, ⟨(.l 91), .faddr 4 (.g 3), none⟩, ⟨(.l 92), .faddr 3 (.l 91), none⟩, ⟨(.l 93), .load false 1 (.l 92), none⟩, ⟨(.l 94), .len (.l 93), none⟩, ⟨(.l 95), .cutSl 7 (.l 90) none (some (.l 94)), none⟩, ⟨(.l 96), .faddr 4 (.g 3), none⟩, ⟨(.l 97), .faddr 3 (.l 96), none⟩, ⟨(.l 98), .load false 1 (.l 97), none⟩, ⟨(.l 99), .call fn_laws_sameParts [(.l 95), (.l 98)], none⟩, ⟨(.l 100), .mv (.l 99), none⟩, ⟨(.l 101), .faddr 9 (.g 5), (some ((.l 100), true))⟩, ⟨(.l 102), .faddr 3 (.l 101), (some ((.l 100), true))⟩, ⟨(.l 103), .load false 1 (.l 102), (some ((.l 100), true))⟩, ⟨(.l 104), .faddr 9 (.g 3), (some ((.l 100), true))⟩, ⟨(.l 105), .faddr 3 (.l 104), (some ((.l 100), true))⟩, ⟨(.l 106), .load false 1 (.l 105), (some ((.l 100), true))⟩, ⟨(.l 107), .len (.l 106), (some ((.l 100), true))⟩, ⟨(.l 108), .cutSl 7 (.l 103) none (some (.l 107)), (some ((.l 100), true))⟩, ⟨(.l 109), .faddr 9 (.g 3), (some ((.l 100), true))⟩, ⟨(.l 110), .faddr 3 (.l 109), (some ((.l 100), true))⟩, ⟨(.l 111), .load false 1 (.l 110), (some ((.l 100), true))⟩, ⟨(.l 112), .call fn_laws_sameParts [(.l 108), (.l 111)], (some ((.l 100), true))⟩, ⟨(.l 113), .pick (.l 100) (.l 112) (.c (.bool false)), none⟩, ⟨(.l 114), .mv (.l 113), none⟩, ⟨(.l 115), .faddr 3 (.g 10), (some ((.l 114), true))⟩, ⟨(.l 116), .load false 1 (.l 115), (some ((.l 114), true))⟩, ⟨(.l 117), .faddr 3 (.g 12), (some ((.l 114), true))⟩, ⟨(.l 118), .load false 1 (.l 117), (some ((.l 114), true))⟩] [[], [], [], [], [], [2], [2], [], [], [], [7, 6, 5, 2], [], [], [], [], [], [], [], [15], [15], [], [], [], [20, 19, 18, 15], [], [], [], [], [], [], [28]] [⟨(.l 119), .call fn_laws_sameParts [(.l 116), (.l 118)], (some ((.l 114), true))⟩, ⟨(.l 120), .pick (.l 114) (.l 119) (.c (.bool false)), none⟩, ⟨(.g 2), .mv (.l 120), none⟩])
  (.ret))))))))))⟩
theorem ln_laws_FnStepSent : Linked Tryz.prog fn_laws_FnStepSent ac_laws_FnStepSent := ⟨Tryz.f10, _, Tryz.func10, rfl, by kernel_rfl, by kernel_rfl, by kernel_rfl, by kernel_rfl⟩
end
end Go.Proofs.YtldoekmblpghmaaGreat

namespace Go.Proofs.YtldoekmblpghmaaGreat
set_option linter.all false
section
set_option maxRecDepth 200000
set_option maxHeartbeats 8000000
attribute [-simp] List.getD_eq_getElem?_getD

theorem FnStepSent_ok (code : List UInt8) : Fn Tryz.prog fn_laws_FnStepSent [bsl code] [] (.bool true) [] := by
  obtain ⟨x, p, hx, hp, f1⟩ := DrawAssocStep_ok code
  have g1 := impl_AssocStep_ok x p hx.bd (by omega)
  have g2 := spec_AssocStep_ok x p hx.bd (by omega)
  have g3 := sameInts_self (stepS x p).2 (by have := stepS_len x p; omega)
  have g4 := sameAssoc_self (stepS x p).1 (stepS_bd p)
  have hm := srcN (x := x) (p := p)
  have hbd := stepS_bd (x := x) p
  have hln := stepS_len x p
  have k := stepS_keeps (x := x) (p := p)
  have k2 := rest_side (x := x) (p := p)
  have k3 := rest_step (x := x) (p := p)
  have g5 := rest_ok x p
  have g6 := rest_ok (stepS x p).1 p
  generalize stepS x p = r at *
  obtain ⟨y, rl⟩ := r
  simp only at hm hbd hln k k3 g6
  simp only [assoc_v, packet_v, isl] at f1 g1 g2 g3 g4
  refine Fn.of_go ln_laws_FnStepSent rfl ?_
  simp [ac_laws_FnStepSent, bsl]
  refine goTest_dec (fun h0 => ?_) (fun h0 => ?_)
  · simp
    exact Ends.mk [] [] (by simp)
  simp
  refine goCall_eq f1 (by simp [bsl]) ?_
  simp
  refine goCall_eq g1 (by simp) ?_
  simp
  refine goCall_eq g2 (by simp) ?_
  simp
  refine goCall_eq g3 (by simp) ?_
  simp
  refine goCall_eq g4 (by simp) ?_
  simp
  cases h1 : decide (y.src = 0)
  rotate_left
  · simp
    refine goCall_eq g3 (by simp) ?_
    simp
    refine goCall_eq g4 (by simp) ?_
    simp
    exact Ends.mk [] [] (by simp)
  have hm := hm h1
  simp
  have k := k hm
  have k2 := k2 hm
  have k3 := k3 hm
  rw [k2] at g5
  rw [k3] at g6
  simp only [assoc_v, packet_v, side_v] at g5 g6
  have h1 := k.asent.length_le
  have h2 := k.bsent.length_le
  have e1 : decide (y.a.sent.length < x.a.sent.length) = false := decide_eq_false (by omega)
  have e2 : decide (y.b.sent.length < x.b.sent.length) = false := decide_eq_false (by omega)
  simp [e1, e2]
  refine goCall_eq g5 (by simp) ?_
  simp
  refine goCall_eq g6 (by simp) ?_
  simp
  have p1 : List.take x.a.sent.length (y.a.sent.map Part.v) = x.a.sent.map Part.v := by rw [← List.map_take, ← List.prefix_iff_eq_take.1 k.asent]
  have p2 : List.take x.b.sent.length (y.b.sent.map Part.v) = x.b.sent.map Part.v := by rw [← List.map_take, ← List.prefix_iff_eq_take.1 k.bsent]
  have s1 := sameParts_ok x.a.sent x.a.sent (by have := hx.bd.1.2; omega)
  have s2 := sameParts_ok x.b.sent x.b.sent (by have := hx.bd.2.2; omega)
  have s3 := sameParts_ok (x.other (byBS x p)).sent (y.other (byBS x p)).sent (by have := hx.bd.1.2; have := hx.bd.2.2; cases byBS x p <;> simp [Assoc.other] <;> omega)
  rw [decide_eq_true k.other.symm] at s3
  rw [p1]
  simp only [psl, decide_true] at s1 s2 s3
  refine ⟨h1, ?_⟩
  refine goDCall_eq s1 (by simp) (by simp) ?_
  simp
  refine ⟨h2, ?_⟩
  rw [p2]
  refine goDCall_eq s2 (by simp) (by simp) ?_
  simp
  refine goCall_eq s3 (by simp) ?_
  simp
  exact Ends.mk [] [] (by simp)
end
end Go.Proofs.YtldoekmblpghmaaGreat

namespace Go.Proofs.YtldoekmblpghmaaGreat.fnStepSent
set_option linter.all false
open Go.ChangeShapes Go.WideShapes Go.ChangeAt Go.RowKit

theorem own : ownKnob Tryz.prog.godebug = none := by kernel_rfl
theorem laidOut : laidOutB Tryz.prog = true := by kernel_rfl

set_option maxRecDepth 100000 in
theorem lifted (os : Os) (started : os.Started) (H : Type) (enc : TypeId × Value → H) :
    ReturnsInHanded {} Tryz.checked os 10 .any (Rows.fnStepSentSpec.pre6 enc Tryz.prog Tryz.f10 Rows.fnStepSentRow.domain false) (Rows.fnStepSentSpec.post enc Tryz.prog Tryz.f10 false true false false) := by
  refine returnsInHanded_of_change_shaped (C := Tryz.checked) own started (by kernel_rfl) Tryz.func10
    (ChangeSpec.witness6 (enc := enc) (C := Tryz.checked) false ⟨#[], #[.slice none 0 0], []⟩ 8 (by kernel_rfl) (by kernel_rfl) (by kernel_rfl) (by kernel_rfl)) ?_
  intro W base args ds gs before hval0 hW _ _ hsh _
  have hval : ∀ (j : Nat) t v, Tryz.f10.params[j]? = some t → args[j]? = some v → Value.okWide Tryz.prog W .any base t v := hval0
  have hW' := hW
  obtain ⟨p, q, hA0, hV, rfl, hfz, hnd⟩ := hW
  have hA : DataW.TrodAll enc Tryz.prog W 0 (fun _ => true) true Tryz.f10.params.toList args.toList ds p := hA0
  rw [Tryz.params10] at hA hval
  obtain ⟨v0, d0, rfl, rfl, h0⟩ := trodAll_one hA
  obtain ⟨rfl, rfl⟩ := trodVars_none hV
  clear hA0 hval0
  simp only [List.append_nil] at hW'
  obtain ⟨l0, hl0⟩ := open_bytes Tryz.underlying22 Tryz.underlying5 (by kernel_rfl) (hval 0 22 v0 rfl rfl) h0
  refine ((FnStepSent_ok l0).calls_true rfl W [v0] (tabsW W hsh) (rel_one hl0)).mono fun e W' ⟨he, hb⟩ => ?_
  subst he
  have hlt : ∀ x ∈ p, x.block < W.heap.size := fun x hx => by simpa using hW'.lt x hx
  have hargs := Below.trod laidOut (by kernel_rfl) (of_decide_eq_true (by kernel_rfl)) h0 hb hlt
  exact ⟨_, rfl, ⟨_, _, _, [], _, [], hW', trodAll_mk1 (shut_bool Tryz.underlying4 _), trodAll_mk1 hargs, rfl, hb.frame _, fun h => by cases h⟩⟩

theorem closed : joinedFacts Tryz.prog 10 Tryz.f10 Rows.fnStepSentSpec Rows.fnStepSentRow = true := by
  have key : ∀ P : Program, P = Tryz.prog → P.mayEnter = true → P.liftsFinal = false → P.make = some .cut → joinedFacts P 10 Tryz.f10 Rows.fnStepSentSpec Rows.fnStepSentRow = true := by
    intro P hP h1 h2 h3
    unfold joinedFacts
    rw [h1, h2, h3]
    subst hP
    kernel_rfl
  exact key _ rfl enters finals makes

theorem proved : Rows.FnStepSentSaid :=
  OpenClaim.holds_of_wide 10 Tryz.f10 rfl rfl rfl rfl rfl rfl rfl ⟨rfl, rfl, rfl, rfl, rfl⟩ rfl rfl rfl rfl rfl (by kernel_rfl) Tryz.func10 closed
    (of_decide_eq_true (by kernel_rfl)) (by unfold Func.isWrapper; first | (rw [if_pos (by decide +kernel)]; kernel_rfl) | (rw [if_neg (by decide +kernel)]; exact ⟨rfl, rfl⟩))
    (fun os started H enc _ => lifted os started H enc)
end Go.Proofs.YtldoekmblpghmaaGreat.fnStepSent
