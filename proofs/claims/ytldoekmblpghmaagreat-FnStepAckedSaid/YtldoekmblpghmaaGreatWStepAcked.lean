/-
  The law 'FnStepAcked' is proved: it returns true whatever the input, and the input reads as it did. No condition.
-/
import Derived.Test.YtldoekmblpghmaaGreatQ29
import Derived.Test.YtldoekmblpghmaaGreatRows
namespace Go.Proofs.YtldoekmblpghmaaGreat
set_option linter.all false
section
set_option maxRecDepth 100000
def ac_laws_FnStepAcked : AF := ⟨[0, 2, 3, 4, 5, 6, 7, 8, 9, 11, 15, 47], [.t 2],
  .seq (.region [⟨(.g 2), .mv (.c (.bool false)), none⟩])
  (.seq (.seq (.region [⟨(.l 13), .mv (.g 0), none⟩, ⟨(.l 14), .len (.l 13), none⟩, ⟨(.g 15), .bin .gtr (.l 14) (.c (.int .i64 1048576)), none⟩])
  (.cond (.g 15) (.seq (.region [⟨(.g 2), .mv (.c (.bool true)), none⟩])
   (.ret))
  (.skip)))
  (.seq (.region [⟨(.l 17), .mv (.g 0), none⟩, ⟨(.l 18), .call fn_spec_DrawAssocStep [(.l 17)], none⟩, ⟨(.l 16), .mv (.l 18), none⟩, ⟨(.l 19), .extract (.l 16) 0, none⟩, ⟨(.l 20), .extract (.l 16) 1, none⟩, ⟨(.g 3), .alloc [(.int .i64 0), (.int .i64 0), (.int .i64 0), (.bool false), (.int .i64 0), (.int .i64 0), (.int .i64 0), .nils, (.int .i64 0), (.int .i64 0), (.int .i64 0), (.int .i64 0), .nils, (.int .i64 0)], none⟩, ⟨(.g 4), .alloc [(.int .i64 0), (.int .i64 0), (.int .i64 0), .nils], none⟩, ⟨.no, .store 14 (.g 3) (.l 19), none⟩, ⟨.no, .store 4 (.g 4) (.l 20), none⟩])
  (.seq (.region [⟨(.l 22), .load true 14 (.g 3), none⟩, ⟨(.l 23), .load true 4 (.g 4), none⟩, ⟨(.l 24), .call fn_impl_AssocStep [(.l 22), (.l 23)], none⟩, ⟨(.l 21), .mv (.l 24), none⟩, ⟨(.l 25), .extract (.l 21) 0, none⟩, ⟨(.l 26), .extract (.l 21) 1, none⟩, ⟨(.g 5), .alloc [(.int .i64 0), (.int .i64 0), (.int .i64 0), (.bool false), (.int .i64 0), (.int .i64 0), (.int .i64 0), .nils, (.int .i64 0), (.int .i64 0), (.int .i64 0), (.int .i64 0), .nils, (.int .i64 0)], none⟩, ⟨.no, .store 14 (.g 5) (.l 25), none⟩, ⟨(.g 6), .mv (.l 26), none⟩])
  (.seq (.region [⟨(.l 28), .load true 14 (.g 3), none⟩, ⟨(.l 29), .load true 4 (.g 4), none⟩, ⟨(.l 30), .call fn_spec_AssocStep [(.l 28), (.l 29)], none⟩, ⟨(.l 27), .mv (.l 30), none⟩, ⟨(.l 31), .extract (.l 27) 0, none⟩, ⟨(.l 32), .extract (.l 27) 1, none⟩, ⟨(.g 7), .alloc [(.int .i64 0), (.int .i64 0), (.int .i64 0), (.bool false), (.int .i64 0), (.int .i64 0), (.int .i64 0), .nils, (.int .i64 0), (.int .i64 0), (.int .i64 0), (.int .i64 0), .nils, (.int .i64 0)], none⟩, ⟨.no, .store 14 (.g 7) (.l 31), none⟩, ⟨(.g 8), .mv (.l 32), none⟩])
  (.seq (.seq (.region [⟨(.l 33), .mv (.g 6), none⟩, ⟨(.l 34), .mv (.g 8), none⟩, ⟨(.l 35), .call fn_laws_sameInts [(.l 33), (.l 34)], none⟩, ⟨(.l 36), .un .not (.l 35), none⟩, ⟨(.l 37), .mv (.l 36), none⟩, ⟨(.l 38), .load true 14 (.g 5), (some ((.l 37), false))⟩, ⟨(.l 39), .load true 14 (.g 7), (some ((.l 37), false))⟩, ⟨(.l 40), .call fn_laws_sameAssoc [(.l 38), (.l 39)], (some ((.l 37), false))⟩, ⟨(.l 41), .un .not (.l 40), (some ((.l 37), false))⟩, ⟨(.l 42), .pick (.l 37) (.c (.bool true)) (.l 41), none⟩, ⟨(.l 43), .mv (.l 42), none⟩, ⟨(.l 44), .faddr 0 (.g 7), (some ((.l 43), false))⟩, ⟨(.l 45), .load false 1 (.l 44), (some ((.l 43), false))⟩, ⟨(.l 46), .bin .eql (.l 45) (.c (.int .i64 0)), (some ((.l 43), false))⟩, ⟨(.g 47), .pick (.l 43) (.c (.bool true)) (.l 46), none⟩])
  (.cond (.g 47) (.seq (.region [⟨(.l 48), .mv (.g 6), none⟩, ⟨(.l 49), .mv (.g 8), none⟩, ⟨(.l 50), .call fn_laws_sameInts [(.l 48), (.l 49)], none⟩, ⟨(.l 51), .mv (.l 50), none⟩, ⟨(.l 52), .load true 14 (.g 5), (some ((.l 51), true))⟩, ⟨(.l 53), .load true 14 (.g 7), (some ((.l 51), true))⟩, ⟨(.l 54), .call fn_laws_sameAssoc [(.l 52), (.l 53)], (some ((.l 51), true))⟩, ⟨(.l 55), .pick (.l 51) (.l 54) (.c (.bool false)), none⟩, ⟨(.g 2), .mv (.l 55), none⟩])
   (.ret))
  (.skip)))
  (.seq (.region [⟨(.l 57), .load true 14 (.g 3), none⟩, ⟨(.l 58), .load true 4 (.g 4), none⟩, ⟨(.l 59), .call fn_laws_rest [(.l 57), (.l 58)], none⟩, ⟨(.l 56), .mv (.l 59), none⟩, ⟨(.l 60), .extract (.l 56) 0, none⟩, ⟨(.l 61), .extract (.l 56) 1, none⟩, ⟨(.g 9), .alloc [(.int .i64 0), (.int .i64 0), (.int .i64 0), .nils, (.int .i64 0)], none⟩, ⟨(.l 10), .alloc [(.int .i64 0), (.int .i64 0), (.int .i64 0), .nils, (.int .i64 0)], none⟩, ⟨.no, .store 5 (.g 9) (.l 60), none⟩, ⟨.no, .store 5 (.l 10) (.l 61), none⟩])
  (.seq (.region [⟨(.l 63), .load true 14 (.g 5), none⟩, ⟨(.l 64), .load true 4 (.g 4), none⟩, ⟨(.l 65), .call fn_laws_rest [(.l 63), (.l 64)], none⟩, ⟨(.l 62), .mv (.l 65), none⟩, ⟨(.l 66), .extract (.l 62) 0, none⟩, ⟨(.l 67), .extract (.l 62) 1, none⟩, ⟨(.g 11), .alloc [(.int .i64 0), (.int .i64 0), (.int .i64 0), .nils, (.int .i64 0)], none⟩, ⟨(.l 12), .alloc [(.int .i64 0), (.int .i64 0), (.int .i64 0), .nils, (.int .i64 0)], none⟩, ⟨.no, .store 5 (.g 11) (.l 66), none⟩, ⟨.no, .store 5 (.l 12) (.l 67), none⟩])
  (.seq (.region [⟨(.l 68), .faddr 4 (.g 9), none⟩, ⟨(.l 69), .load false 1 (.l 68), none⟩, ⟨(.l 70), .faddr 4 (.g 11), none⟩, ⟨(.l 71), .load false 1 (.l 70), none⟩, ⟨(.l 72), .bin .eql (.l 69) (.l 71), none⟩, ⟨(.g 2), .mv (.l 72), none⟩])
  (.ret)))))))))⟩
theorem ln_laws_FnStepAcked : Linked Tryz.prog fn_laws_FnStepAcked ac_laws_FnStepAcked := ⟨Tryz.f9, _, Tryz.func9, rfl, by kernel_rfl, by kernel_rfl, by kernel_rfl, by kernel_rfl⟩
end
end Go.Proofs.YtldoekmblpghmaaGreat

namespace Go.Proofs.YtldoekmblpghmaaGreat
set_option linter.all false
section
set_option maxRecDepth 200000
set_option maxHeartbeats 8000000
attribute [-simp] List.getD_eq_getElem?_getD

theorem FnStepAcked_ok (code : List UInt8) : Fn Tryz.prog fn_laws_FnStepAcked [bsl code] [] (.bool true) [] := by
  obtain ⟨x, p, hx, hp, f1⟩ := DrawAssocStep_ok code
  have g1 := impl_AssocStep_ok x p hx.bd (by omega)
  have g2 := spec_AssocStep_ok x p hx.bd (by omega)
  have g3 := sameInts_self (stepS x p).2 (by have := stepS_len x p; omega)
  have g4 := sameAssoc_self (stepS x p).1 (stepS_bd p)
  have hm := srcN (x := x) (p := p)
  have hbd := stepS_bd (x := x) p
  have hln := stepS_len x p
  have k := stepS_keeps (x := x) (p := p)
  have k2 := rest_side (x := x) (p := p)
  have k3 := rest_step (x := x) (p := p)
  have g5 := rest_ok x p
  have g6 := rest_ok (stepS x p).1 p
  generalize stepS x p = r at *
  obtain ⟨y, rl⟩ := r
  simp only at hm hbd hln k k3 g6
  simp only [assoc_v, packet_v, isl] at f1 g1 g2 g3 g4
  refine Fn.of_go ln_laws_FnStepAcked rfl ?_
  simp [ac_laws_FnStepAcked, bsl]
  refine goTest_dec (fun h0 => ?_) (fun h0 => ?_)
  · simp
    exact Ends.mk [] [] (by simp)
  simp
  refine goCall_eq f1 (by simp [bsl]) ?_
  simp
  refine goCall_eq g1 (by simp) ?_
  simp
  refine goCall_eq g2 (by simp) ?_
  simp
  refine goCall_eq g3 (by simp) ?_
  simp
  refine goCall_eq g4 (by simp) ?_
  simp
  cases h1 : decide (y.src = 0)
  rotate_left
  · simp
    refine goCall_eq g3 (by simp) ?_
    simp
    refine goCall_eq g4 (by simp) ?_
    simp
    exact Ends.mk [] [] (by simp)
  have hm := hm h1
  simp
  have k := (k hm).mine
  have k2 := k2 hm
  have k3 := k3 hm
  rw [k2] at g5
  rw [k3] at g6
  simp only [assoc_v, packet_v, side_v] at g5 g6
  refine goCall_eq g5 (by simp) ?_
  simp
  refine goCall_eq g6 (by simp) ?_
  simp
  exact Ends.mk [] [] (by simp [k])
end
end Go.Proofs.YtldoekmblpghmaaGreat

namespace Go.Proofs.YtldoekmblpghmaaGreat.fnStepAcked
set_option linter.all false
open Go.ChangeShapes Go.WideShapes Go.ChangeAt Go.RowKit

theorem own : ownKnob Tryz.prog.godebug = none := by kernel_rfl
theorem laidOut : laidOutB Tryz.prog = true := by kernel_rfl

set_option maxRecDepth 100000 in
theorem lifted (os : Os) (started : os.Started) (H : Type) (enc : TypeId × Value → H) :
    ReturnsInHanded {} Tryz.checked os 9 .any (Rows.fnStepAckedSpec.pre6 enc Tryz.prog Tryz.f9 Rows.fnStepAckedRow.domain false) (Rows.fnStepAckedSpec.post enc Tryz.prog Tryz.f9 false true false false) := by
  refine returnsInHanded_of_change_shaped (C := Tryz.checked) own started (by kernel_rfl) Tryz.func9
    (ChangeSpec.witness6 (enc := enc) (C := Tryz.checked) false ⟨#[], #[.slice none 0 0], []⟩ 8 (by kernel_rfl) (by kernel_rfl) (by kernel_rfl) (by kernel_rfl)) ?_
  intro W base args ds gs before hval0 hW _ _ hsh _
  have hval : ∀ (j : Nat) t v, Tryz.f9.params[j]? = some t → args[j]? = some v → Value.okWide Tryz.prog W .any base t v := hval0
  have hW' := hW
  obtain ⟨p, q, hA0, hV, rfl, hfz, hnd⟩ := hW
  have hA : DataW.TrodAll enc Tryz.prog W 0 (fun _ => true) true Tryz.f9.params.toList args.toList ds p := hA0
  rw [Tryz.params9] at hA hval
  obtain ⟨v0, d0, rfl, rfl, h0⟩ := trodAll_one hA
  obtain ⟨rfl, rfl⟩ := trodVars_none hV
  clear hA0 hval0
  simp only [List.append_nil] at hW'
  obtain ⟨l0, hl0⟩ := open_bytes Tryz.underlying22 Tryz.underlying5 (by kernel_rfl) (hval 0 22 v0 rfl rfl) h0
  refine ((FnStepAcked_ok l0).calls_true rfl W [v0] (tabsW W hsh) (rel_one hl0)).mono fun e W' ⟨he, hb⟩ => ?_
  subst he
  have hlt : ∀ x ∈ p, x.block < W.heap.size := fun x hx => by simpa using hW'.lt x hx
  have hargs := Below.trod laidOut (by kernel_rfl) (of_decide_eq_true (by kernel_rfl)) h0 hb hlt
  exact ⟨_, rfl, ⟨_, _, _, [], _, [], hW', trodAll_mk1 (shut_bool Tryz.underlying4 _), trodAll_mk1 hargs, rfl, hb.frame _, fun h => by cases h⟩⟩

theorem closed : joinedFacts Tryz.prog 9 Tryz.f9 Rows.fnStepAckedSpec Rows.fnStepAckedRow = true := by
  have key : ∀ P : Program, P = Tryz.prog → P.mayEnter = true → P.liftsFinal = false → P.make = some .cut → joinedFacts P 9 Tryz.f9 Rows.fnStepAckedSpec Rows.fnStepAckedRow = true := by
    intro P hP h1 h2 h3
    unfold joinedFacts
    rw [h1, h2, h3]
    subst hP
    kernel_rfl
  exact key _ rfl enters finals makes

theorem proved : Rows.FnStepAckedSaid :=
  OpenClaim.holds_of_wide 9 Tryz.f9 rfl rfl rfl rfl rfl rfl rfl ⟨rfl, rfl, rfl, rfl, rfl⟩ rfl rfl rfl rfl rfl (by kernel_rfl) Tryz.func9 closed
    (of_decide_eq_true (by kernel_rfl)) (by unfold Func.isWrapper; first | (rw [if_pos (by decide +kernel)]; kernel_rfl) | (rw [if_neg (by decide +kernel)]; exact ⟨rfl, rfl⟩))
    (fun os started H enc _ => lifted os started H enc)
end Go.Proofs.YtldoekmblpghmaaGreat.fnStepAcked
