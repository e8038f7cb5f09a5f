/-
  The law 'FnStepSaid' is proved: it returns true whatever the input, and the input reads as it did. No condition.
-/
import Derived.Test.YtldoekmblpghmaaGreatQ29
import Derived.Test.YtldoekmblpghmaaGreatRows
namespace Go.Proofs.YtldoekmblpghmaaGreat
set_option linter.all false
section
set_option maxRecDepth 100000
def ac_laws_FnStepSaid : AF := ⟨[0, 2, 3, 4, 5, 6, 7, 8, 9, 10, 11, 12, 15, 47], [.t 2],
  .seq (.region [⟨(.g 2), .mv (.c (.bool false)), none⟩])
  (.seq (.seq (.region [⟨(.l 13), .mv (.g 0), none⟩, ⟨(.l 14), .len (.l 13), none⟩, ⟨(.g 15), .bin .gtr (.l 14) (.c (.int .i64 1048576)), none⟩])
  (.cond (.g 15) (.seq (.region [⟨(.g 2), .mv (.c (.bool true)), none⟩])
   (.ret))
  (.skip)))
  (.seq (.region [⟨(.l 17), .mv (.g 0), none⟩, ⟨(.l 18), .call fn_spec_DrawAssocStep [(.l 17)], none⟩, ⟨(.l 16), .mv (.l 18), none⟩, ⟨(.l 19), .extract (.l 16) 0, none⟩, ⟨(.l 20), .extract (.l 16) 1, none⟩, ⟨(.g 3), .alloc [(.int .i64 0), (.int .i64 0), (.int .i64 0), (.bool false), (.int .i64 0), (.int .i64 0), (.int .i64 0), .nils, (.int .i64 0), (.int .i64 0), (.int .i64 0), (.int .i64 0), .nils, (.int .i64 0)], none⟩, ⟨(.g 4), .alloc [(.int .i64 0), (.int .i64 0), (.int .i64 0), .nils], none⟩, ⟨.no, .store 14 (.g 3) (.l 19), none⟩, ⟨.no, .store 4 (.g 4) (.l 20), none⟩])
  (.seq (.region [⟨(.l 22), .load true 14 (.g 3), none⟩, ⟨(.l 23), .load true 4 (.g 4), none⟩, ⟨(.l 24), .call fn_impl_AssocStep [(.l 22), (.l 23)], none⟩, ⟨(.l 21), .mv (.l 24), none⟩, ⟨(.l 25), .extract (.l 21) 0, none⟩, ⟨(.l 26), .extract (.l 21) 1, none⟩, ⟨(.g 5), .alloc [(.int .i64 0), (.int .i64 0), (.int .i64 0), (.bool false), (.int .i64 0), (.int .i64 0), (.int .i64 0), .nils, (.int .i64 0), (.int .i64 0), (.int .i64 0), (.int .i64 0), .nils, (.int .i64 0)], none⟩, ⟨.no, .store 14 (.g 5) (.l 25), none⟩, ⟨(.g 6), .mv (.l 26), none⟩])
  (.seq (.region [⟨(.l 28), .load true 14 (.g 3), none⟩, ⟨(.l 29), .load true 4 (.g 4), none⟩, ⟨(.l 30), .call fn_spec_AssocStep [(.l 28), (.l 29)], none⟩, ⟨(.l 27), .mv (.l 30), none⟩, ⟨(.l 31), .extract (.l 27) 0, none⟩, ⟨(.l 32), .extract (.l 27) 1, none⟩, ⟨(.g 7), .alloc [(.int .i64 0), (.int .i64 0), (.int .i64 0), (.bool false), (.int .i64 0), (.int .i64 0), (.int .i64 0), .nils, (.int .i64 0), (.int .i64 0), (.int .i64 0), (.int .i64 0), .nils, (.int .i64 0)], none⟩, ⟨.no, .store 14 (.g 7) (.l 31), none⟩, ⟨(.g 8), .mv (.l 32), none⟩])
  (.seq (.seq (.region [⟨(.l 33), .mv (.g 6), none⟩, ⟨(.l 34), .mv (.g 8), none⟩, ⟨(.l 35), .call fn_laws_sameInts [(.l 33), (.l 34)], none⟩, ⟨(.l 36), .un .not (.l 35), none⟩, ⟨(.l 37), .mv (.l 36), none⟩, ⟨(.l 38), .load true 14 (.g 5), (some ((.l 37), false))⟩, ⟨(.l 39), .load true 14 (.g 7), (some ((.l 37), false))⟩, ⟨(.l 40), .call fn_laws_sameAssoc [(.l 38), (.l 39)], (some ((.l 37), false))⟩, ⟨(.l 41), .un .not (.l 40), (some ((.l 37), false))⟩, ⟨(.l 42), .pick (.l 37) (.c (.bool true)) (.l 41), none⟩, ⟨(.l 43), .mv (.l 42), none⟩, ⟨(.l 44), .faddr 0 (.g 7), (some ((.l 43), false))⟩, ⟨(.l 45), .load false 1 (.l 44), (some ((.l 43), false))⟩, ⟨(.l 46), .bin .eql (.l 45) (.c (.int .i64 0)), (some ((.l 43), false))⟩, ⟨(.g 47), .pick (.l 43) (.c (.bool true)) (.l 46), none⟩])
  (.cond (.g 47) (.seq (.region [⟨(.l 48), .mv (.g 6), none⟩, ⟨(.l 49), .mv (.g 8), none⟩, ⟨(.l 50), .call fn_laws_sameInts [(.l 48), (.l 49)], none⟩, ⟨(.l 51), .mv (.l 50), none⟩, ⟨(.l 52), .load true 14 (.g 5), (some ((.l 51), true))⟩, ⟨(.l 53), .load true 14 (.g 7), (some ((.l 51), true))⟩, ⟨(.l 54), .call fn_laws_sameAssoc [(.l 52), (.l 53)], (some ((.l 51), true))⟩, ⟨(.l 55), .pick (.l 51) (.l 54) (.c (.bool false)), none⟩, ⟨(.g 2), .mv (.l 55), none⟩])
   (.ret))
  (.skip)))
  (.seq (.region [⟨(.l 56), .faddr 4 (.g 3), none⟩, ⟨(.l 57), .load true 5 (.l 56), none⟩, ⟨(.l 58), .call fn_impl_SideSaid [(.l 57)], none⟩, ⟨(.g 9), .mv (.l 58), none⟩])
  (.seq (.region [⟨(.l 59), .faddr 4 (.g 5), none⟩, ⟨(.l 60), .load true 5 (.l 59), none⟩, ⟨(.l 61), .call fn_impl_SideSaid [(.l 60)], none⟩, ⟨(.g 10), .mv (.l 61), none⟩])
  (.seq (.region [⟨(.l 62), .faddr 9 (.g 3), none⟩, ⟨(.l 63), .load true 5 (.l 62), none⟩, ⟨(.l 64), .call fn_impl_SideKnown [(.l 63)], none⟩, ⟨(.g 11), .mv (.l 64), none⟩])
  (.seq (.region [⟨(.l 65), .faddr 9 (.g 5), none⟩, ⟨(.l 66), .load true 5 (.l 65), none⟩, ⟨(.l 67), .call fn_impl_SideKnown [(.l 66)], none⟩, ⟨(.g 12), .mv (.l 67), none⟩])
  (.seq (.region [⟨(.l 68), .mv (.g 9), none⟩, ⟨(.l 69), .len (.l 68), none⟩, ⟨(.l 70), .mv (.g 10), none⟩, ⟨(.l 71), .len (.l 70), none⟩, ⟨(.l 72), .bin .leq (.l 69) (.l 71), none⟩, ⟨(.l 73), .mv (.l 72), none⟩, ⟨(.l 74), .mv (.g 10), (some ((.l 73), true))⟩, ⟨(.l 75), .mv (.g 9), (some ((.l 73), true))⟩, ⟨(.l 76), .len (.l 75), (some ((.l 73), true))⟩, ⟨(.l 77), .cutSl 4 (.l 74) none (some (.l 76)), (some ((.l 73), true))⟩, ⟨(.l 78), .mv (.g 9), (some ((.l 73), true))⟩, ⟨(.l 79), .call fn_laws_sameMessages [(.l 77), (.l 78)], (some ((.l 73), true))⟩, ⟨(.l 80), .pick (.l 73) (.l 79) (.c (.bool false)), none⟩, ⟨(.l 81), .mv (.l 80), none⟩, ⟨(.l 82), .mv (.g 11), (some ((.l 81), true))⟩, ⟨(.l 83), .len (.l 82), (some ((.l 81), true))⟩, ⟨(.l 84), .mv (.g 12), (some ((.l 81), true))⟩, ⟨(.l 85), .len (.l 84), (some ((.l 81), true))⟩, ⟨(.l 86), .bin .leq (.l 83) (.l 85), (some ((.l 81), true))⟩, ⟨(.l 87), .pick (.l 81) (.l 86) (.c (.bool false)), none⟩, ⟨(.l 88), .mv (.l 87), none⟩, ⟨(.l 89), .mv (.g 12), (some ((.l 88), true))⟩, ⟨(.l 90), .mv (.g 11), (some ((.l 88), true))⟩, ⟨(.l 91), .len (.l 90), (some ((.l 88), true))⟩, ⟨(.l 92), .cutSl 4 (.l 89) none (some (.l 91)), (some ((.l 88), true))⟩, ⟨(.l 93), .mv (.g 11), (some ((.l 88), true))⟩, ⟨(.l 94), .call fn_laws_sameMessages [(.l 92), (.l 93)], (some ((.l 88), true))⟩, ⟨(.l 95), .pick (.l 88) (.l 94) (.c (.bool false)), none⟩, ⟨(.g 2), .mv (.l 95), none⟩])
  (.ret)))))))))))⟩
theorem ln_laws_FnStepSaid : Linked Tryz.prog fn_laws_FnStepSaid ac_laws_FnStepSaid := ⟨Tryz.f14, _, Tryz.func14, rfl, by kernel_rfl, by kernel_rfl, by kernel_rfl, by kernel_rfl⟩
end
end Go.Proofs.YtldoekmblpghmaaGreat

namespace Go.Proofs.YtldoekmblpghmaaGreat
set_option linter.all false
section
set_option maxRecDepth 200000
set_option maxHeartbeats 8000000
attribute [-simp] List.getD_eq_getElem?_getD

theorem FnStepSaid_ok (code : List UInt8) : Fn Tryz.prog fn_laws_FnStepSaid [bsl code] [] (.bool true) [] := by
  obtain ⟨x, p, hx, hp, f1⟩ := DrawAssocStep_ok code
  have g1 := impl_AssocStep_ok x p hx.bd (by omega)
  have g2 := spec_AssocStep_ok x p hx.bd (by omega)
  have g3 := sameInts_self (stepS x p).2 (by have := stepS_len x p; omega)
  have g4 := sameAssoc_self (stepS x p).1 (stepS_bd p)
  have hm := srcN (x := x) (p := p)
  have hbd := stepS_bd (x := x) p
  have hln := stepS_len x p
  have k := stepS_keeps (x := x) (p := p)
  have k2 := stepS_ok (x := x) (p := p)
  generalize stepS x p = r at *
  obtain ⟨y, rl⟩ := r
  simp only at hm hbd hln k k2
  simp only [assoc_v, packet_v, isl] at f1 g1 g2 g3 g4
  refine Fn.of_go ln_laws_FnStepSaid rfl ?_
  simp [ac_laws_FnStepSaid, bsl]
  refine goTest_dec (fun h0 => ?_) (fun h0 => ?_)
  · simp
    exact Ends.mk [] [] (by simp)
  simp
  refine goCall_eq f1 (by simp [bsl]) ?_
  simp
  refine goCall_eq g1 (by simp) ?_
  simp
  refine goCall_eq g2 (by simp) ?_
  simp
  refine goCall_eq g3 (by simp) ?_
  simp
  refine goCall_eq g4 (by simp) ?_
  simp
  cases h1 : decide (y.src = 0)
  rotate_left
  · simp
    refine goCall_eq g3 (by simp) ?_
    simp
    refine goCall_eq g4 (by simp) ?_
    simp
    exact Ends.mk [] [] (by simp)
  have hm := hm h1
  simp
  have k := k hm
  have hxo := (mine_iff.1 hm).1
  have hyo := k2 hm
  have ax := (Assoc.ok_side hxo false).1
  have ay := (Assoc.ok_side hyo false).1
  have bx := (Assoc.ok_side hxo true).1
  have by' := (Assoc.ok_side hyo true).1
  simp only [Assoc.side, if_true, Bool.false_eq_true, if_false] at ax ay bx by'
  have g5 := SideSaid_ok x.a hx.bd.1 ax
  have g6 := SideSaid_ok y.a hbd.1 ay
  have g7 := SideKnown_ok x.b hx.bd.2 bx
  have g8 := SideKnown_ok y.b hbd.2 by'
  obtain ⟨p1, p2⟩ := step_said hxo hyo k
  have hal : (saidS x.a).length ≤ 1000 := by
    unfold saidS; rw [if_pos ax]
    have := saidF_len x.a.sent []
    have := (Side.ok_first ax).2.1
    omega
  have hbl : (knownS x.b).length ≤ 1000 := by
    unfold knownS; rw [if_pos bx]
    have := saidF_len (x.b.sent.take x.b.acked.toNat) []
    have := (Side.ok_first bx).2.1
    simp at *
    omega
  have s1 := sameMessages_ok (saidS x.a) (saidS x.a) (by omega)
  have s2 := sameMessages_ok (knownS x.b) (knownS x.b) (by omega)
  have l1 := p1.length_le
  have l2 := p2.length_le
  have e1 : List.take (saidS x.a).length ((saidS y.a).map mV) = (saidS x.a).map mV := by rw [← List.map_take, ← List.prefix_iff_eq_take.1 p1]
  have e2 : List.take (knownS x.b).length ((knownS y.b).map mV) = (knownS x.b).map mV := by rw [← List.map_take, ← List.prefix_iff_eq_take.1 p2]
  generalize saidS x.a = u1 at *
  generalize saidS y.a = u2 at *
  generalize knownS x.b = u3 at *
  generalize knownS y.b = u4 at *
  simp only [side_v, msl, decide_true] at g5 g6 g7 g8 s1 s2
  refine goCall_eq g5 (by simp) ?_
  simp
  refine goCall_eq g6 (by simp) ?_
  simp
  refine goCall_eq g7 (by simp) ?_
  simp
  refine goCall_eq g8 (by simp) ?_
  simp [l1]
  rw [e1]
  refine goCall_eq s1 (by simp) ?_
  simp [l2]
  rw [e2]
  refine goCall_eq s2 (by simp) ?_
  simp
  exact Ends.mk [] [] (by simp)
end
end Go.Proofs.YtldoekmblpghmaaGreat

namespace Go.Proofs.YtldoekmblpghmaaGreat.fnStepSaid
set_option linter.all false
open Go.ChangeShapes Go.WideShapes Go.ChangeAt Go.RowKit

theorem own : ownKnob Tryz.prog.godebug = none := by kernel_rfl
theorem laidOut : laidOutB Tryz.prog = true := by kernel_rfl

set_option maxRecDepth 100000 in
theorem lifted (os : Os) (started : os.Started) (H : Type) (enc : TypeId × Value → H) :
    ReturnsInHanded {} Tryz.checked os 14 .any (Rows.fnStepSaidSpec.pre6 enc Tryz.prog Tryz.f14 Rows.fnStepSaidRow.domain false) (Rows.fnStepSaidSpec.post enc Tryz.prog Tryz.f14 false true false false) := by
  refine returnsInHanded_of_change_shaped (C := Tryz.checked) own started (by kernel_rfl) Tryz.func14
    (ChangeSpec.witness6 (enc := enc) (C := Tryz.checked) false ⟨#[], #[.slice none 0 0], []⟩ 8 (by kernel_rfl) (by kernel_rfl) (by kernel_rfl) (by kernel_rfl)) ?_
  intro W base args ds gs before hval0 hW _ _ hsh _
  have hval : ∀ (j : Nat) t v, Tryz.f14.params[j]? = some t → args[j]? = some v → Value.okWide Tryz.prog W .any base t v := hval0
  have hW' := hW
  obtain ⟨p, q, hA0, hV, rfl, hfz, hnd⟩ := hW
  have hA : DataW.TrodAll enc Tryz.prog W 0 (fun _ => true) true Tryz.f14.params.toList args.toList ds p := hA0
  rw [Tryz.params14] at hA hval
  obtain ⟨v0, d0, rfl, rfl, h0⟩ := trodAll_one hA
  obtain ⟨rfl, rfl⟩ := trodVars_none hV
  clear hA0 hval0
  simp only [List.append_nil] at hW'
  obtain ⟨l0, hl0⟩ := open_bytes Tryz.underlying22 Tryz.underlying5 (by kernel_rfl) (hval 0 22 v0 rfl rfl) h0
  refine ((FnStepSaid_ok l0).calls_true rfl W [v0] (tabsW W hsh) (rel_one hl0)).mono fun e W' ⟨he, hb⟩ => ?_
  subst he
  have hlt : ∀ x ∈ p, x.block < W.heap.size := fun x hx => by simpa using hW'.lt x hx
  have hargs := Below.trod laidOut (by kernel_rfl) (of_decide_eq_true (by kernel_rfl)) h0 hb hlt
  exact ⟨_, rfl, ⟨_, _, _, [], _, [], hW', trodAll_mk1 (shut_bool Tryz.underlying4 _), trodAll_mk1 hargs, rfl, hb.frame _, fun h => by cases h⟩⟩

theorem closed : joinedFacts Tryz.prog 14 Tryz.f14 Rows.fnStepSaidSpec Rows.fnStepSaidRow = true := by
  have key : ∀ P : Program, P = Tryz.prog → P.mayEnter = true → P.liftsFinal = false → P.make = some .cut → joinedFacts P 14 Tryz.f14 Rows.fnStepSaidSpec Rows.fnStepSaidRow = true := by
    intro P hP h1 h2 h3
    unfold joinedFacts
    rw [h1, h2, h3]
    subst hP
    kernel_rfl
  exact key _ rfl enters finals makes

theorem proved : Rows.FnStepSaidSaid :=
  OpenClaim.holds_of_wide 14 Tryz.f14 rfl rfl rfl rfl rfl rfl rfl ⟨rfl, rfl, rfl, rfl, rfl⟩ rfl rfl rfl rfl rfl (by kernel_rfl) Tryz.func14 closed
    (of_decide_eq_true (by kernel_rfl)) (by unfold Func.isWrapper; first | (rw [if_pos (by decide +kernel)]; kernel_rfl) | (rw [if_neg (by decide +kernel)]; exact ⟨rfl, rfl⟩))
    (fun os started H enc _ => lifted os started H enc)
end Go.Proofs.YtldoekmblpghmaaGreat.fnStepSaid
