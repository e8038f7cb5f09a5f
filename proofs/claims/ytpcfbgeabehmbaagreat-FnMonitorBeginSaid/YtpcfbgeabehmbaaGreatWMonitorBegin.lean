/-
  The law 'FnMonitorBegin' is proved: it returns true whatever the input, and the input reads as it did. No condition.
-/
import Derived.Test.YtpcfbgeabehmbaaGreatQ31
import Derived.Test.YtpcfbgeabehmbaaGreatQ32
import Derived.Test.YtpcfbgeabehmbaaGreatRows
namespace Go.Proofs.YtpcfbgeabehmbaaGreat
set_option linter.all false
section
set_option maxRecDepth 100000
def ac_laws_FnMonitorBegin : AF := ⟨[0, 2, 3, 4, 5, 6, 9, 38], [.t 2],
  .seq (.region [⟨(.g 2), .mv (.c (.bool false)), none⟩])
  (.seq (.seq (.region [⟨(.l 7), .mv (.g 0), none⟩, ⟨(.l 8), .len (.l 7), none⟩, ⟨(.g 9), .bin .gtr (.l 8) (.c (.int .i64 1048576)), none⟩])
  (.cond (.g 9) (.seq (.region [⟨(.g 2), .mv (.c (.bool true)), none⟩])
   (.ret))
  (.skip)))
  (.seq (.region [⟨(.l 11), .mv (.g 0), none⟩, ⟨(.l 12), .call fn_spec_DrawMonitorStep [(.l 11)], none⟩, ⟨(.l 10), .mv (.l 12), none⟩, ⟨(.l 13), .extract (.l 10) 0, none⟩, ⟨(.l 14), .extract (.l 10) 1, none⟩, ⟨(.g 3), .alloc [(.int .i64 0), .nils, .nils], none⟩, ⟨.no, .store 3 (.g 3) (.l 13), none⟩, ⟨(.g 4), .mv (.l 14), none⟩])
  (.seq (.region [⟨(.l 15), .load true 3 (.g 3), none⟩, ⟨(.l 16), .mv (.g 4), none⟩, ⟨(.l 17), .call fn_impl_MonitorStep [(.l 15), (.l 16)], none⟩, ⟨(.g 5), .alloc [(.int .i64 0), .nils, .nils], none⟩, ⟨.no, .store 3 (.g 5) (.l 17), none⟩])
  (.seq (.region [⟨(.l 18), .load true 3 (.g 3), none⟩, ⟨(.l 19), .mv (.g 4), none⟩, ⟨(.l 20), .call fn_spec_MonitorStep [(.l 18), (.l 19)], none⟩, ⟨(.g 6), .alloc [(.int .i64 0), .nils, .nils], none⟩, ⟨.no, .store 3 (.g 6) (.l 20), none⟩])
  (.seq (.seq (.region [⟨(.l 21), .load true 3 (.g 5), none⟩, ⟨(.l 22), .load true 3 (.g 6), none⟩, ⟨(.l 23), .call fn_laws_sameMonitor [(.l 21), (.l 22)], none⟩, ⟨(.l 24), .un .not (.l 23), none⟩, ⟨(.l 25), .mv (.l 24), none⟩, ⟨(.l 26), .faddr 0 (.g 6), (some ((.l 25), false))⟩, ⟨(.l 27), .load false 1 (.l 26), (some ((.l 25), false))⟩, ⟨(.l 28), .bin .eql (.l 27) (.c (.int .i64 0)), (some ((.l 25), false))⟩, ⟨(.l 29), .pick (.l 25) (.c (.bool true)) (.l 28), none⟩, ⟨(.l 30), .mv (.l 29), none⟩, ⟨(.l 31), .faddr 1 (.g 6), (some ((.l 30), false))⟩, ⟨(.l 32), .load false 1 (.l 31), (some ((.l 30), false))⟩, ⟨(.l 33), .len (.l 32), (some ((.l 30), false))⟩, ⟨(.l 34), .faddr 1 (.g 3), (some ((.l 30), false))⟩, ⟨(.l 35), .load false 1 (.l 34), (some ((.l 30), false))⟩, ⟨(.l 36), .len (.l 35), (some ((.l 30), false))⟩, ⟨(.l 37), .bin .leq (.l 33) (.l 36), (some ((.l 30), false))⟩, ⟨(.g 38), .pick (.l 30) (.c (.bool true)) (.l 37), none⟩])
  (.cond (.g 38) (.seq (.region [⟨(.l 39), .load true 3 (.g 5), none⟩, ⟨(.l 40), .load true 3 (.g 6), none⟩, ⟨(.l 41), .call fn_laws_sameMonitor [(.l 39), (.l 40)], none⟩, ⟨(.g 2), .mv (.l 41), none⟩])
   (.ret))
  (.skip)))
  (.seq (.region [⟨(.l 42), .faddr 1 (.g 5), none⟩, ⟨(.l 43), .load false 1 (.l 42), none⟩, ⟨(.l 44), .len (.l 43), none⟩, ⟨(.l 45), .faddr 1 (.g 3), none⟩, ⟨(.l 46), .load false 1 (.l 45), none⟩, ⟨(.l 47), .len (.l 46), none⟩, ⟨(.l 48), .bin .add (.l 47) (.c (.int .i64 1)), none⟩, ⟨(.l 49), .bin .eql (.l 44) (.l 48), none⟩, ⟨(.l 50), .mv (.l 49), none⟩, ⟨(.l 51), .faddr 1 (.g 5), (some ((.l 50), true))⟩, ⟨(.l 52), .load false 1 (.l 51), (some ((.l 50), true))⟩, ⟨(.l 53), .faddr 1 (.g 3), (some ((.l 50), true))⟩, ⟨(.l 54), .load false 1 (.l 53), (some ((.l 50), true))⟩, ⟨(.l 55), .len (.l 54), (some ((.l 50), true))⟩, ⟨(.l 56), .elS 14 (.l 52) (.l 55), (some ((.l 50), true))⟩, ⟨(.l 57), .faddr 2 (.l 56), (some ((.l 50), true))⟩, ⟨(.l 58), .load false 1 (.l 57), (some ((.l 50), true))⟩, ⟨(.l 59), .bin .eql (.l 58) (.c (.int .i64 1)), (some ((.l 50), true))⟩, ⟨(.l 60), .pick (.l 50) (.l 59) (.c (.bool false)), none⟩, ⟨(.l 61), .mv (.l 60), none⟩, ⟨(.l 62), .faddr 2 (.g 5), (some ((.l 61), true))⟩, ⟨(.l 63), .load false 1 (.l 62), (some ((.l 61), true))⟩, ⟨(.l 64), .faddr 2 (.g 3), (some ((.l 61), true))⟩, ⟨(.l 65), .load false 1 (.l 64), (some ((.l 61), true))⟩, ⟨(.l 66), .call fn_laws_sameFound [(.l 63), (.l 65)], (some ((.l 61), true))⟩, ⟨(.l 67), .pick (.l 61) (.l 66) (.c (.bool false)), none⟩, ⟨(.g 2), .mv (.l 67), none⟩])
  (.ret)))))))⟩
theorem ln_laws_FnMonitorBegin : Linked Tryz.prog fn_laws_FnMonitorBegin ac_laws_FnMonitorBegin := ⟨Tryz.f8, _, Tryz.func8, rfl, by kernel_rfl, by kernel_rfl, by kernel_rfl, by kernel_rfl⟩
end
end Go.Proofs.YtpcfbgeabehmbaaGreat

namespace Go.Proofs.YtpcfbgeabehmbaaGreat
set_option linter.all false
section
set_option maxRecDepth 200000
set_option maxHeartbeats 8000000
attribute [-simp] List.getD_eq_getElem?_getD

theorem FnMonitorBegin_ok (code : List UInt8) : Fn Tryz.prog fn_laws_FnMonitorBegin [bsl code] [] (.bool true) [] := by
  obtain ⟨m, s, hm, hs, f1⟩ := DrawMonitorStep_ok code
  have hmf := hm.found
  have g1 := impl_MonitorStep_ok m s hm.bd (by omega) (by omega)
  have g2 := spec_MonitorStep_ok m s hm.bd (by omega) (by omega)
  have hyb := monS_bd hmf s
  have g3 := sameMonitor_self (monS m s) hyb
  have ht := monS_taken (m := m) (s := s)
  generalize monS m s = y at *
  simp only [mon_v] at f1 g1 g2 g3
  refine Fn.of_go ln_laws_FnMonitorBegin rfl ?_
  simp [ac_laws_FnMonitorBegin, bsl]
  refine goTest_dec (fun h0 => ?_) (fun h0 => ?_)
  · simp
    exact Ends.mk [] [] (by simp)
  simp
  refine goCall_eq f1 (by simp [bsl]) ?_
  simp
  refine goCall_eq g1 (by simp) ?_
  simp
  refine goCall_eq g2 (by simp) ?_
  simp
  refine goCall_eq g3 (by simp) ?_
  simp
  cases h1 : decide (y.records = 0)
  rotate_left
  · simp
    refine goCall_eq g3 (by simp) ?_
    simp
    exact Ends.mk [] [] (by simp)
  obtain ⟨hok, hy⟩ := ht h1
  have hok2 := mon_iff.2 hok
  simp
  cases h2 : decide (y.list.length ≤ m.list.length)
  rotate_left
  · simp
    refine goCall_eq g3 (by simp) ?_
    simp
    exact Ends.mk [] [] (by simp)
  have h2 := of_decide_eq_false h2
  have hyl : y.list = (textL m.list s).1 := by rw [hy]
  have hg := text_grow (l := m.list) hok.len (t := s) (by rw [← hyl]; omega)
  obtain ⟨z, hz, e⟩ := hg
  rw [e] at hy
  have hl : y.list = m.list ++ [z] := by rw [hy]
  have hf : y.found = m.found := by rw [hy]; simp
  have hll : y.list.length = m.list.length + 1 := by rw [hl]; simp
  have hn : nth y.list m.list.length = z := by
    rw [nth_eq (by omega)]
    simp [hl]
  have f2 := sameFound_self m.found (by omega)
  simp only [fsl] at f2
  have hlt : m.list.length < y.list.length := by omega
  simp [hll, hn, hlt, assoc_v, hz, hf]
  have hml := hm.len
  refine ⟨by omega, by omega, ?_⟩
  refine goCall_eq f2 (by simp) ?_
  simp
  exact Ends.mk [] [] (by simp)
end
end Go.Proofs.YtpcfbgeabehmbaaGreat

namespace Go.Proofs.YtpcfbgeabehmbaaGreat.fnMonitorBegin
set_option linter.all false
open Go.ChangeShapes Go.WideShapes Go.ChangeAt Go.RowKit

theorem own : ownKnob Tryz.prog.godebug = none := by kernel_rfl
theorem laidOut : laidOutB Tryz.prog = true := by kernel_rfl

set_option maxRecDepth 100000 in
theorem lifted (os : Os) (started : os.Started) (H : Type) (enc : TypeId × Value → H) :
    ReturnsInHanded {} Tryz.checked os 8 .any (Rows.fnMonitorBeginSpec.pre6 enc Tryz.prog Tryz.f8 Rows.fnMonitorBeginRow.domain false) (Rows.fnMonitorBeginSpec.post enc Tryz.prog Tryz.f8 false true false false) := by
  refine returnsInHanded_of_change_shaped (C := Tryz.checked) own started (by kernel_rfl) Tryz.func8
    (ChangeSpec.witness6 (enc := enc) (C := Tryz.checked) false ⟨#[], #[.slice none 0 0], []⟩ 8 (by kernel_rfl) (by kernel_rfl) (by kernel_rfl) (by kernel_rfl)) ?_
  intro W base args ds gs before hval0 hW _ _ hsh _
  have hval : ∀ (j : Nat) t v, Tryz.f8.params[j]? = some t → args[j]? = some v → Value.okWide Tryz.prog W .any base t v := hval0
  have hW' := hW
  obtain ⟨p, q, hA0, hV, rfl, hfz, hnd⟩ := hW
  have hA : DataW.TrodAll enc Tryz.prog W 0 (fun _ => true) true Tryz.f8.params.toList args.toList ds p := hA0
  rw [Tryz.params8] at hA hval
  obtain ⟨v0, d0, rfl, rfl, h0⟩ := trodAll_one hA
  obtain ⟨rfl, rfl⟩ := trodVars_none hV
  clear hA0 hval0
  simp only [List.append_nil] at hW'
  obtain ⟨l0, hl0⟩ := open_bytes Tryz.underlying22 Tryz.underlying5 (by kernel_rfl) (hval 0 22 v0 rfl rfl) h0
  refine ((FnMonitorBegin_ok l0).calls_true rfl W [v0] (tabsW W hsh) (rel_one hl0)).mono fun e W' ⟨he, hb⟩ => ?_
  subst he
  have hlt : ∀ x ∈ p, x.block < W.heap.size := fun x hx => by simpa using hW'.lt x hx
  have hargs := Below.trod laidOut (by kernel_rfl) (of_decide_eq_true (by kernel_rfl)) h0 hb hlt
  exact ⟨_, rfl, ⟨_, _, _, [], _, [], hW', trodAll_mk1 (shut_bool Tryz.underlying4 _), trodAll_mk1 hargs, rfl, hb.frame _, fun h => by cases h⟩⟩

theorem closed : joinedFacts Tryz.prog 8 Tryz.f8 Rows.fnMonitorBeginSpec Rows.fnMonitorBeginRow = true := by
  have key : ∀ P : Program, P = Tryz.prog → P.mayEnter = true → P.liftsFinal = false → P.make = some .cut → joinedFacts P 8 Tryz.f8 Rows.fnMonitorBeginSpec Rows.fnMonitorBeginRow = true := by
    intro P hP h1 h2 h3
    unfold joinedFacts
    rw [h1, h2, h3]
    subst hP
    kernel_rfl
  exact key _ rfl enters finals makes

theorem proved : Rows.FnMonitorBeginSaid :=
  OpenClaim.holds_of_wide 8 Tryz.f8 rfl rfl rfl rfl rfl rfl rfl ⟨rfl, rfl, rfl, rfl, rfl⟩ rfl rfl rfl rfl rfl (by kernel_rfl) Tryz.func8 closed
    (of_decide_eq_true (by kernel_rfl)) (by unfold Func.isWrapper; first | (rw [if_pos (by decide +kernel)]; kernel_rfl) | (rw [if_neg (by decide +kernel)]; exact ⟨rfl, rfl⟩))
    (fun os started H enc _ => lifted os started H enc)
end Go.Proofs.YtpcfbgeabehmbaaGreat.fnMonitorBegin
