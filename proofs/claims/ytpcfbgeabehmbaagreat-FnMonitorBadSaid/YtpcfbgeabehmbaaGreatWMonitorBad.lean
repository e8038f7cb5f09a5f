/-
  The law 'FnMonitorBad' is proved: it returns true whatever the input, and the input reads as it did. No condition.
-/
import Derived.Test.YtpcfbgeabehmbaaGreatQ31
import Derived.Test.YtpcfbgeabehmbaaGreatQ32
import Derived.Test.YtpcfbgeabehmbaaGreatRows
namespace Go.Proofs.YtpcfbgeabehmbaaGreat
set_option linter.all false
section
set_option maxRecDepth 100000
def ac_laws_FnMonitorBad : AF := ⟨[0, 2, 3, 4, 5, 6, 8, 9, 12, 32, 42], [.t 2],
  .seq (.region [⟨(.g 2), .mv (.c (.bool false)), none⟩])
  (.seq (.seq (.region [⟨(.l 10), .mv (.g 0), none⟩, ⟨(.l 11), .len (.l 10), none⟩, ⟨(.g 12), .bin .gtr (.l 11) (.c (.int .i64 1048576)), none⟩])
  (.cond (.g 12) (.seq (.region [⟨(.g 2), .mv (.c (.bool true)), none⟩])
   (.ret))
  (.skip)))
  (.seq (.region [⟨(.l 14), .mv (.g 0), none⟩, ⟨(.l 15), .call fn_spec_DrawMonitorStep [(.l 14)], none⟩, ⟨(.l 13), .mv (.l 15), none⟩, ⟨(.l 16), .extract (.l 13) 0, none⟩, ⟨(.l 17), .extract (.l 13) 1, none⟩, ⟨(.g 3), .alloc [(.int .i64 0), .nils, .nils], none⟩, ⟨.no, .store 3 (.g 3) (.l 16), none⟩, ⟨(.g 4), .mv (.l 17), none⟩])
  (.seq (.region [⟨(.l 18), .load true 3 (.g 3), none⟩, ⟨(.l 19), .mv (.g 4), none⟩, ⟨(.l 20), .call fn_impl_MonitorStep [(.l 18), (.l 19)], none⟩, ⟨(.g 5), .alloc [(.int .i64 0), .nils, .nils], none⟩, ⟨.no, .store 3 (.g 5) (.l 20), none⟩])
  (.seq (.region [⟨(.l 21), .load true 3 (.g 3), none⟩, ⟨(.l 22), .mv (.g 4), none⟩, ⟨(.l 23), .call fn_spec_MonitorStep [(.l 21), (.l 22)], none⟩, ⟨(.g 6), .alloc [(.int .i64 0), .nils, .nils], none⟩, ⟨.no, .store 3 (.g 6) (.l 23), none⟩])
  (.seq (.seq (.region [⟨(.l 24), .load true 3 (.g 5), none⟩, ⟨(.l 25), .load true 3 (.g 6), none⟩, ⟨(.l 26), .call fn_laws_sameMonitor [(.l 24), (.l 25)], none⟩, ⟨(.l 27), .un .not (.l 26), none⟩, ⟨(.l 28), .mv (.l 27), none⟩, ⟨(.l 29), .faddr 0 (.g 6), (some ((.l 28), false))⟩, ⟨(.l 30), .load false 1 (.l 29), (some ((.l 28), false))⟩, ⟨(.l 31), .bin .eql (.l 30) (.c (.int .i64 0)), (some ((.l 28), false))⟩, ⟨(.g 32), .pick (.l 28) (.c (.bool true)) (.l 31), none⟩])
  (.cond (.g 32) (.seq (.region [⟨(.l 33), .load true 3 (.g 5), none⟩, ⟨(.l 34), .load true 3 (.g 6), none⟩, ⟨(.l 35), .call fn_laws_sameMonitor [(.l 33), (.l 34)], none⟩, ⟨(.g 2), .mv (.l 35), none⟩])
   (.ret))
  (.skip)))
  (.seq (.region [⟨(.l 37), .mv (.g 4), none⟩, ⟨(.l 38), .call fn_impl_PacketGet [(.l 37)], none⟩, ⟨(.l 36), .mv (.l 38), none⟩, ⟨(.l 39), .extract (.l 36) 0, none⟩, ⟨(.l 40), .extract (.l 36) 1, none⟩, ⟨(.l 7), .alloc [(.int .i64 0), (.int .i64 0), (.int .i64 0), .nils], none⟩, ⟨.no, .store 4 (.l 7) (.l 39), none⟩, ⟨(.g 8), .mv (.l 40), none⟩])
  (.seq (.seq (.region [⟨(.l 41), .mv (.g 8), none⟩, ⟨(.g 42), .bin .eql (.l 41) (.c (.int .i64 0)), none⟩])
  (.cond (.g 42) (.seq (.region [⟨(.g 2), .mv (.c (.bool true)), none⟩])
   (.ret))
  (.skip)))
  (.seq (.region [⟨(.l 43), .faddr 2 (.g 3), none⟩, ⟨(.l 44), .load false 1 (.l 43), none⟩, ⟨(.l 45), .len (.l 44), none⟩, ⟨(.g 9), .mv (.l 45), none⟩])
  (.seq (.region [⟨(.l 46), .faddr 1 (.g 5), none⟩, ⟨(.l 47), .load false 1 (.l 46), none⟩, ⟨(.l 48), .faddr 1 (.g 3), none⟩, ⟨(.l 49), .load false 1 (.l 48), none⟩, ⟨(.l 50), .call fn_laws_sameAssocs [(.l 47), (.l 49)], none⟩, ⟨(.l 51), .mv (.l 50), none⟩, ⟨(.l 52), .faddr 2 (.g 5), (some ((.l 51), true))⟩, ⟨(.l 53), .load false 1 (.l 52), (some ((.l 51), true))⟩, ⟨(.l 54), .len (.l 53), (some ((.l 51), true))⟩, ⟨(.l 55), .mv (.g 9), (some ((.l 51), true))⟩, ⟨(.l 56), .bin .add (.l 55) (.c (.int .i64 1)), (some ((.l 51), true))⟩, ⟨(.l 57), .bin .eql (.l 54) (.l 56), (some ((.l 51), true))⟩, ⟨(.l 58), .pick (.l 51) (.l 57) (.c (.bool false)), none⟩, ⟨(.l 59), .mv (.l 58), none⟩, ⟨(.l 60), .faddr 2 (.g 5), (some ((.l 59), true))⟩, ⟨(.l 61), .load false 1 (.l 60), (some ((.l 59), true))⟩, ⟨(.l 62), .mv (.g 9), (some ((.l 59), true))⟩, ⟨(.l 63), .elS 2 (.l 61) (.l 62), (some ((.l 59), true))⟩, ⟨(.l 64), .faddr 1 (.l 63), (some ((.l 59), true))⟩, ⟨(.l 65), .load false 1 (.l 64), (some ((.l 59), true))⟩, ⟨(.l 66), .mv (.g 8), (some ((.l 59), true))⟩, ⟨(.l 67), .bin .add (.c (.int .i64 101)) (.l 66), (some ((.l 59), true))⟩, ⟨(.l 68), .bin .sub (.l 67) (.c (.int .i64 1)), (some ((.l 59), true))⟩, ⟨(.l 69), .bin .eql (.l 65) (.l 68), (some ((.l 59), true))⟩, ⟨(.l 70), .pick (.l 59) (.l 69) (.c (.bool false)), none⟩, ⟨(.g 2), .mv (.l 70), none⟩])
  (.ret))))))))))⟩
theorem ln_laws_FnMonitorBad : Linked Tryz.prog fn_laws_FnMonitorBad ac_laws_FnMonitorBad := ⟨Tryz.f7, _, Tryz.func7, rfl, by kernel_rfl, by kernel_rfl, by kernel_rfl, by kernel_rfl⟩
end
end Go.Proofs.YtpcfbgeabehmbaaGreat

namespace Go.Proofs.YtpcfbgeabehmbaaGreat
set_option linter.all false
section
set_option maxRecDepth 200000
set_option maxHeartbeats 8000000
attribute [-simp] List.getD_eq_getElem?_getD

theorem FnMonitorBad_ok (code : List UInt8) : Fn Tryz.prog fn_laws_FnMonitorBad [bsl code] [] (.bool true) [] := by
  obtain ⟨m, s, hm, hs, f1⟩ := DrawMonitorStep_ok code
  have hmf := hm.found
  have g1 := impl_MonitorStep_ok m s hm.bd (by omega) (by omega)
  have g2 := spec_MonitorStep_ok m s hm.bd (by omega) (by omega)
  have hyb := monS_bd hmf s
  have g3 := sameMonitor_self (monS m s) hyb
  have ht := monS_taken (m := m) (s := s)
  have gp := impl_PacketGet_ok s (by omega)
  have hb := text_bad (l := m.list) (t := s)
  have hgc := getP_code s
  generalize monS m s = y at *
  simp only [mon_v] at f1 g1 g2 g3
  refine Fn.of_go ln_laws_FnMonitorBad rfl ?_
  simp [ac_laws_FnMonitorBad, bsl]
  refine goTest_dec (fun h0 => ?_) (fun h0 => ?_)
  · simp
    exact Ends.mk [] [] (by simp)
  simp
  refine goCall_eq f1 (by simp [bsl]) ?_
  simp
  refine goCall_eq g1 (by simp) ?_
  simp
  refine goCall_eq g2 (by simp) ?_
  simp
  refine goCall_eq g3 (by simp) ?_
  simp
  cases h1 : decide (y.records = 0)
  rotate_left
  · simp
    refine goCall_eq g3 (by simp) ?_
    simp
    exact Ends.mk [] [] (by simp)
  obtain ⟨hok, hy⟩ := ht h1
  have hok2 := mon_iff.2 hok
  simp
  generalize getP s = q at *
  obtain ⟨p, code⟩ := q
  simp only [resP, packet_v] at gp
  simp only at hb hgc
  refine goCall_eq gp (by simp) ?_
  simp
  refine goTest_dec (fun h2 => ?_) (fun h2 => ?_)
  · simp
    exact Ends.mk [] [] (by simp)
  have hb := hb h2
  rw [hb] at hy
  have hl : y.list = m.list := by rw [hy]
  have hf : y.found = m.found ++ [(m.records, 100 + code)] := by rw [hy]; rfl
  have hfl : y.found.length = m.found.length + 1 := by rw [hf]; simp
  have hn : nth y.found m.found.length = (m.records, 100 + code) := by
    rw [nth_eq (by omega)]
    simp [hf]
  have a1 := sameAssocs_self m.list (by have := hm.bd.len; omega) hm.bd.each
  simp only [asl] at a1
  have hlt : m.found.length < y.found.length := by omega
  simp [hl]
  refine goCall_eq a1 (by simp) ?_
  simp [hfl, hn, hlt, fV]
  refine ⟨by omega, by omega, by omega, by omega, ?_⟩
  exact Ends.mk [] [] (by simp; omega)
end
end Go.Proofs.YtpcfbgeabehmbaaGreat

namespace Go.Proofs.YtpcfbgeabehmbaaGreat.fnMonitorBad
set_option linter.all false
open Go.ChangeShapes Go.WideShapes Go.ChangeAt Go.RowKit

theorem own : ownKnob Tryz.prog.godebug = none := by kernel_rfl
theorem laidOut : laidOutB Tryz.prog = true := by kernel_rfl

set_option maxRecDepth 100000 in
theorem lifted (os : Os) (started : os.Started) (H : Type) (enc : TypeId × Value → H) :
    ReturnsInHanded {} Tryz.checked os 7 .any (Rows.fnMonitorBadSpec.pre6 enc Tryz.prog Tryz.f7 Rows.fnMonitorBadRow.domain false) (Rows.fnMonitorBadSpec.post enc Tryz.prog Tryz.f7 false true false false) := by
  refine returnsInHanded_of_change_shaped (C := Tryz.checked) own started (by kernel_rfl) Tryz.func7
    (ChangeSpec.witness6 (enc := enc) (C := Tryz.checked) false ⟨#[], #[.slice none 0 0], []⟩ 8 (by kernel_rfl) (by kernel_rfl) (by kernel_rfl) (by kernel_rfl)) ?_
  intro W base args ds gs before hval0 hW _ _ hsh _
  have hval : ∀ (j : Nat) t v, Tryz.f7.params[j]? = some t → args[j]? = some v → Value.okWide Tryz.prog W .any base t v := hval0
  have hW' := hW
  obtain ⟨p, q, hA0, hV, rfl, hfz, hnd⟩ := hW
  have hA : DataW.TrodAll enc Tryz.prog W 0 (fun _ => true) true Tryz.f7.params.toList args.toList ds p := hA0
  rw [Tryz.params7] at hA hval
  obtain ⟨v0, d0, rfl, rfl, h0⟩ := trodAll_one hA
  obtain ⟨rfl, rfl⟩ := trodVars_none hV
  clear hA0 hval0
  simp only [List.append_nil] at hW'
  obtain ⟨l0, hl0⟩ := open_bytes Tryz.underlying22 Tryz.underlying5 (by kernel_rfl) (hval 0 22 v0 rfl rfl) h0
  refine ((FnMonitorBad_ok l0).calls_true rfl W [v0] (tabsW W hsh) (rel_one hl0)).mono fun e W' ⟨he, hb⟩ => ?_
  subst he
  have hlt : ∀ x ∈ p, x.block < W.heap.size := fun x hx => by simpa using hW'.lt x hx
  have hargs := Below.trod laidOut (by kernel_rfl) (of_decide_eq_true (by kernel_rfl)) h0 hb hlt
  exact ⟨_, rfl, ⟨_, _, _, [], _, [], hW', trodAll_mk1 (shut_bool Tryz.underlying4 _), trodAll_mk1 hargs, rfl, hb.frame _, fun h => by cases h⟩⟩

theorem closed : joinedFacts Tryz.prog 7 Tryz.f7 Rows.fnMonitorBadSpec Rows.fnMonitorBadRow = true := by
  have key : ∀ P : Program, P = Tryz.prog → P.mayEnter = true → P.liftsFinal = false → P.make = some .cut → joinedFacts P 7 Tryz.f7 Rows.fnMonitorBadSpec Rows.fnMonitorBadRow = true := by
    intro P hP h1 h2 h3
    unfold joinedFacts
    rw [h1, h2, h3]
    subst hP
    kernel_rfl
  exact key _ rfl enters finals makes

theorem proved : Rows.FnMonitorBadSaid :=
  OpenClaim.holds_of_wide 7 Tryz.f7 rfl rfl rfl rfl rfl rfl rfl ⟨rfl, rfl, rfl, rfl, rfl⟩ rfl rfl rfl rfl rfl (by kernel_rfl) Tryz.func7 closed
    (of_decide_eq_true (by kernel_rfl)) (by unfold Func.isWrapper; first | (rw [if_pos (by decide +kernel)]; kernel_rfl) | (rw [if_neg (by decide +kernel)]; exact ⟨rfl, rfl⟩))
    (fun os started H enc _ => lifted os started H enc)
end Go.Proofs.YtpcfbgeabehmbaaGreat.fnMonitorBad
