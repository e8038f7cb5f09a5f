/-
  The law 'FnMonitorStray' is proved: it returns true whatever the input, and the input reads as it did. No condition.
-/
import Derived.Test.YtpcfbgeabehmbaaGreatQ31
import Derived.Test.YtpcfbgeabehmbaaGreatQ32
import Derived.Test.YtpcfbgeabehmbaaGreatRows
namespace Go.Proofs.YtpcfbgeabehmbaaGreat
set_option linter.all false
section
set_option maxRecDepth 100000
def ac_laws_FnMonitorStray : AF := ⟨[0, 2, 3, 4, 5, 6, 7, 8, 9, 11, 14, 34, 65], [.t 2],
  .seq (.region [⟨(.g 2), .mv (.c (.bool false)), none⟩])
  (.seq (.seq (.region [⟨(.l 12), .mv (.g 0), none⟩, ⟨(.l 13), .len (.l 12), none⟩, ⟨(.g 14), .bin .gtr (.l 13) (.c (.int .i64 1048576)), none⟩])
  (.cond (.g 14) (.seq (.region [⟨(.g 2), .mv (.c (.bool true)), none⟩])
   (.ret))
  (.skip)))
  (.seq (.region [⟨(.l 16), .mv (.g 0), none⟩, ⟨(.l 17), .call fn_spec_DrawMonitorStep [(.l 16)], none⟩, ⟨(.l 15), .mv (.l 17), none⟩, ⟨(.l 18), .extract (.l 15) 0, none⟩, ⟨(.l 19), .extract (.l 15) 1, none⟩, ⟨(.g 3), .alloc [(.int .i64 0), .nils, .nils], none⟩, ⟨.no, .store 3 (.g 3) (.l 18), none⟩, ⟨(.g 4), .mv (.l 19), none⟩])
  (.seq (.region [⟨(.l 20), .load true 3 (.g 3), none⟩, ⟨(.l 21), .mv (.g 4), none⟩, ⟨(.l 22), .call fn_impl_MonitorStep [(.l 20), (.l 21)], none⟩, ⟨(.g 5), .alloc [(.int .i64 0), .nils, .nils], none⟩, ⟨.no, .store 3 (.g 5) (.l 22), none⟩])
  (.seq (.region [⟨(.l 23), .load true 3 (.g 3), none⟩, ⟨(.l 24), .mv (.g 4), none⟩, ⟨(.l 25), .call fn_spec_MonitorStep [(.l 23), (.l 24)], none⟩, ⟨(.g 6), .alloc [(.int .i64 0), .nils, .nils], none⟩, ⟨.no, .store 3 (.g 6) (.l 25), none⟩])
  (.seq (.seq (.region [⟨(.l 26), .load true 3 (.g 5), none⟩, ⟨(.l 27), .load true 3 (.g 6), none⟩, ⟨(.l 28), .call fn_laws_sameMonitor [(.l 26), (.l 27)], none⟩, ⟨(.l 29), .un .not (.l 28), none⟩, ⟨(.l 30), .mv (.l 29), none⟩, ⟨(.l 31), .faddr 0 (.g 6), (some ((.l 30), false))⟩, ⟨(.l 32), .load false 1 (.l 31), (some ((.l 30), false))⟩, ⟨(.l 33), .bin .eql (.l 32) (.c (.int .i64 0)), (some ((.l 30), false))⟩, ⟨(.g 34), .pick (.l 30) (.c (.bool true)) (.l 33), none⟩])
  (.cond (.g 34) (.seq (.region [⟨(.l 35), .load true 3 (.g 5), none⟩, ⟨(.l 36), .load true 3 (.g 6), none⟩, ⟨(.l 37), .call fn_laws_sameMonitor [(.l 35), (.l 36)], none⟩, ⟨(.g 2), .mv (.l 37), none⟩])
   (.ret))
  (.skip)))
  (.seq (.region [⟨(.l 39), .mv (.g 4), none⟩, ⟨(.l 40), .call fn_impl_PacketGet [(.l 39)], none⟩, ⟨(.l 38), .mv (.l 40), none⟩, ⟨(.l 41), .extract (.l 38) 0, none⟩, ⟨(.l 42), .extract (.l 38) 1, none⟩, ⟨(.g 7), .alloc [(.int .i64 0), (.int .i64 0), (.int .i64 0), .nils], none⟩, ⟨.no, .store 4 (.g 7) (.l 41), none⟩, ⟨(.g 8), .mv (.l 42), none⟩])
  (.seq (.region [⟨(.l 44), .load true 3 (.g 3), none⟩, ⟨(.l 45), .faddr 0 (.g 7), none⟩, ⟨(.l 46), .load false 1 (.l 45), none⟩, ⟨(.l 47), .faddr 1 (.g 7), none⟩, ⟨(.l 48), .load false 1 (.l 47), none⟩, ⟨(.l 49), .call fn_impl_MonitorFind [(.l 44), (.l 46), (.l 48)], none⟩, ⟨(.l 43), .mv (.l 49), none⟩, ⟨(.l 50), .extract (.l 43) 0, none⟩, ⟨(.l 51), .extract (.l 43) 1, none⟩, ⟨(.g 9), .mv (.l 50), none⟩, ⟨(.l 10), .mv (.l 51), none⟩])
  (.seq (.seq (.region [⟨(.l 52), .mv (.g 8), none⟩, ⟨(.l 53), .bin .neq (.l 52) (.c (.int .i64 0)), none⟩, ⟨(.l 54), .mv (.l 53), none⟩, ⟨(.l 55), .mv (.g 9), (some ((.l 54), false))⟩, ⟨(.l 56), .bin .geq (.l 55) (.c (.int .i64 0)), (some ((.l 54), false))⟩, ⟨(.l 57), .pick (.l 54) (.c (.bool true)) (.l 56), none⟩, ⟨(.l 58), .mv (.l 57), none⟩, ⟨(.l 59), .faddr 3 (.g 7), (some ((.l 58), false))⟩, ⟨(.l 60), .load false 1 (.l 59), (some ((.l 58), false))⟩, ⟨(.l 61), .elS 3 (.l 60) (.c (.int .i64 0)), (some ((.l 58), false))⟩, ⟨(.l 62), .faddr 0 (.l 61), (some ((.l 58), false))⟩, ⟨(.l 63), .load false 1 (.l 62), (some ((.l 58), false))⟩, ⟨(.l 64), .bin .eql (.l 63) (.c (.int .i64 1)), (some ((.l 58), false))⟩, ⟨(.g 65), .pick (.l 58) (.c (.bool true)) (.l 64), none⟩])
  (.cond (.g 65) (.seq (.region [⟨(.g 2), .mv (.c (.bool true)), none⟩])
   (.ret))
  (.skip)))
  (.seq (.region [⟨(.l 66), .faddr 2 (.g 3), none⟩, ⟨(.l 67), .load false 1 (.l 66), none⟩, ⟨(.l 68), .len (.l 67), none⟩, ⟨(.g 11), .mv (.l 68), none⟩])
  (.seq (.region [⟨(.l 69), .faddr 1 (.g 5), none⟩, ⟨(.l 70), .load false 1 (.l 69), none⟩, ⟨(.l 71), .faddr 1 (.g 3), none⟩, ⟨(.l 72), .load false 1 (.l 71), none⟩, ⟨(.l 73), .call fn_laws_sameAssocs [(.l 70), (.l 72)], none⟩, ⟨(.l 74), .mv (.l 73), none⟩, ⟨(.l 75), .faddr 2 (.g 5), (some ((.l 74), true))⟩, ⟨(.l 76), .load false 1 (.l 75), (some ((.l 74), true))⟩, ⟨(.l 77), .len (.l 76), (some ((.l 74), true))⟩, ⟨(.l 78), .mv (.g 11), (some ((.l 74), true))⟩, ⟨(.l 79), .bin .add (.l 78) (.c (.int .i64 1)), (some ((.l 74), true))⟩, ⟨(.l 80), .bin .eql (.l 77) (.l 79), (some ((.l 74), true))⟩, ⟨(.l 81), .pick (.l 74) (.l 80) (.c (.bool false)), none⟩, ⟨(.l 82), .mv (.l 81), none⟩, ⟨(.l 83), .faddr 2 (.g 5), (some ((.l 82), true))⟩, ⟨(.l 84), .load false 1 (.l 83), (some ((.l 82), true))⟩, ⟨(.l 85), .mv (.g 11), (some ((.l 82), true))⟩, ⟨(.l 86), .elS 2 (.l 84) (.l 85), (some ((.l 82), true))⟩, ⟨(.l 87), .faddr 1 (.l 86), (some ((.l 82), true))⟩, ⟨(.l 88), .load false 1 (.l 87), (some ((.l 82), true))⟩, ⟨(.l 89), .bin .eql (.l 88) (.c (.int .i64 104)), (some ((.l 82), true))⟩, ⟨(.l 90), .pick (.l 82) (.l 89) (.c (.bool false)), none⟩, ⟨(.g 2), .mv (.l 90), none⟩])
  (.ret)))))))))))⟩
theorem ln_laws_FnMonitorStray : Linked Tryz.prog fn_laws_FnMonitorStray ac_laws_FnMonitorStray := ⟨Tryz.f14, _, Tryz.func14, rfl, by kernel_rfl, by kernel_rfl, by kernel_rfl, by kernel_rfl⟩
end
end Go.Proofs.YtpcfbgeabehmbaaGreat

namespace Go.Proofs.YtpcfbgeabehmbaaGreat
set_option linter.all false
section
set_option maxRecDepth 200000
set_option maxHeartbeats 8000000
attribute [-simp] List.getD_eq_getElem?_getD

theorem FnMonitorStray_ok (code : List UInt8) : Fn Tryz.prog fn_laws_FnMonitorStray [bsl code] [] (.bool true) [] := by
  obtain ⟨m, s, hm, hs, f1⟩ := DrawMonitorStep_ok code
  have hmf := hm.found
  have g1 := impl_MonitorStep_ok m s hm.bd (by omega) (by omega)
  have g2 := spec_MonitorStep_ok m s hm.bd (by omega) (by omega)
  have hyb := monS_bd hmf s
  have g3 := sameMonitor_self (monS m s) hyb
  have ht := monS_taken (m := m) (s := s)
  have gp := impl_PacketGet_ok s (by omega)
  have hb := text_stray (l := m.list) (t := s)
  have hgc := getP_ok (t := s)
  generalize monS m s = y at *
  simp only [mon_v] at f1 g1 g2 g3
  refine Fn.of_go ln_laws_FnMonitorStray rfl ?_
  simp [ac_laws_FnMonitorStray, bsl]
  refine goTest_dec (fun h0 => ?_) (fun h0 => ?_)
  · simp
    exact Ends.mk [] [] (by simp)
  simp
  refine goCall_eq f1 (by simp [bsl]) ?_
  simp
  refine goCall_eq g1 (by simp) ?_
  simp
  refine goCall_eq g2 (by simp) ?_
  simp
  refine goCall_eq g3 (by simp) ?_
  simp
  cases h1 : decide (y.records = 0)
  rotate_left
  · simp
    refine goCall_eq g3 (by simp) ?_
    simp
    exact Ends.mk [] [] (by simp)
  obtain ⟨hok, hy⟩ := ht h1
  have hok2 := mon_iff.2 hok
  simp
  generalize getP s = q at *
  obtain ⟨p, code⟩ := q
  simp only [resP, packet_v] at gp
  simp only at hb hgc
  have f2 := impl_MonitorFind_ok m p.src p.dst hm.bd
  have hw : whereS m p.src p.dst = (match findM m.list p.src p.dst with | none => (-1, false) | some k => ((k : Int), decide ((nth m.list k).src = p.dst))) := by unfold whereS; rw [if_pos hok2]; rfl
  simp only [mon_v] at f2
  refine goCall_eq gp (by simp) ?_
  simp
  refine goCall_eq f2 (by simp) ?_
  simp
  cases h2 : decide (code = 0)
  · simp
    exact Ends.mk [] [] (by simp)
  have h2 := of_decide_eq_true h2
  have hp := hgc h2
  have hpl := (packet_ok.1 hp).2.2.2.2.2
  have hc0 : 0 < p.chunks.length := by omega
  simp
  cases h3 : decide (0 ≤ (whereS m p.src p.dst).1)
  rotate_left
  · simp
    exact Ends.mk [] [] (by simp)
  have hfm : findM m.list p.src p.dst = none := by
    cases e : findM m.list p.src p.dst with
    | none => rfl
    | some k =>
      rw [hw, e] at h3
      exact absurd (of_decide_eq_false h3) (by simp)
  simp [hc0, chunk_v]
  cases h4 : decide ((nth p.chunks 0).kind = 1)
  rotate_left
  · simp
    exact Ends.mk [] [] (by simp)
  have hb := hb h2 hfm (of_decide_eq_false h4)
  rw [hb] at hy
  have hl : y.list = m.list := by rw [hy]
  have hf : y.found = m.found ++ [(m.records, 104)] := by rw [hy]; rfl
  have hfl : y.found.length = m.found.length + 1 := by rw [hf]; simp
  have hn : nth y.found m.found.length = (m.records, 104) := by
    rw [nth_eq (by omega)]
    simp [hf]
  have a1 := sameAssocs_self m.list (by have := hm.bd.len; omega) hm.bd.each
  simp only [asl] at a1
  have hlt : m.found.length < y.found.length := by omega
  simp [hl]
  refine goCall_eq a1 (by simp) ?_
  simp [hfl, hn, hlt, fV]
  refine ⟨by omega, by omega, ?_⟩
  exact Ends.mk [] [] (by simp)
end
end Go.Proofs.YtpcfbgeabehmbaaGreat

namespace Go.Proofs.YtpcfbgeabehmbaaGreat.fnMonitorStray
set_option linter.all false
open Go.ChangeShapes Go.WideShapes Go.ChangeAt Go.RowKit

theorem own : ownKnob Tryz.prog.godebug = none := by kernel_rfl
theorem laidOut : laidOutB Tryz.prog = true := by kernel_rfl

set_option maxRecDepth 100000 in
theorem lifted (os : Os) (started : os.Started) (H : Type) (enc : TypeId × Value → H) :
    ReturnsInHanded {} Tryz.checked os 14 .any (Rows.fnMonitorStraySpec.pre6 enc Tryz.prog Tryz.f14 Rows.fnMonitorStrayRow.domain false) (Rows.fnMonitorStraySpec.post enc Tryz.prog Tryz.f14 false true false false) := by
  refine returnsInHanded_of_change_shaped (C := Tryz.checked) own started (by kernel_rfl) Tryz.func14
    (ChangeSpec.witness6 (enc := enc) (C := Tryz.checked) false ⟨#[], #[.slice none 0 0], []⟩ 8 (by kernel_rfl) (by kernel_rfl) (by kernel_rfl) (by kernel_rfl)) ?_
  intro W base args ds gs before hval0 hW _ _ hsh _
  have hval : ∀ (j : Nat) t v, Tryz.f14.params[j]? = some t → args[j]? = some v → Value.okWide Tryz.prog W .any base t v := hval0
  have hW' := hW
  obtain ⟨p, q, hA0, hV, rfl, hfz, hnd⟩ := hW
  have hA : DataW.TrodAll enc Tryz.prog W 0 (fun _ => true) true Tryz.f14.params.toList args.toList ds p := hA0
  rw [Tryz.params14] at hA hval
  obtain ⟨v0, d0, rfl, rfl, h0⟩ := trodAll_one hA
  obtain ⟨rfl, rfl⟩ := trodVars_none hV
  clear hA0 hval0
  simp only [List.append_nil] at hW'
  obtain ⟨l0, hl0⟩ := open_bytes Tryz.underlying22 Tryz.underlying5 (by kernel_rfl) (hval 0 22 v0 rfl rfl) h0
  refine ((FnMonitorStray_ok l0).calls_true rfl W [v0] (tabsW W hsh) (rel_one hl0)).mono fun e W' ⟨he, hb⟩ => ?_
  subst he
  have hlt : ∀ x ∈ p, x.block < W.heap.size := fun x hx => by simpa using hW'.lt x hx
  have hargs := Below.trod laidOut (by kernel_rfl) (of_decide_eq_true (by kernel_rfl)) h0 hb hlt
  exact ⟨_, rfl, ⟨_, _, _, [], _, [], hW', trodAll_mk1 (shut_bool Tryz.underlying4 _), trodAll_mk1 hargs, rfl, hb.frame _, fun h => by cases h⟩⟩

theorem closed : joinedFacts Tryz.prog 14 Tryz.f14 Rows.fnMonitorStraySpec Rows.fnMonitorStrayRow = true := by
  have key : ∀ P : Program, P = Tryz.prog → P.mayEnter = true → P.liftsFinal = false → P.make = some .cut → joinedFacts P 14 Tryz.f14 Rows.fnMonitorStraySpec Rows.fnMonitorStrayRow = true := by
    intro P hP h1 h2 h3
    unfold joinedFacts
    rw [h1, h2, h3]
    subst hP
    kernel_rfl
  exact key _ rfl enters finals makes

theorem proved : Rows.FnMonitorStraySaid :=
  OpenClaim.holds_of_wide 14 Tryz.f14 rfl rfl rfl rfl rfl rfl rfl ⟨rfl, rfl, rfl, rfl, rfl⟩ rfl rfl rfl rfl rfl (by kernel_rfl) Tryz.func14 closed
    (of_decide_eq_true (by kernel_rfl)) (by unfold Func.isWrapper; first | (rw [if_pos (by decide +kernel)]; kernel_rfl) | (rw [if_neg (by decide +kernel)]; exact ⟨rfl, rfl⟩))
    (fun os started H enc _ => lifted os started H enc)
end Go.Proofs.YtpcfbgeabehmbaaGreat.fnMonitorStray
