/-
  The law 'FnMonitorRun' is proved: it returns true whatever the input, and the input reads as it did. No condition.
-/
import Derived.Test.YtpcfbgeabehmbaaGreatV32
import Derived.Test.YtpcfbgeabehmbaaGreatRows
namespace Go.Proofs.YtpcfbgeabehmbaaGreat
set_option linter.all false
section
set_option maxRecDepth 100000
def ac_laws_FnMonitorRun : AF := ⟨[0, 2, 3, 4, 5, 6, 7, 10, 25, 33], [.t 2],
  .seq (.region [⟨(.g 2), .mv (.c (.bool false)), none⟩])
  (.seq (.seq (.region [⟨(.l 8), .mv (.g 0), none⟩, ⟨(.l 9), .len (.l 8), none⟩, ⟨(.g 10), .bin .gtr (.l 9) (.c (.int .i64 1048576)), none⟩])
  (.cond (.g 10) (.seq (.region [⟨(.g 2), .mv (.c (.bool true)), none⟩])
   (.ret))
  (.skip)))
  (.seq (.region [⟨(.l 11), .mv (.g 0), none⟩, ⟨(.l 12), .call fn_spec_DrawMonitorRun [(.l 11)], none⟩, ⟨(.g 3), .mv (.l 12), none⟩])
  (.seq (.region [⟨(.l 13), .mv (.g 3), none⟩, ⟨(.l 14), .call fn_impl_MonitorRun [(.l 13)], none⟩, ⟨(.g 4), .alloc [(.int .i64 0), .nils, .nils], none⟩, ⟨.no, .store 3 (.g 4) (.l 14), none⟩])
  (.seq (.region [⟨(.l 15), .mv (.g 3), none⟩, ⟨(.l 16), .call fn_spec_MonitorRun [(.l 15)], none⟩, ⟨(.g 5), .alloc [(.int .i64 0), .nils, .nils], none⟩, ⟨.no, .store 3 (.g 5) (.l 16), none⟩])
  (.seq (.seq (.region [⟨(.l 17), .load true 3 (.g 4), none⟩, ⟨(.l 18), .load true 3 (.g 5), none⟩, ⟨(.l 19), .call fn_laws_sameMonitor [(.l 17), (.l 18)], none⟩, ⟨(.l 20), .un .not (.l 19), none⟩, ⟨(.l 21), .mv (.l 20), none⟩, ⟨(.l 22), .mv (.g 3), (some ((.l 21), false))⟩, ⟨(.l 23), .call fn_spec_CaptureValid [(.l 22)], (some ((.l 21), false))⟩, ⟨(.l 24), .un .not (.l 23), (some ((.l 21), false))⟩, ⟨(.g 25), .pick (.l 21) (.c (.bool true)) (.l 24), none⟩])
  (.cond (.g 25) (.seq (.region [⟨(.l 26), .load true 3 (.g 4), none⟩, ⟨(.l 27), .load true 3 (.g 5), none⟩, ⟨(.l 28), .call fn_laws_sameMonitor [(.l 26), (.l 27)], none⟩, ⟨(.g 2), .mv (.l 28), none⟩])
   (.ret))
  (.skip)))
  (.seq (.region [⟨(.l 29), .build [(.int .i64 0), .nils, .nils] [], none⟩, ⟨(.g 6), .alloc [(.int .i64 0), .nils, .nils], none⟩, ⟨.no, .store 3 (.g 6) (.l 29), none⟩])
  (.seq (.seq (.region [⟨(.g 7), .mv (.c (.int .i64 0)), none⟩])
  (.block 0 (.loop (.seq (.seq (.region [⟨(.l 30), .mv (.g 7), none⟩, ⟨(.l 31), .mv (.g 3), none⟩, ⟨(.l 32), .len (.l 31), none⟩, ⟨(.g 33), .bin .lss (.l 30) (.l 32), none⟩])
    (.cond (.g 33) (.skip)
    (.exit 0)))
    (.seq (.block 1 (.drawn [⟨(.l 36), .load true 3 (.g 6), none⟩, ⟨(.l 37), .mv (.g 3), none⟩, ⟨(.l 38), .mv (.g 7), none⟩, ⟨(.l 39), .elS 2 (.l 37) (.l 38), none⟩, ⟨(.l 40), .faddr 1 (.l 39), none⟩, ⟨(.l 41), .load false 1 (.l 40), none⟩] [[], [], [], [0], [], [0]] [⟨(.l 42), .call fn_impl_MonitorStep [(.l 36), (.l 41)], none⟩, ⟨.no, .store 3 (.g 6) (.l 42), none⟩]))
    (.region [⟨(.l 34), .mv (.g 7), none⟩, ⟨(.l 35), .bin .add (.l 34) (.c (.int .i64 1)), none⟩, ⟨(.g 7), .mv (.l 35), none⟩]))))))
  (.seq (.region [⟨(.l 43), .load true 3 (.g 6), none⟩, ⟨(.l 44), .load true 3 (.g 4), none⟩, ⟨(.l 45), .call fn_laws_sameMonitor [(.l 43), (.l 44)], none⟩, ⟨(.l 46), .mv (.l 45), none⟩, ⟨(.l 47), .faddr 0 (.g 4), (some ((.l 46), true))⟩, ⟨(.l 48), .load false 1 (.l 47), (some ((.l 46), true))⟩, ⟨(.l 49), .mv (.g 3), (some ((.l 46), true))⟩, ⟨(.l 50), .len (.l 49), (some ((.l 46), true))⟩, ⟨(.l 51), .bin .eql (.l 48) (.l 50), (some ((.l 46), true))⟩, ⟨(.l 52), .pick (.l 46) (.l 51) (.c (.bool false)), none⟩, ⟨(.l 53), .mv (.l 52), none⟩, ⟨(.l 54), .load true 3 (.g 4), (some ((.l 53), true))⟩, ⟨(.l 55), .call fn_impl_MonitorValid [(.l 54)], (some ((.l 53), true))⟩, ⟨(.l 56), .pick (.l 53) (.l 55) (.c (.bool false)), none⟩, ⟨(.g 2), .mv (.l 56), none⟩])
  (.ret)))))))))⟩
theorem ln_laws_FnMonitorRun : Linked Tryz.prog fn_laws_FnMonitorRun ac_laws_FnMonitorRun := ⟨Tryz.f5, _, Tryz.func5, rfl, by kernel_rfl, by kernel_rfl, by kernel_rfl, by kernel_rfl⟩
end
end Go.Proofs.YtpcfbgeabehmbaaGreat

namespace Go.Proofs.YtpcfbgeabehmbaaGreat
set_option linter.all false
section
set_option maxRecDepth 200000
set_option maxHeartbeats 8000000
attribute [-simp] List.getD_eq_getElem?_getD

theorem FnMonitorRun_ok (code : List UInt8) : Fn Tryz.prog fn_laws_FnMonitorRun [bsl code] [] (.bool true) [] := by
  obtain ⟨l, hl, f1⟩ := DrawMonitorRun_ok code
  have hll := hl.len
  have htx : ∀ r ∈ l, r.text.length ≤ 1000000 := fun r hr => by have := hl.texts r hr; omega
  have g1 := impl_MonitorRun_ok l (by omega) htx
  have g2 := spec_MonitorRun_ok l (by omega) htx
  have hyb := (run_sm l).bd (by omega)
  have g3 := sameMonitor_self (runS l) hyb
  have v1 := spec_CaptureValid_ok l (by omega)
  have hro := run_ok (l := l)
  generalize hy : runS l = y at *
  simp only [mon_v, rsl] at f1 g1 g2 g3 v1
  refine Fn.of_go ln_laws_FnMonitorRun rfl ?_
  simp [ac_laws_FnMonitorRun, bsl]
  refine goTest_dec (fun h0 => ?_) (fun h0 => ?_)
  · simp
    exact Ends.mk [] [] (by simp)
  simp
  refine goCall_eq f1 (by simp [bsl]) ?_
  simp
  refine goCall_eq g1 (by simp) ?_
  simp
  refine goCall_eq g2 (by simp) ?_
  simp
  refine goCall_eq g3 (by simp) ?_
  simp
  refine goCall_eq v1 (by simp) ?_
  cases q : capOk l
  · simp
    refine goCall_eq g3 (by simp) ?_
    simp
    exact Ends.mk [] [] (by simp)
  have hlc : l.length ≤ 60 := by simp [capOk] at q; exact q.2
  obtain ⟨o1, o2⟩ := hro q
  have v2 := impl_MonitorValid_ok y hyb
  have hfold : foldM zMonitor l = y := by rw [← hy]; unfold runS; rw [if_pos q]
  rw [mon_iff.2 o1] at v2
  simp only [mon_v] at v2
  rw [o2] at v2
  simp
  refine go_loop (fun i : Nat => { env := [(3, rsl l), (4, .ptr 4 0), (6, .ptr 6 0), (7, .int .i64 (i : Nat))], loc := [], box := [(4, y.cells), (6, (foldM zMonitor (l.take i)).cells)], stat := [] }) (fun i => i ≤ l.length) (fun i => l.length - i) 0 (by omega) (Weak.of [] [(4, 4), (6, 6)] (by simp [rsl, foldM, zMonitor, Monitor.cells, fsl])) ?_
  intro i hi
  simp [rsl, Monitor.cells, fsl]
  refine goTest_dec (fun hlt => ?_) (fun hge => ?_)
  · obtain ⟨hb, hf, hr⟩ := fold_bd q hi
    obtain ⟨hk1, hk2⟩ := fold_ok q hi
    have s1 := impl_MonitorStep_ok (foldM zMonitor (l.take i)) (nth l i).text hb hf (htx _ (nth_mem hlt))
    have hs := take_nth hlt
    have hn : monS (foldM zMonitor (l.take i)) (nth l i).text = foldM zMonitor (l.take (i + 1)) := by
      rw [hs, foldM_snoc]
      unfold monS
      rw [mon_iff.2 hk1, hk2, if_pos (by simp; omega)]
    rw [hn] at s1
    simp only [mon_v] at s1
    simp [hlt, rec_v]
    refine goCall_eq s1 (by simp) ?_
    simp
    exact ⟨by omega, Again.mk (i + 1) hlt (by omega) (Weak.of [] [(4, 4), (6, 6)] (by simp [rsl, Monitor.cells, fsl]))⟩
  · obtain rfl : i = l.length := by omega
    simp [hfold]
    refine goCall_eq g3 (by simp) ?_
    simp [o2]
    refine goCall_eq v2 (by simp) ?_
    simp
    exact Ends.mk [] [] (by simp)
end
end Go.Proofs.YtpcfbgeabehmbaaGreat

namespace Go.Proofs.YtpcfbgeabehmbaaGreat.fnMonitorRun
set_option linter.all false
open Go.ChangeShapes Go.WideShapes Go.ChangeAt Go.RowKit

theorem own : ownKnob Tryz.prog.godebug = none := by kernel_rfl
theorem laidOut : laidOutB Tryz.prog = true := by kernel_rfl

set_option maxRecDepth 100000 in
theorem lifted (os : Os) (started : os.Started) (H : Type) (enc : TypeId × Value → H) :
    ReturnsInHanded {} Tryz.checked os 5 .any (Rows.fnMonitorRunSpec.pre6 enc Tryz.prog Tryz.f5 Rows.fnMonitorRunRow.domain false) (Rows.fnMonitorRunSpec.post enc Tryz.prog Tryz.f5 false true false false) := by
  refine returnsInHanded_of_change_shaped (C := Tryz.checked) own started (by kernel_rfl) Tryz.func5
    (ChangeSpec.witness6 (enc := enc) (C := Tryz.checked) false ⟨#[], #[.slice none 0 0], []⟩ 8 (by kernel_rfl) (by kernel_rfl) (by kernel_rfl) (by kernel_rfl)) ?_
  intro W base args ds gs before hval0 hW _ _ hsh _
  have hval : ∀ (j : Nat) t v, Tryz.f5.params[j]? = some t → args[j]? = some v → Value.okWide Tryz.prog W .any base t v := hval0
  have hW' := hW
  obtain ⟨p, q, hA0, hV, rfl, hfz, hnd⟩ := hW
  have hA : DataW.TrodAll enc Tryz.prog W 0 (fun _ => true) true Tryz.f5.params.toList args.toList ds p := hA0
  rw [Tryz.params5] at hA hval
  obtain ⟨v0, d0, rfl, rfl, h0⟩ := trodAll_one hA
  obtain ⟨rfl, rfl⟩ := trodVars_none hV
  clear hA0 hval0
  simp only [List.append_nil] at hW'
  obtain ⟨l0, hl0⟩ := open_bytes Tryz.underlying22 Tryz.underlying5 (by kernel_rfl) (hval 0 22 v0 rfl rfl) h0
  refine ((FnMonitorRun_ok l0).calls_true rfl W [v0] (tabsW W hsh) (rel_one hl0)).mono fun e W' ⟨he, hb⟩ => ?_
  subst he
  have hlt : ∀ x ∈ p, x.block < W.heap.size := fun x hx => by simpa using hW'.lt x hx
  have hargs := Below.trod laidOut (by kernel_rfl) (of_decide_eq_true (by kernel_rfl)) h0 hb hlt
  exact ⟨_, rfl, ⟨_, _, _, [], _, [], hW', trodAll_mk1 (shut_bool Tryz.underlying4 _), trodAll_mk1 hargs, rfl, hb.frame _, fun h => by cases h⟩⟩

theorem closed : joinedFacts Tryz.prog 5 Tryz.f5 Rows.fnMonitorRunSpec Rows.fnMonitorRunRow = true := by
  have key : ∀ P : Program, P = Tryz.prog → P.mayEnter = true → P.liftsFinal = false → P.make = some .cut → joinedFacts P 5 Tryz.f5 Rows.fnMonitorRunSpec Rows.fnMonitorRunRow = true := by
    intro P hP h1 h2 h3
    unfold joinedFacts
    rw [h1, h2, h3]
    subst hP
    kernel_rfl
  exact key _ rfl enters finals makes

theorem proved : Rows.FnMonitorRunSaid :=
  OpenClaim.holds_of_wide 5 Tryz.f5 rfl rfl rfl rfl rfl rfl rfl ⟨rfl, rfl, rfl, rfl, rfl⟩ rfl rfl rfl rfl rfl (by kernel_rfl) Tryz.func5 closed
    (of_decide_eq_true (by kernel_rfl)) (by unfold Func.isWrapper; first | (rw [if_pos (by decide +kernel)]; kernel_rfl) | (rw [if_neg (by decide +kernel)]; exact ⟨rfl, rfl⟩))
    (fun os started H enc _ => lifted os started H enc)
end Go.Proofs.YtpcfbgeabehmbaaGreat.fnMonitorRun
