/-
  The law 'FnMonitorPart' is proved: it returns true whatever the input, and the input reads as it did. No condition.
-/
import Derived.Test.YtpcfbgeabehmbaaGreatV32
import Derived.Test.YtpcfbgeabehmbaaGreatRows
namespace Go.Proofs.YtpcfbgeabehmbaaGreat
set_option linter.all false
section
set_option maxRecDepth 100000
def ac_laws_FnMonitorPart : AF := ⟨[0, 1, 4, 5, 6, 7, 8, 9, 17, 32], [.t 4],
  .seq (.region [⟨(.g 4), .mv (.c (.bool false)), none⟩])
  (.seq (.seq (.region [⟨(.l 10), .mv (.g 0), none⟩, ⟨(.l 11), .len (.l 10), none⟩, ⟨(.l 12), .bin .gtr (.l 11) (.c (.int .i64 1048576)), none⟩, ⟨(.l 13), .mv (.l 12), none⟩, ⟨(.l 14), .mv (.g 1), (some ((.l 13), false))⟩, ⟨(.l 15), .len (.l 14), (some ((.l 13), false))⟩, ⟨(.l 16), .bin .gtr (.l 15) (.c (.int .i64 1048576)), (some ((.l 13), false))⟩, ⟨(.g 17), .pick (.l 13) (.c (.bool true)) (.l 16), none⟩])
  (.cond (.g 17) (.seq (.region [⟨(.g 4), .mv (.c (.bool true)), none⟩])
   (.ret))
  (.skip)))
  (.seq (.region [⟨(.l 18), .mv (.g 0), none⟩, ⟨(.l 19), .call fn_spec_DrawMonitorRun [(.l 18)], none⟩, ⟨(.g 5), .mv (.l 19), none⟩])
  (.seq (.region [⟨(.l 20), .mv (.g 5), none⟩, ⟨(.l 21), .call fn_impl_MonitorRun [(.l 20)], none⟩, ⟨(.g 6), .alloc [(.int .i64 0), .nils, .nils], none⟩, ⟨.no, .store 3 (.g 6) (.l 21), none⟩])
  (.seq (.region [⟨(.l 22), .mv (.g 5), none⟩, ⟨(.l 23), .call fn_spec_MonitorRun [(.l 22)], none⟩, ⟨(.g 7), .alloc [(.int .i64 0), .nils, .nils], none⟩, ⟨.no, .store 3 (.g 7) (.l 23), none⟩])
  (.seq (.seq (.region [⟨(.l 24), .load true 3 (.g 6), none⟩, ⟨(.l 25), .load true 3 (.g 7), none⟩, ⟨(.l 26), .call fn_laws_sameMonitor [(.l 24), (.l 25)], none⟩, ⟨(.l 27), .un .not (.l 26), none⟩, ⟨(.l 28), .mv (.l 27), none⟩, ⟨(.l 29), .mv (.g 5), (some ((.l 28), false))⟩, ⟨(.l 30), .call fn_spec_CaptureValid [(.l 29)], (some ((.l 28), false))⟩, ⟨(.l 31), .un .not (.l 30), (some ((.l 28), false))⟩, ⟨(.g 32), .pick (.l 28) (.c (.bool true)) (.l 31), none⟩])
  (.cond (.g 32) (.seq (.region [⟨(.l 33), .load true 3 (.g 6), none⟩, ⟨(.l 34), .load true 3 (.g 7), none⟩, ⟨(.l 35), .call fn_laws_sameMonitor [(.l 33), (.l 34)], none⟩, ⟨(.g 4), .mv (.l 35), none⟩])
   (.ret))
  (.skip)))
  (.seq (.region [⟨(.l 36), .mv (.g 1), none⟩, ⟨(.l 37), .len (.l 36), none⟩, ⟨(.l 38), .mv (.g 5), none⟩, ⟨(.l 39), .len (.l 38), none⟩, ⟨(.l 40), .bin .add (.l 39) (.c (.int .i64 1)), none⟩, ⟨(.l 41), .bin .rem (.l 37) (.l 40), none⟩, ⟨(.g 8), .mv (.l 41), none⟩])
  (.seq (.region [⟨(.l 42), .mv (.g 5), none⟩, ⟨(.l 43), .mv (.g 8), none⟩, ⟨(.l 44), .cutSl 2 (.l 42) none (some (.l 43)), none⟩, ⟨(.l 45), .call fn_impl_MonitorRun [(.l 44)], none⟩, ⟨(.l 46), .field false 1 2 (.l 45), none⟩, ⟨(.g 9), .mv (.l 46), none⟩])
  (.seq (.region [⟨(.l 47), .mv (.g 9), none⟩, ⟨(.l 48), .len (.l 47), none⟩, ⟨(.l 49), .faddr 2 (.g 6), none⟩, ⟨(.l 50), .load false 1 (.l 49), none⟩, ⟨(.l 51), .len (.l 50), none⟩, ⟨(.l 52), .bin .leq (.l 48) (.l 51), none⟩, ⟨(.l 53), .mv (.l 52), none⟩, ⟨(.l 54), .faddr 2 (.g 6), (some ((.l 53), true))⟩, ⟨(.l 55), .load false 1 (.l 54), (some ((.l 53), true))⟩, ⟨(.l 56), .mv (.g 9), (some ((.l 53), true))⟩, ⟨(.l 57), .len (.l 56), (some ((.l 53), true))⟩, ⟨(.l 58), .cutSl 2 (.l 55) none (some (.l 57)), (some ((.l 53), true))⟩, ⟨(.l 59), .mv (.g 9), (some ((.l 53), true))⟩, ⟨(.l 60), .call fn_laws_sameFound [(.l 58), (.l 59)], (some ((.l 53), true))⟩, ⟨(.l 61), .pick (.l 53) (.l 60) (.c (.bool false)), none⟩, ⟨(.g 4), .mv (.l 61), none⟩])
  (.ret)))))))))⟩
theorem ln_laws_FnMonitorPart : Linked Tryz.prog fn_laws_FnMonitorPart ac_laws_FnMonitorPart := ⟨Tryz.f4, _, Tryz.func4, rfl, by kernel_rfl, by kernel_rfl, by kernel_rfl, by kernel_rfl⟩
end
end Go.Proofs.YtpcfbgeabehmbaaGreat

namespace Go.Proofs.YtpcfbgeabehmbaaGreat
set_option linter.all false
section
set_option maxRecDepth 200000
set_option maxHeartbeats 8000000
attribute [-simp] List.getD_eq_getElem?_getD

theorem FnMonitorPart_ok (code more : List UInt8) : Fn Tryz.prog fn_laws_FnMonitorPart [bsl code, bsl more] [] (.bool true) [] := by
  obtain ⟨l, hl, f1⟩ := DrawMonitorRun_ok code
  have hll := hl.len
  have htx : ∀ r ∈ l, r.text.length ≤ 1000000 := fun r hr => by have := hl.texts r hr; omega
  have g1 := impl_MonitorRun_ok l (by omega) htx
  have g2 := spec_MonitorRun_ok l (by omega) htx
  have hyb := (run_sm l).bd (by omega)
  have g3 := sameMonitor_self (runS l) hyb
  have v1 := spec_CaptureValid_ok l (by omega)
  have hpt := run_part (l := l)
  generalize hy : runS l = y at *
  simp only [mon_v, rsl] at f1 g1 g2 g3 v1
  refine Fn.of_go ln_laws_FnMonitorPart rfl ?_
  simp [ac_laws_FnMonitorPart, bsl]
  cases h0 : decide (1048576 < code.length)
  rotate_left
  · simp
    exact Ends.mk [] [] (by simp)
  simp
  cases h00 : decide (1048576 < more.length)
  rotate_left
  · simp
    exact Ends.mk [] [] (by simp)
  simp
  refine goCall_eq f1 (by simp [bsl]) ?_
  simp
  refine goCall_eq g1 (by simp) ?_
  simp
  refine goCall_eq g2 (by simp) ?_
  simp
  refine goCall_eq g3 (by simp) ?_
  simp
  refine goCall_eq v1 (by simp) ?_
  cases q : capOk l
  · simp
    refine goCall_eq g3 (by simp) ?_
    simp
    exact Ends.mk [] [] (by simp)
  have hlc : l.length ≤ 60 := by simp [capOk] at q; exact q.2
  obtain ⟨k, hk⟩ : ∃ k, k = more.length % (l.length + 1) := ⟨_, rfl⟩
  have hkl : k ≤ l.length := by have := Nat.mod_lt more.length (show 0 < l.length + 1 by omega); omega
  have hkm : ((more.length : Int)).tmod ((l.length : Int) + 1) = (k : Int) := by
    rw [Int.tmod_eq_emod_of_nonneg (by omega), hk]; exact (Int.natCast_emod _ _).symm
  have hpt := hpt q k
  have g4 := impl_MonitorRun_ok (l.take k) (by simp; omega) (fun r hr => htx r (List.mem_of_mem_take hr))
  have hsm := (run_sm (l.take k)).found
  generalize runS (l.take k) = z at *
  have hle := hpt.length_le
  have e1 : List.take z.found.length (y.found.map fV) = z.found.map fV := by rw [← List.map_take, ← List.prefix_iff_eq_take.1 hpt]
  have f2 := sameFound_self z.found (by omega)
  simp only [mon_v, rsl, fsl, List.map_take] at g4 f2
  simp [hkm]
  refine ⟨by omega, by omega, by omega, ?_⟩
  refine goCall_eq g4 (by simp) ?_
  simp [hle]
  rw [e1]
  refine goCall_eq f2 (by simp) ?_
  simp
  exact Ends.mk [] [] (by simp)
end
end Go.Proofs.YtpcfbgeabehmbaaGreat

namespace Go.Proofs.YtpcfbgeabehmbaaGreat.fnMonitorPart
set_option linter.all false
open Go.ChangeShapes Go.WideShapes Go.ChangeAt Go.RowKit

theorem own : ownKnob Tryz.prog.godebug = none := by kernel_rfl
theorem laidOut : laidOutB Tryz.prog = true := by kernel_rfl

set_option maxRecDepth 100000 in
theorem lifted (os : Os) (started : os.Started) (H : Type) (enc : TypeId × Value → H) :
    ReturnsInHanded {} Tryz.checked os 4 .any (Rows.fnMonitorPartSpec.pre6 enc Tryz.prog Tryz.f4 Rows.fnMonitorPartRow.domain false) (Rows.fnMonitorPartSpec.post enc Tryz.prog Tryz.f4 false true false false) := by
  refine returnsInHanded_of_change_shaped (C := Tryz.checked) own started (by kernel_rfl) Tryz.func4
    (ChangeSpec.witness6 (enc := enc) (C := Tryz.checked) false ⟨#[], #[.slice none 0 0, .slice none 0 0], []⟩ 8 (by kernel_rfl) (by kernel_rfl) (by kernel_rfl) (by kernel_rfl)) ?_
  intro W base args ds gs before hval0 hW _ _ hsh _
  have hval : ∀ (j : Nat) t v, Tryz.f4.params[j]? = some t → args[j]? = some v → Value.okWide Tryz.prog W .any base t v := hval0
  have hW' := hW
  obtain ⟨p, q, hA0, hV, rfl, hfz, hnd⟩ := hW
  have hA : DataW.TrodAll enc Tryz.prog W 0 (fun _ => true) true Tryz.f4.params.toList args.toList ds p := hA0
  rw [Tryz.params4] at hA hval
  obtain ⟨v0, v1, d0, d1, p0, p1, rfl, rfl, rfl, h0, h1⟩ := trodAll_two hA
  obtain ⟨rfl, rfl⟩ := trodVars_none hV
  clear hA0 hval0
  simp only [List.append_nil] at hW'
  obtain ⟨l0, hl0⟩ := open_bytes Tryz.underlying22 Tryz.underlying5 (by kernel_rfl) (hval 0 22 v0 rfl rfl) h0
  obtain ⟨l1, hl1⟩ := open_bytes Tryz.underlying22 Tryz.underlying5 (by kernel_rfl) (hval 1 22 v1 rfl rfl) h1
  refine ((FnMonitorPart_ok l0 l1).calls_true rfl W [v0, v1] (tabsW W hsh) (rel_two hl0 hl1)).mono fun e W' ⟨he, hb⟩ => ?_
  subst he
  have hlt : ∀ x ∈ p0 ++ p1, x.block < W.heap.size := fun x hx => by simpa using hW'.lt x hx
  have ha0 := Below.trod laidOut (by kernel_rfl) (of_decide_eq_true (by kernel_rfl)) h0 hb (fun x hx => hlt x (List.mem_append_left _ hx))
  have ha1 := Below.trod laidOut (by kernel_rfl) (of_decide_eq_true (by kernel_rfl)) h1 hb (fun x hx => hlt x (List.mem_append_right _ hx))
  exact ⟨_, rfl, ⟨_, _, _, [], _, [], hW', trodAll_mk1 (shut_bool Tryz.underlying4 _), trodAll_mk2 ha0 ha1, rfl, hb.frame _, fun h => by cases h⟩⟩

theorem closed : joinedFacts Tryz.prog 4 Tryz.f4 Rows.fnMonitorPartSpec Rows.fnMonitorPartRow = true := by
  have key : ∀ P : Program, P = Tryz.prog → P.mayEnter = true → P.liftsFinal = false → P.make = some .cut → joinedFacts P 4 Tryz.f4 Rows.fnMonitorPartSpec Rows.fnMonitorPartRow = true := by
    intro P hP h1 h2 h3
    unfold joinedFacts
    rw [h1, h2, h3]
    subst hP
    kernel_rfl
  exact key _ rfl enters finals makes

theorem proved : Rows.FnMonitorPartSaid :=
  OpenClaim.holds_of_wide 4 Tryz.f4 rfl rfl rfl rfl rfl rfl rfl ⟨rfl, rfl, rfl, rfl, rfl⟩ rfl rfl rfl rfl rfl (by kernel_rfl) Tryz.func4 closed
    (of_decide_eq_true (by kernel_rfl)) (by unfold Func.isWrapper; first | (rw [if_pos (by decide +kernel)]; kernel_rfl) | (rw [if_neg (by decide +kernel)]; exact ⟨rfl, rfl⟩))
    (fun os started H enc _ => lifted os started H enc)
end Go.Proofs.YtpcfbgeabehmbaaGreat.fnMonitorPart
