/-
  The laws of messages hold.
-/
import Derived.Test.YtpiafiapjmldgaaDoorD2
namespace Go.Proofs.YtpiafiapjmldgaaDoor
set_option linter.all false
set_option maxRecDepth 20000
attribute [-simp] List.getD_eq_getElem?_getD

theorem FnExactMessageText_ok (m : Msg) (hl : (m.text.length : Int) ≤ 9223372036854775807) : Fn Tryd.prog fn_laws_FnExactMessageText [mV m] [] (.bool true) [] := by
  refine Fn.of_go ln_laws_FnExactMessageText rfl ?_
  simp [ac_laws_FnExactMessageText, mV]
  refine goCall_eq (szMessage_ok m 1048576 (by omega) hl) (by simp [mV]) ?_
  simp
  by_cases h0 : (1048576 : Int) - m.text.length < 0
  · simp [h0]
    exact Ends.mk [] [] (by simp)
  · simp [h0]
    refine goCall_eq (toMessage_ok m) (by simp [mV]) ?_
    simp [mV]
    refine goCall_eq (spec_MessageText_ok m (by omega)) (by simp [mV]) ?_
    simp
    refine goCall_eq (toMessage_ok m) (by simp [mV]) ?_
    simp [mV]
    refine goCall_eq (impl_MessageText_ok m (by omega)) (by simp [mV]) ?_
    simp
    exact Ends.mk [] [] (by simp)

theorem FnMessageText_ok (code : List UInt8) : Fn Tryd.prog fn_laws_FnMessageText [bsl code] [] (.bool true) [] := by
  obtain ⟨m, h1, h2, h3, f1⟩ := DrawMessageText_ok code
  refine Fn.of_go ln_laws_FnMessageText rfl ?_
  simp [ac_laws_FnMessageText, bsl]
  refine goTest_dec (fun h0 => ?_) (fun h0 => ?_)
  · simp [h0]
    exact Ends.mk [] [] (by simp)
  simp [h0]
  refine goCall_gen [] [] [] [] none f1 (by simp [bsl, mV]) ?_
  simp [mV]
  refine goCall_eq (impl_MessageText_ok m (by omega)) (by simp [mV]) ?_
  simp
  refine goCall_eq (spec_MessageText_ok m (by omega)) (by simp [mV]) ?_
  simp
  refine goCall_eq (SerialAdd_ok m.stream 0 (by omega)) (by simp) ?_
  simp
  cases hs : inS m.stream with
  | false =>
    simp [hs]
    exact Ends.mk [] [] (by simp [msgT, hs])
  | true =>
    have q1 := hs
    simp [inS] at q1
    have k1 : ¬ m.stream % 65536 < 0 := by omega
    simp [hs, k1]
    refine goCall_eq (SerialAdd_ok m.ssn 0 (by omega)) (by simp) ?_
    simp
    cases hn : inS m.ssn with
    | false =>
      simp [hn]
      exact Ends.mk [] [] (by simp [msgT, hn])
    | true =>
      have q2 := hn
      simp [inS] at q2
      have k2 : ¬ m.ssn % 65536 < 0 := by omega
      obtain ⟨p, hp, hpl⟩ : ∃ p, msgT m = p ++ hexS m.text ∧ 0 < p.length ∧ p.length ≤ 100 := by
        have a1 := decS_len20 (n := m.stream.toNat) (by omega)
        have a2 := decS_len20 (n := m.ssn.toNat) (by omega)
        refine ⟨decS m.stream.toNat ++ [32] ++ (if m.loose then [45] else decS m.ssn.toNat) ++ [32], by simp [msgT, hs, hn], by simp; omega, ?_⟩
        split <;> simp <;> omega
      have hx := hexS_len m.text
      have h40 : m.text.length ≤ 40 := by omega
      have hpx := HexPut_ok m.text
      rw [if_pos h40] at hpx
      have hne : p ≠ [] := List.length_pos_iff.1 hpl.1
      simp [hn, k2]
      refine goCall_eq hpx (by simp) ?_
      have htk : List.take ((p.length : Int) + ((hexS m.text).length : Int)).toNat (p ++ hexS m.text) = p ++ hexS m.text := List.take_of_length_le (by simp; omega)
      simp [hp, hne, show ¬ 40 < m.text.length by omega]
      exact ⟨by omega, by omega, Ends.mk [] [] (by simp [htk])⟩

theorem FnMessageLoose_ok (code more : List UInt8) : Fn Tryd.prog fn_laws_FnMessageLoose [bsl code, bsl more] [] (.bool true) [] := by
  obtain ⟨m, h1, h2, h3, f1⟩ := DrawMessageText_ok code
  refine Fn.of_go ln_laws_FnMessageLoose rfl ?_
  simp [ac_laws_FnMessageLoose, bsl]
  refine goTest_dec (fun h0 => ?_) (fun h0 => ?_)
  · simp [h0]
    exact Ends.mk [] [] (by simp)
  simp [h0]
  refine goTest_dec (fun h9 => ?_) (fun h9 => ?_)
  · simp [h9]
    exact Ends.mk [] [] (by simp)
  simp [h9]
  refine goCall_gen [] [] [] [] none f1 (by simp [bsl, mV]) ?_
  simp [mV]
  refine goCall_eq (impl_MessageText_ok m (by omega)) (by simp [mV]) ?_
  simp
  refine goCall_eq (spec_MessageText_ok m (by omega)) (by simp [mV]) ?_
  simp
  by_cases he : msgT m = []
  · simp [he]
    exact Ends.mk [] [] (by simp)
  cases hl : m.loose with
  | false =>
    simp [he, hl]
    exact Ends.mk [] [] (by simp)
  | true =>
    simp [he, hl]
    have e0 : (more.length : Int).tmod 65536 = (more.length : Int) % 65536 := Int.tmod_eq_emod_of_nonneg (by omega)
    simp [e0]
    have hi := impl_MessageText_ok ⟨m.stream, (more.length : Int) % 65536, true, m.text⟩ (by show m.text.length ≤ _; omega)
    refine goCall_eq hi (by simp [mV]) ?_
    simp
    have hm : msgT ⟨m.stream, (more.length : Int) % 65536, true, m.text⟩ = msgT m := by
      have hg : inS ((more.length : Int) % 65536) = true := by simp [inS]; omega
      unfold msgT at he ⊢
      cases hc : inS m.stream && inS m.ssn with
      | false => rw [hc] at he; exact absurd rfl he
      | true =>
        have hs : inS m.stream = true := by simp at hc; exact hc.1
        simp [hl, hs, hg]
    exact Ends.mk [] [] (by simp [hm])

end Go.Proofs.YtpiafiapjmldgaaDoor
