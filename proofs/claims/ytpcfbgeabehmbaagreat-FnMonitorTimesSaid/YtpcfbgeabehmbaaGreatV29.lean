/-
  Sides drawn; wrong associations.
  Parts and chunks that a side may send next, drawn.
-/
import Derived.Test.YtpcfbgeabehmbaaGreatV28
namespace Go.Proofs.YtpcfbgeabehmbaaGreat
set_option linter.all false

section
set_option maxRecDepth 200000
set_option maxHeartbeats 16000000
attribute [-simp] List.getD_eq_getElem?_getD

section
variable {st : St} {p : Nat} {src : List UInt8} {a : Int} {d : AD} {rs : List AOp} {k : List It} {Q : AE → St → Prop}
end

/-- A side that was drawn. -/
inductive SdR (src : List UInt8) (a k : Int) : V → List (List V) → Prop
  | mk (s : Side) (b : Int) (h : s.dr) (hb : a ≤ b ∧ b ≤ a + k) : SdR src a k s.v [[bsl src, .int .i64 b]]

end

section
set_option maxRecDepth 200000
set_option maxHeartbeats 16000000
attribute [-simp] List.getD_eq_getElem?_getD

/-- A part that was drawn. -/
inductive PnR (src : List UInt8) (a k : Int) : V → List (List V) → Prop
  | mk (d : Part) (b : Int) (hb : a ≤ b ∧ b ≤ a + k) : PnR src a k d.v [[bsl src, .int .i64 b]]

end

end Go.Proofs.YtpcfbgeabehmbaaGreat
