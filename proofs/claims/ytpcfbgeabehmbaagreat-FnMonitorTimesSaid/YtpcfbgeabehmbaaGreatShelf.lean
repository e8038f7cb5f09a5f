/-
  The program; no contract of the library is needed.
-/
import Derived.Test.YtpcfbgeabehmbaaGreatProg
