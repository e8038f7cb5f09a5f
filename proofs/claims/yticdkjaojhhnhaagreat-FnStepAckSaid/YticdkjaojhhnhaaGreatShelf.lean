/-
  Nothing of the library is called.
-/
import Derived.Test.YticdkjaojhhnhaaGreatProg
