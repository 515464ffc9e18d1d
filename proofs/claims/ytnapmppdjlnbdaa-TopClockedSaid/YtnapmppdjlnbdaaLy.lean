/-
  This program calls nothing of the library's that the shelf has contracts for.
-/
import Derived.Test.YtnapmppdjlnbdaaProg
