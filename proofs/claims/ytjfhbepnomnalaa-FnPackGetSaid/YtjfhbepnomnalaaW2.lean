/-
  (the helpers on []string lie in Hlp)
-/
import Derived.Test.YtjfhbepnomnalaaHlp
