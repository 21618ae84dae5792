/-
  The laws' helpers, in one form.
-/
import Derived.Test.YtjfhbepnomnalaaHlpM
import Derived.Test.YtjfhbepnomnalaaExD
