/-
  The seat's library contracts.
-/
import Derived.Test.YtcmhcibkpmbnoaaShelf
