/- Nothing: this seat reaches no bits.Mul64. -/
import Derived.Test.YtfkidklpjiiclaaGreatProg
