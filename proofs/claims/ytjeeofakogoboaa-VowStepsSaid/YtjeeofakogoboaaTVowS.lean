/- Vows: which ends there may be, and each step of any. -/
import Derived.Test.YtjeeofakogoboaaTVowD
namespace Go.Proofs.Ytjeeofakogoboaa.T
open Go.Vm Go.Tm
set_option linter.unusedVariables false
set_option linter.unusedSimpArgs false

theorem vowSteps_pure (v : Vow) (k : Int) : withylaw21_VowSteps_r v k = (true, true) := by
  unfold withylaw21_VowSteps_r
  simp only [grant_r, recant_r, part_r, hear_r, May_r, check_r, awake_r]
  by_cases h : may v
  · have hh := may_hear h k
    have s1 := same_r (grant v).2.2 (grant v).2.1 (grant_len v)
    have s2 := same_r (recant v).2.2 (recant v).2.1 (recant_len v)
    have s3 := same_r (part v).2.2 (part v).2.1 (part_len v)
    have s4 := same_r (hear v k).2.2 (hear v k).2.1 (hear_len v k)
    simp only [h, if_true, rgrant_r h, rrecant_r, rpart_r, rhear_r h, s1, s2, s3, s4, decide_true, hh]
    simp
  · have s0 := same_r [] (false, false, false) (by simp)
    simp only [h, if_false, noTold, zeroV, s0, decide_false]
    simp

end Go.Proofs.Ytjeeofakogoboaa.T
