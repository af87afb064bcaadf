/- For all two numbers of 32 bits, the program's SerialDistance is the reference's. No condition. -/
import Derived.Test.YtjkbpcbnfkangaaPFnExactSerialDistancex1
import Derived.Test.YtjkbpcbnfkangaaBase
namespace Go.Proofs.Ytjkbpcbnfkangaa.Pure
open Go.RowKit Go.Proofs.Ytjkbpcbnfkangaa.PFnExactSerialDistance Go.Proofs.YtjkbpcbnfkangaaW.PrintWords Go.Proofs.YtjkbpcbnfkangaaW.PrintLast

theorem FnExactSerialDistance : laws_FnExactSerialDistance.Pure := by
  intro a0 a1 h0 h1
  have b0 := bounds_u32 h0
  have b1 := bounds_u32 h1
  have e0 : wrap64 a0 = a0 := Base.w64_in (by omega) (by omega)
  have e1 : wrap64 a1 = a1 := Base.w64_in (by omega) (by omega)
  unfold laws_FnExactSerialDistance.f spec_SerialDistance.f impl_SerialDistance.f
  rw [e0, e1, Base.w64_in (n := a1 - a0) (by omega) (by omega)]
  simp only [Option.bind_some]
  by_cases g : a1 - a0 ≥ 2147483648
  · rw [if_pos g, Option.bind_some, if_pos]
    unfold wrap64 wrap32; omega
  · rw [if_neg g]
    by_cases g2 : a1 - a0 < -2147483648
    · rw [if_pos g2, Option.bind_some, if_pos]
      unfold wrap64 wrap32; omega
    · rw [if_neg g2, Option.bind_some, if_pos]
      unfold wrap64 wrap32; omega

end Go.Proofs.Ytjkbpcbnfkangaa.Pure
