/- For all two numbers of 32 bits, the program's SerialLess is the reference's. No condition. -/
import Derived.Test.YtjkbpcbnfkangaaPFnExactSerialLessx1
import Derived.Test.YtjkbpcbnfkangaaBase
namespace Go.Proofs.Ytjkbpcbnfkangaa.Pure
open Go.RowKit Go.Proofs.Ytjkbpcbnfkangaa.PFnExactSerialLess Go.Proofs.YtjkbpcbnfkangaaW.PrintWords Go.Proofs.YtjkbpcbnfkangaaW.PrintLast

theorem FnExactSerialLess : laws_FnExactSerialLess.Pure := by
  intro a0 a1 h0 h1
  have b0 := bounds_u32 h0
  have b1 := bounds_u32 h1
  have e0 : wrap64 a0 = a0 := Base.w64_in (by omega) (by omega)
  have e1 : wrap64 a1 = a1 := Base.w64_in (by omega) (by omega)
  have key : spec_SerialDistance.f a0 a1 = impl_SerialDistance.f a0 a1 := by
    unfold spec_SerialDistance.f impl_SerialDistance.f
    rw [e0, e1, Base.w64_in (n := a1 - a0) (by omega) (by omega)]
    split
    · congr 1; unfold wrap64 wrap32; omega
    · split
      · congr 1; unfold wrap64 wrap32; omega
      · congr 1; unfold wrap64 wrap32; omega
  obtain ⟨r, hr⟩ : ∃ r, impl_SerialDistance.f a0 a1 = some r := ⟨_, rfl⟩
  unfold laws_FnExactSerialLess.f spec_SerialLess.f impl_SerialLess.f
  rw [key, hr]
  simp

end Go.Proofs.Ytjkbpcbnfkangaa.Pure
