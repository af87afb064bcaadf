/- Every constant that the program exports has the value that the document gives it. No condition. -/
import Derived.Test.YtjkbpcbnfkangaaPFnExactConstantsx1
namespace Go.Proofs.Ytjkbpcbnfkangaa.Pure
open Go.RowKit Go.Proofs.Ytjkbpcbnfkangaa.PFnExactConstants Go.Proofs.YtjkbpcbnfkangaaW.PrintWords Go.Proofs.YtjkbpcbnfkangaaW.PrintLast

theorem FnExactConstants : laws_FnExactConstants.Pure := by
  show laws_FnExactConstants.f = some true
  rfl

end Go.Proofs.Ytjkbpcbnfkangaa.Pure
