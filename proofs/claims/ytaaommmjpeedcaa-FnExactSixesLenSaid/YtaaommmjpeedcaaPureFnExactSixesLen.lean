/- SixesLen of the program and of the reference are one function of an int, so the law answers true at every argument. No condition. -/
import Derived.Test.YtaaommmjpeedcaaPFnExactSixesLenx1
namespace Go.Proofs.Ytaaommmjpeedcaa.Pure
open Go.RowKit Go.Proofs.Ytaaommmjpeedcaa.PFnExactSixesLen Go.Proofs.YtaaommmjpeedcaaW.PrintWords Go.Proofs.YtaaommmjpeedcaaW.PrintLast

theorem FnExactSixesLen : laws_FnExactSixesLen.Pure := by
  intro a0 _
  have e : impl_SixesLen.f a0 = spec_SixesLen.f a0 := rfl
  have h : ∃ r, spec_SixesLen.f a0 = some r := by
    unfold spec_SixesLen.f spec_l1In.f
    split <;> (simp only [Option.bind_some]; split <;> exact ⟨_, rfl⟩)
  obtain ⟨r, h⟩ := h
  unfold laws_FnExactSixesLen.f
  rw [e, h]
  simp

end Go.Proofs.Ytaaommmjpeedcaa.Pure
