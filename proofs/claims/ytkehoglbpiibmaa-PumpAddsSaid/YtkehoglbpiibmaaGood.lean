/- The kinds of the laws' arguments: what is known of a value of each. -/
import Derived.Test.YtkehoglbpiibmaaOpen
import Derived.Test.YtkehoglbpiibmaaMx0
namespace Go.Proofs.Ytkehoglbpiibmaa.Gd
open Go.RowKit Go.Proofs.Ytkehoglbpiibmaa.M Go.Proofs.YtkehoglbpiibmaaW.PrintWords
instance : Inhabited S37 := ⟨z37⟩
/-- Each field of the struct is of its kind. -/
def good37 (x : S37) : Prop := (Lit.int .i64 x.f0).wf = true ∧ (Lit.int .i64 x.f1).wf = true ∧ (Lit.int .i64 x.f2).wf = true
theorem opens37 : Opn.Opens Try.prog 37 k37 good37 := (Opn.opens_struct (fun p => ⟨p.1, p.2.1, p.2.2⟩) (fun _ => rfl) Try.underlying37 (by kernel_rfl) (Opn.opensF_cons rfl rfl (Opn.opens_int Try.underlying3 (by kernel_rfl)) (Opn.opensF_cons rfl rfl (Opn.opens_int Try.underlying3 (by kernel_rfl)) (Opn.opensF_last rfl rfl (Opn.opens_int Try.underlying3 (by kernel_rfl)))))).imp (fun _ h => h)
end Go.Proofs.Ytkehoglbpiibmaa.Gd
