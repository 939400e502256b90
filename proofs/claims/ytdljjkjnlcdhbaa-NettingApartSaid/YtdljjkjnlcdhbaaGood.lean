/- The kinds of the laws' arguments: what is known of a value of each. -/
import Derived.Test.YtdljjkjnlcdhbaaOpen
import Derived.Test.YtdljjkjnlcdhbaaMx0
namespace Go.Proofs.Ytdljjkjnlcdhbaa.Gd
open Go.RowKit Go.Proofs.Ytdljjkjnlcdhbaa.M Go.Proofs.YtdljjkjnlcdhbaaW.PrintWords
instance : Inhabited S34 := ⟨z34⟩
/-- Each field of the struct is of its kind. -/
def good34 (x : S34) : Prop := (Lit.int .i64 x.f0).wf = true ∧ (Lit.int .i64 x.f1).wf = true
theorem opens34 : Opn.Opens Try.prog 34 k34 good34 := (Opn.opens_struct (fun p => ⟨p.1, p.2⟩) (fun _ => rfl) Try.underlying34 (by kernel_rfl) (Opn.opensF_cons rfl rfl (Opn.opens_int Try.underlying3 (by kernel_rfl)) (Opn.opensF_last rfl rfl (Opn.opens_int Try.underlying3 (by kernel_rfl))))).imp (fun _ h => h)
instance : Inhabited S32 := ⟨z32⟩
/-- Each field of the struct is of its kind. -/
def good32 (x : S32) : Prop := (Lit.int .i64 x.f0).wf = true ∧ (Lit.int .i64 x.f1).wf = true ∧ (Lit.int .i64 x.f2).wf = true
theorem opens32 : Opn.Opens Try.prog 32 k32 good32 := (Opn.opens_struct (fun p => ⟨p.1, p.2.1, p.2.2⟩) (fun _ => rfl) Try.underlying32 (by kernel_rfl) (Opn.opensF_cons rfl rfl (Opn.opens_int Try.underlying3 (by kernel_rfl)) (Opn.opensF_cons rfl rfl (Opn.opens_int Try.underlying3 (by kernel_rfl)) (Opn.opensF_last rfl rfl (Opn.opens_int Try.underlying3 (by kernel_rfl)))))).imp (fun _ h => h)
end Go.Proofs.Ytdljjkjnlcdhbaa.Gd
