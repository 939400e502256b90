/- The kinds of the laws' arguments: what is known of a value of each. -/
import Derived.Test.YtgohhekihfilbaaOpen
import Derived.Test.YtgohhekihfilbaaMx0
namespace Go.Proofs.Ytgohhekihfilbaa.Gd
open Go.RowKit Go.Proofs.Ytgohhekihfilbaa.M Go.Proofs.YtgohhekihfilbaaW.PrintWords
instance : Inhabited S28 := ⟨z28⟩
/-- Each field of the struct is of its kind. -/
def good28 (x : S28) : Prop := (Lit.int .i64 x.f0).wf = true ∧ (Lit.int .i64 x.f1).wf = true ∧ (Lit.int .i64 x.f2).wf = true ∧ (Lit.int .i64 x.f3).wf = true ∧ (Lit.int .i64 x.f4).wf = true ∧ (Lit.int .i64 x.f5).wf = true ∧ (Lit.int .i64 x.f6).wf = true
theorem opens28 : Opn.Opens Try.prog 28 k28 good28 := (Opn.opens_struct (fun p => ⟨p.1, p.2.1, p.2.2.1, p.2.2.2.1, p.2.2.2.2.1, p.2.2.2.2.2.1, p.2.2.2.2.2.2⟩) (fun _ => rfl) Try.underlying28 (by kernel_rfl) (Opn.opensF_cons rfl rfl (Opn.opens_int Try.underlying3 (by kernel_rfl)) (Opn.opensF_cons rfl rfl (Opn.opens_int Try.underlying3 (by kernel_rfl)) (Opn.opensF_cons rfl rfl (Opn.opens_int Try.underlying3 (by kernel_rfl)) (Opn.opensF_cons rfl rfl (Opn.opens_int Try.underlying3 (by kernel_rfl)) (Opn.opensF_cons rfl rfl (Opn.opens_int Try.underlying3 (by kernel_rfl)) (Opn.opensF_cons rfl rfl (Opn.opens_int Try.underlying3 (by kernel_rfl)) (Opn.opensF_last rfl rfl (Opn.opens_int Try.underlying3 (by kernel_rfl)))))))))).imp (fun _ h => h)
end Go.Proofs.Ytgohhekihfilbaa.Gd
