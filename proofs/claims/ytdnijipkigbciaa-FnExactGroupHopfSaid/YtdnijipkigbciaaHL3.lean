/- The program computes these functions. -/
import Derived.Test.YtdnijipkigbciaaHL2
namespace Go.Proofs.Ytdnijipkigbciaa.H
set_option linter.unusedVariables false
set_option linter.unusedSimpArgs false
open Go Go.RowKit Go.Proofs.Ytdnijipkigbciaa.Hy
set_option linter.unusedVariables false
set_option maxRecDepth 100000
noncomputable def laws_FnExactGroupHopf_suh.en (N : Nat) (ρ : Type) : List AV → Heap → (AV → Heap → Option ρ) → Option ρ
  | [.int .i64 (aP0), .slice false 0 0 aTable1 .unk 1], [⟨false, .hdr 1 gv2 gv3 gv4 gv5 none⟩, ⟨false, .flat gv6 (.ints .i64 gv7)⟩], K => (laws_FnExactGroupHopf_suh N (fun d0 => K (.bool (d0)) [⟨false, .hdr 1 gv2 gv3 gv4 gv5 none⟩, ⟨false, .flat gv6 (.ints .i64 gv7)⟩]) aP0 aTable1 gv2 gv3 gv4 gv5 gv6 gv7)
  | _, _, _ => none

theorem laws_FnExactGroupHopf_suh.en_ok (N : Nat) (hE : EnvOk (E33 N) ents) (ρ : Type) (args : List AV) (sh : Heap) (K : AV → Heap → Option ρ) (r : ρ) (h : laws_FnExactGroupHopf_suh.en N ρ args sh K = some r) : ∃ v sh', K v sh' = some r ∧ FnOk (E33 N).P 3 args sh v sh' := by
  unfold laws_FnExactGroupHopf_suh.en at h
  split at h
  · exact fn_ok hE (kp := laws_FnExactGroupHopf_suh.kp) (N := N) Go.Proofs.Try.func3 (c := laws_FnExactGroupHopf_suh.bd) (by kernel_rfl) ((laws_FnExactGroupHopf_suh.eq N _ _ _ _ _ _ _ _ _).trans h)
  · cases h

noncomputable def E34 (N : Nat) : Env := (E33 N).add 3 (laws_FnExactGroupHopf_suh.en N)

theorem E34_ok (N : Nat) : EnvOk (E34 N) ents := Env.add_ok (E33_ok N) (laws_FnExactGroupHopf_suh.en_ok N (E33_ok N))
end Go.Proofs.Ytdnijipkigbciaa.H
