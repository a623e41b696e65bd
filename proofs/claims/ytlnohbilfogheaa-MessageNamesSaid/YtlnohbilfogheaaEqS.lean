/-
  OWN WORK: slices.Equal of bytes answers true of a slice and itself. By the walk of its text; as a summary for the machine of the texts YtlnohbilfogheaaAxA to YtlnohbilfogheaaAxEs. Conditions: the slice's elements lie in memory.
-/
import Derived.Test.YtlnohbilfogheaaRows
import Derived.Test.YtlnohbilfogheaaAxEs
import Derived.WalkKit
import Derived.ProofKit
import Derived.Deep.QuietTactic
import Derived.BigQuiet
import Derived.Deep.LoopGhost
namespace Go.Proofs.Ytlnohbilfogheaa.eqs
open Go.RowKit
set_option maxHeartbeats 1000000 in
theorem equal_same (b off n c1 c2 : Nat) (zs : List Int) (w : World) (hz : n ≤ zs.length) (hbig : n ≤ 9223372036854775807)
    (hc : ∀ j, j < n → w.cell? ⟨b, off + j, none⟩ = some (.int .u8 (zs.getD j 0))) :
    Calls Try.prog 65 #[.slice (some ⟨b, off, none⟩) n c1, .slice (some ⟨b, off, none⟩) n c2] w fun e w' => e = .returned (.bool true) ∧ ∃ k, w' = w.drewN k := by
  go_enter Try.func65, Try.ntmps65
  go_wp2
  go_loopw [5, 13] (fun _ i wr => ∃ k : Nat, k ≤ n ∧ i = .int .i64 k ∧ ∃ q, wr = w.drewN q) (fun _ i _ => n - (intOf i).toNat)
  case atStart => exact ⟨0, Nat.zero_le _, rfl, 0, rfl⟩
  case round =>
    obtain ⟨k, hk, rfl, q, rfl⟩ := hrel
    by_cases hlt : k < n
    · have hcell : w.cell? ⟨b, off + k, none⟩ = some (.int .u8 (zs.getD k 0)) := hc k hlt
      have hlt' : (k : Int) < (n : Int) := by omega
      have h0 : 0 ≤ (k : Int) := by omega
      clear hc
      go_wp2
      go_quiet (fail)
      go_wp2
      go_roundw
      case rel => exact ⟨k + 1, by omega, by go_num, _, rfl⟩
      case measure => simp [intOf]; omega
    · obtain rfl : k = n := by omega
      go_wp2
      go_ret
      exact ⟨rfl, q, rfl⟩

theorem same : Ax.EqSame Try.prog 65 := fun b off n c1 c2 zs w hz hb hc => (equal_same b off n c1 c2 zs w hz hb hc).mono fun _ _ ⟨h, k, e⟩ => ⟨h, _, e⟩

theorem ok : Ax.CallsOK Try.prog (Ax.sumEqS 65) := Ax.sumEqS_ok Try.call65 same
end Go.Proofs.Ytlnohbilfogheaa.eqs
