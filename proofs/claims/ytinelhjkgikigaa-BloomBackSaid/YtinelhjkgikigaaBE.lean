/- Bloom: Join. -/
import Derived.Test.YtinelhjkgikigaaBD
namespace Go.Proofs.Ytinelhjkgikigaa.B
open Go Go.RowKit Go.Proofs.Ytinelhjkgikigaa.K

set_option maxHeartbeats 4000000 in
theorem alike_of {b b' p p' n n' c c' : Nat} {ao ao' : Option Addr} (w : World) (hn : n ≤ 8192) (hn' : n' ≤ 8192) (h0 : w.cell? ⟨b, 0, none⟩ = some (.int .i64 p)) (h1 : w.cell? ⟨b, 1, none⟩ = some (.slice ao n c))
    (g0 : w.cell? ⟨b', 0, none⟩ = some (.int .i64 p')) (g1 : w.cell? ⟨b', 1, none⟩ = some (.slice ao' n' c')) :
    Calls Try.prog 39 #[.iface 23 (.pointer (some ⟨b, 0, none⟩)), .iface 23 (.pointer (some ⟨b', 0, none⟩))] w fun e w' => e = .returned (.bool (decide (n = n' ∧ p = p'))) ∧ w = w' := by
  by_cases e1 : n = n'
  · subst e1
    by_cases e2 : p = p'
    · subst e2
      go_enter Try.func39, Try.ntmps39
      go_wp2_with (first | (go_at_call 13; (with_reducible refine (bits_of b n c _ hn _ h1).mono ?_); rintro e w' ⟨rfl, rfl⟩) | (go_at_call 13; (with_reducible refine (bits_of b' _ c' _ hn' _ g1).mono ?_); rintro e w' ⟨rfl, rfl⟩) | (go_at_call 49; (with_reducible refine (probes_of b p _ h0).mono ?_); rintro e w' ⟨rfl, rfl⟩) | (go_at_call 49; (with_reducible refine (probes_of b' _ _ g0).mono ?_); rintro e w' ⟨rfl, rfl⟩))
      go_ret
      exact ⟨by simp, rfl⟩
    · have d2 : ((p : Int) == p') = false := by simp; omega
      have E2 := Lib.hid e2
      clear e2
      go_enter Try.func39, Try.ntmps39
      go_wp2_with (first | (go_at_call 13; (with_reducible refine (bits_of b n c _ hn _ h1).mono ?_); rintro e w' ⟨rfl, rfl⟩) | (go_at_call 13; (with_reducible refine (bits_of b' _ c' _ hn' _ g1).mono ?_); rintro e w' ⟨rfl, rfl⟩) | (go_at_call 49; (with_reducible refine (probes_of b p _ h0).mono ?_); rintro e w' ⟨rfl, rfl⟩) | (go_at_call 49; (with_reducible refine (probes_of b' _ _ g0).mono ?_); rintro e w' ⟨rfl, rfl⟩))
      go_ret
      have := E2.out
      exact ⟨by simp [this], rfl⟩
  · have d1 : ((8 * n : Int) == 8 * n') = false := by simp; omega
    have E1 := Lib.hid e1
    clear e1
    go_enter Try.func39, Try.ntmps39
    go_wp2_with (first | (go_at_call 13; (with_reducible refine (bits_of b n c _ hn _ h1).mono ?_); rintro e w' ⟨rfl, rfl⟩) | (go_at_call 13; (with_reducible refine (bits_of b' _ c' _ hn' _ g1).mono ?_); rintro e w' ⟨rfl, rfl⟩) | (go_at_call 49; (with_reducible refine (probes_of b p _ h0).mono ?_); rintro e w' ⟨rfl, rfl⟩) | (go_at_call 49; (with_reducible refine (probes_of b' _ _ g0).mono ?_); rintro e w' ⟨rfl, rfl⟩))
    go_ret
    have := E1.out
    exact ⟨by simp [this], rfl⟩

end Go.Proofs.Ytinelhjkgikigaa.B
