/- A ledger that no call made. -/
import Derived.Test.YtjcmgkdlkadfmaaLw1
import Derived.Test.YtjcmgkdlkadfmaaLx
namespace Go.Proofs.Ytjcmgkdlkadfmaa
open Go.RowKit
set_option linter.unusedVariables false
set_option linter.unusedSimpArgs false
attribute [local go_sem] bmax2 bmin2 bmax_two bmin_two

def Nob (w : World) (p : Option Addr) : Prop := p = none ∨ ∃ b, p = some ⟨b, 0, none⟩ ∧ w.cell? ⟨b, 3, none⟩ = some (.bool false)
theorem Nob.drewN {w : World} {p : Option Addr} (h : Nob w p) (k : Nat) : Nob (w.drewN k) p := h
theorem Nob_made {w : World} {p : Option Addr} (h : Nob w p) : Calls Try.prog 42 #[.pointer p] w fun e w' => e = .returned (.bool false) ∧ w = w' := by
  rcases h with rfl | ⟨b, rfl, h⟩
  · exact made_nil w
  · exact made_at w h

theorem Nob_Base {w : World} {p : Option Addr} (h : Nob w p) : Calls Try.prog 40 #[.pointer p] w fun e w' => e = .returned (.tuple #[.int .i64 0, .int .i64 0]) ∧ ∃ k, w' = w.drewN k := by
  have H := hid h
  clear h
  go_enter Try.func40, Try.ntmps40
  go_wp2_with fail
  refine (Nob_made H.out).mono ?_
  rintro e w' ⟨rfl, rfl⟩
  go_wp2
  go_ret2
  exact ⟨rfl, 0, rfl⟩
theorem Nob_Last {w : World} {p : Option Addr} (h : Nob w p) : Calls Try.prog 19 #[.pointer p] w fun e w' => e = .returned (.tuple #[.int .i64 0, .int .i64 0]) ∧ ∃ k, w' = w.drewN k := by
  have H := hid h
  clear h
  go_enter Try.func19, Try.ntmps19
  go_wp2_with fail
  refine (Nob_made H.out).mono ?_
  rintro e w' ⟨rfl, rfl⟩
  go_wp2
  go_ret2
  exact ⟨rfl, 0, rfl⟩
theorem Nob_Term {w : World} {p : Option Addr} (h : Nob w p) (x : Int) : Calls Try.prog 24 #[.pointer p, .int .i64 x] w fun e w' => e = .returned (.tuple #[.int .i64 0, .bool false]) ∧ ∃ k, w' = w.drewN k := by
  have H := hid h
  clear h
  go_enter Try.func24, Try.ntmps24
  go_wp2_with fail
  refine (Nob_Last H.out).mono ?_
  rintro e w' ⟨rfl, k, rfl⟩
  go_wp2_with fail
  refine (Nob_made (H.out.drewN _)).mono ?_
  rintro e w' ⟨rfl, rfl⟩
  go_wp2
  go_ret2
  exact ⟨rfl, by first | exact ⟨_, rfl⟩ | exact ⟨_, World.drewN_drewN _ _ _⟩⟩
theorem Nob_From {w : World} {p : Option Addr} (h : Nob w p) (x m : Int) : Calls Try.prog 27 #[.pointer p, .int .i64 x, .int .i64 m] w fun e w' => e = .returned (.slice none 0 0) ∧ ∃ k, w' = w.drewN k := by
  have H := hid h
  clear h
  go_enter Try.func27, Try.ntmps27
  go_wp2_with fail
  refine (Nob_Last H.out).mono ?_
  rintro e w' ⟨rfl, k, rfl⟩
  go_wp2_with fail
  refine (Nob_made (H.out.drewN _)).mono ?_
  rintro e w' ⟨rfl, rfl⟩
  go_wp2
  go_ret
  exact ⟨rfl, by first | exact ⟨_, rfl⟩ | exact ⟨_, World.drewN_drewN _ _ _⟩⟩
theorem Nob_Add {w : World} {p : Option Addr} (h : Nob w p) (v : Value) : Calls Try.prog 33 #[.pointer p, v] w fun e w' => e = .returned (.int .i64 6) ∧ ∃ k, w' = w.drewN k := by
  have H := hid h
  clear h
  go_enter Try.func33, Try.ntmps33
  go_wp2_with fail
  refine (Nob_made H.out).mono ?_
  rintro e w' ⟨rfl, rfl⟩
  go_wp2
  go_ret
  exact ⟨rfl, by first | exact ⟨0, rfl⟩ | exact ⟨_, rfl⟩⟩
theorem Nob_Cut {w : World} {p : Option Addr} (h : Nob w p) (x : Int) : Calls Try.prog 32 #[.pointer p, .int .i64 x] w fun e w' => e = .returned (.int .i64 6) ∧ ∃ k, w' = w.drewN k := by
  have H := hid h
  clear h
  go_enter Try.func32, Try.ntmps32
  go_wp2_with fail
  refine (Nob_Last H.out).mono ?_
  rintro e w' ⟨rfl, k, rfl⟩
  go_wp2_with fail
  refine (Nob_made (H.out.drewN _)).mono ?_
  rintro e w' ⟨rfl, rfl⟩
  go_wp2
  go_ret
  exact ⟨rfl, by first | exact ⟨_, rfl⟩ | exact ⟨_, World.drewN_drewN _ _ _⟩⟩
theorem Nob_Rebase {w : World} {p : Option Addr} (h : Nob w p) (x t : Int) : Calls Try.prog 34 #[.pointer p, .int .i64 x, .int .i64 t] w fun e w' => e = .returned (.int .i64 6) ∧ ∃ k, w' = w.drewN k := by
  have H := hid h
  clear h
  go_enter Try.func34, Try.ntmps34
  go_wp2_with fail
  refine (Nob_made H.out).mono ?_
  rintro e w' ⟨rfl, rfl⟩
  go_wp2
  go_ret
  exact ⟨rfl, by first | exact ⟨0, rfl⟩ | exact ⟨_, rfl⟩⟩
theorem Nob_Fresh {w : World} {p : Option Addr} (h : Nob w p) (x t : Int) : Calls Try.prog 16 #[.pointer p, .int .i64 x, .int .i64 t] w fun e w' => e = .returned (.bool false) ∧ ∃ k, w' = w.drewN k := by
  have H := hid h
  clear h
  go_enter Try.func16, Try.ntmps16
  go_wp2_with fail
  refine (Nob_Last H.out).mono ?_
  rintro e w' ⟨rfl, k, rfl⟩
  go_wp2_with fail
  refine (Nob_made (H.out.drewN _)).mono ?_
  rintro e w' ⟨rfl, rfl⟩
  go_wp2
  go_ret
  exact ⟨rfl, by first | exact ⟨_, rfl⟩ | exact ⟨_, World.drewN_drewN _ _ _⟩⟩
theorem Nob_Merge {w : World} {p : Option Addr} (h : Nob w p) (x t : Int) (v : Value) : Calls Try.prog 30 #[.pointer p, .int .i64 x, .int .i64 t, v] w fun e w' => e = .returned (.tuple #[.int .i64 0, .slice none 0 0, .bool false]) ∧ ∃ k, w' = w.drewN k := by
  have H := hid h
  clear h
  go_enter Try.func30, Try.ntmps30
  go_wp2_with fail
  refine (Nob_made H.out).mono ?_
  rintro e w' ⟨rfl, rfl⟩
  go_wp2
  go_ret3
  exact ⟨rfl, by first | exact ⟨0, rfl⟩ | exact ⟨_, rfl⟩⟩
theorem Nob_Hint {w : World} {p : Option Addr} (h : Nob w p) (x : Int) : Calls Try.prog 20 #[.pointer p, .int .i64 x] w fun e w' => e = .returned (.int .i64 1) ∧ ∃ k, w' = w.drewN k := by
  have H := hid h
  clear h
  go_enter Try.func20, Try.ntmps20
  go_wp2_with fail
  refine (Nob_Last H.out).mono ?_
  rintro e w' ⟨rfl, k, rfl⟩
  go_wp2_with fail
  refine (Nob_made (H.out.drewN _)).mono ?_
  rintro e w' ⟨rfl, rfl⟩
  go_wp2
  go_ret
  exact ⟨rfl, by first | exact ⟨_, rfl⟩ | exact ⟨_, World.drewN_drewN _ _ _⟩⟩
theorem Nob_Clone {w : World} {p : Option Addr} (h : Nob w p) : Calls Try.prog 39 #[.pointer p] w fun e w' => e = .returned (.pointer none) ∧ ∃ k, w' = w.drewN k := by
  have H := hid h
  clear h
  go_enter Try.func39, Try.ntmps39
  go_wp2_with fail
  refine (Nob_made H.out).mono ?_
  rintro e w' ⟨rfl, rfl⟩
  go_wp2
  go_ret
  exact ⟨rfl, by first | exact ⟨0, rfl⟩ | exact ⟨_, rfl⟩⟩
end Go.Proofs.Ytjcmgkdlkadfmaa
