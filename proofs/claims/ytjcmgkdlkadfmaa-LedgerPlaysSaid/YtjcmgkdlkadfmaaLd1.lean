/- The walk of Same, where both lists are alike. -/
import Derived.Test.YtjcmgkdlkadfmaaLw5
import Derived.Laws.BytesString
namespace Go.Proofs.Ytjcmgkdlkadfmaa
open Go.RowKit
set_option linter.unusedVariables false
set_option linter.unusedSimpArgs false

theorem foldl_push (d : List UInt8) : ∀ s : ByteArray, (d.map fun x => (x.toNat : Int)).foldl (fun r n => r.push (UInt8.ofNat n.toNat)) s = ⟨s.data ++ d.toArray⟩ := by
  induction d with
  | nil => intro s; simp
  | cons x d ih =>
    intro s
    simp only [List.map_cons, List.foldl_cons, ih]
    simp [ByteArray.push]

theorem conv_bytes {P : Program} {F : Nat → Prop} {w : World} {a : Option Addr} {n c : Nat} {d : List UInt8} (h : ByF F w a n c d) {src dst e : TypeId}
    (hs : P.underlying src = some (.slice e)) (he : P.underlying e = some (.int .u8)) (hd : P.underlying dst = some .string) (q : Nat) :
    (convert src dst (.slice a n c)).run P (w.drewN q) = .ok (.string ⟨d.toArray⟩) (w.drewN q) := by
  rw [run_convert_bytes_string (w.drewN q) src dst e a n c hs he hd]
  cases a with
  | none =>
    have h0 := h.2.2.2.1 rfl
    have h1 := h.1
    have h2 := h.2.1
    have : d = [] := List.eq_nil_of_length_eq_zero (by omega)
    subst this
    simp [Conv.bytesToString]
    rfl
  | some p =>
    have hr := h.raw
    have hl := run_loadCells_list (P := P) (w.drewN q) p (u8s d) (fun j u hu => hr.2.2 p rfl j u hu)
    have hlen : (u8s d).length = n := by have := h.1; simp [u8s, this]
    rw [hlen] at hl
    have hm : (u8s d) = (d.map fun x => (x.toNat : Int)).map (Value.int .u8) := by simp [u8s]
    rw [hm] at hl
    rw [run_bytesToString (P := P) (w.drewN q) p n c _ hl, foldl_push]
    simp

set_option maxRecDepth 100000 in
set_option maxHeartbeats 2000000 in
theorem Same_any {F G : Nat → Prop} {a a' : Option Addr} {n n' c c' : Nat} {l : List Ent} (w : World) (h : EsF F w a n c l) (h' : EsF G w a' n' c' l) :
    Calls Try.prog 26 #[.slice a n c, .slice a' n' c'] w fun e w' => e = .returned (.bool true) ∧ ∃ k, w' = w.drewN k := by
  obtain rfl : n = l.length := h.1
  obtain rfl : n' = l.length := h'.1
  have h40 := h.2.2.1.2
  have H := hid h
  have H' := hid h'
  clear h h'
  go_enter Try.func26, Try.ntmps26
  go_wp2
  go_loopw [13] (fun z wr => ∃ k : Nat, k ≤ l.length ∧ z = .int .i64 k ∧ ∃ q, wr = w.drewN q) (fun z _ => l.length - (intOf z).toNat)
  case atStart => exact ⟨0, Nat.zero_le _, rfl, 0, rfl⟩
  case round =>
    obtain ⟨k, hk, rfl, q, rfl⟩ := hrel
    by_cases hlt : k < l.length
    · obtain ⟨p, o, rfl, -, -, hkl, -, -, hc0, hc1, a1, n1, c1, hc2, hd1⟩ := H.out.at_ hlt
      obtain ⟨p', o', rfl, -, -, hkl', -, -, hc0', hc1', a2, n2, c2, hc2', hd2⟩ := H'.out.at_ hlt
      have v1 := fun q => conv_bytes hd1 Try.underlying52 Try.underlying5 Try.underlying9 q
      have v2 := fun q => conv_bytes hd2 Try.underlying52 Try.underlying5 Try.underlying9 q
      clear hd1 hd2
      generalize l[k] = E at *
      have hk0 : (0 : Int) ≤ (k : Int) := by omega
      have hkl2 : (k : Int) < (l.length : Int) := by omega
      go_wp2_with fail
      go_quiet (fail)
      go_wp2
      go_roundw
      case rel => exact ⟨k + 1, by omega, by go_num, by first | exact ⟨_, rfl⟩ | exact ⟨_, World.drewN_drewN _ _ _⟩⟩
      case measure => simp [intOf]; omega
    · go_wp2
      go_ret
      exact ⟨rfl, _, rfl⟩
end Go.Proofs.Ytjcmgkdlkadfmaa
