/- The walks of the law's weight and short; the calls that a law is given. -/
import Derived.Test.YtikjckdoldiddaaGreatDoorC10
namespace Go.Proofs.YtikjckdoldiddaaGreatDoor
open Go.RowKit Go.Maps
set_option linter.unusedVariables false
set_option linter.unusedSimpArgs false
attribute [local go_sem] bmax2 bmin2 bmax_two bmin_two

/-- How many bytes entries have, as the law counts. -/
def wt20 (l : List Ent) : Nat := (l.map fun e => 20 + e.d.length).sum
theorem wt20_take (l : List Ent) (k : Nat) (hk : k < l.length) : wt20 (l.take (k + 1)) = wt20 (l.take k) + (20 + l[k].d.length) := by
  unfold wt20
  rw [List.take_succ_eq_append_getElem hk]
  simp only [List.map_append, List.sum_append, List.map_cons, List.map_nil, List.sum_cons, List.sum_nil, Nat.add_zero]
def WeightPost (l : List Ent) (w : World) (e : Ending) (w' : World) : Prop := ∃ m : Nat, e = .returned (.int .i64 (m : Int)) ∧ m ≤ 262164 ∧ (m ≤ 131072 → wt20 l = m) ∧ w' = w
set_option maxHeartbeats 1000000 in
theorem weight_any {F : Nat → Prop} {w : World} {a : Option Addr} {n c : Nat} {l : List Ent} (h : EsF F w a n c l) :
    Calls Tryz.prog 51 #[.slice a n c] w (WeightPost l w) := by
  have HE := hid h
  have hn := h.1
  have hn40 := h.2.2.1.2
  have HN := hid hn
  have hnb : n ≤ 3518437208781 := by omega
  clear h hn hn40
  go_enter Tryz.func51, Tryz.ntmps51
  go_wp2
  go_loop [3, 4] (fun y z => ∃ (k m : Nat), k ≤ n ∧ z = .int .i64 (k : Int) ∧ y = .int .i64 (m : Int) ∧ m ≤ 262164 ∧ Hid (m ≤ 131072 → wt20 (l.take k) = m)) (fun _ z => n - (intOf z).toNat)
  case atStart => exact ⟨0, 0, Nat.zero_le _, rfl, rfl, by omega, fun _ => rfl⟩
  obtain ⟨k, m, hk, rfl, rfl, hm, HM⟩ := hrel
  by_cases hlt : k < n
  · by_cases hmm : m ≤ 131072
    · have hmb : decide ((m : Int) ≤ 131072) = true := by simp; omega
      obtain ⟨b, o, rfl, -, -, hkl, -, -, hc0, hc1, a', n', c', hc2, hd⟩ := HE.out.at_ hlt
      have hn' := hd.2.2.1.2
      have HD := hid hd.1
      have h1 := wt20_take l k hkl
      have h2 := HM.out hmm
      obtain ⟨x, hx⟩ : ∃ x, x = min n' 131072 := ⟨_, rfl⟩
      have hxx : min (n' : Int) 131072 = (x : Int) := by omega
      have hxl : x ≤ 131072 := by omega
      have H1 := hid (show m + (20 + x) ≤ 131072 → wt20 (l.take (k + 1)) = m + (20 + x) from fun h => by have h3 := HD.out; omega)
      have hk0 : (0 : Int) ≤ (k : Int) := by omega
      clear hd h1 h2 HM hx
      go_wp2
      go_round
      case rel => exact ⟨k + 1, m + (20 + x), by omega, by go_num, by go_num, by omega, H1.out⟩
      case measure => simp [intOf]; omega
    have hmb : decide ((m : Int) ≤ 131072) = false := by simp; omega
    have H1 := hid (show m ≤ 131072 → wt20 l = m from fun h => absurd h hmm)
    clear hmm HM
    go_wp2
    go_ret
    exact ⟨m, rfl, hm, H1.out, rfl⟩
  have H1 := hid (show m ≤ 131072 → wt20 l = m from fun h => by have h1 := HM.out h; rw [List.take_of_length_le (by have := HN.out; omega)] at h1; exact h1)
  clear HM
  go_wp2
  go_ret
  exact ⟨m, rfl, hm, H1.out, rfl⟩
/-- A call that a law is given. -/
structure DoW where
  o : Int
  l : List Ent
  ht : Int
  hv : Int
  n : Int
  t : Int
  kp : Int
  tr : Int
structure DoF (F : Nat → Prop) (w : World) (b o : Nat) (d : DoW) : Prop where
  i64 : In64 d.o ∧ In64 d.ht ∧ In64 d.hv ∧ In64 d.n ∧ In64 d.t ∧ In64 d.kp ∧ In64 d.tr
  c0 : w.cell? ⟨b, o, none⟩ = some (.int .i64 d.o)
  c1 : ∃ a n c, w.cell? ⟨b, o + 1, none⟩ = some (.slice a n c) ∧ EsF F w a n c d.l
  c2 : w.cell? ⟨b, o + 2, none⟩ = some (.int .i64 d.ht)
  c3 : w.cell? ⟨b, o + 3, none⟩ = some (.int .i64 d.hv)
  c4 : w.cell? ⟨b, o + 4, none⟩ = some (.int .i64 d.n)
  c5 : w.cell? ⟨b, o + 5, none⟩ = some (.int .i64 d.t)
  c6 : w.cell? ⟨b, o + 6, none⟩ = some (.int .i64 d.kp)
  c7 : w.cell? ⟨b, o + 7, none⟩ = some (.int .i64 d.tr)
def DosF (F : Nat → Prop) (w : World) (a : Option Addr) (n c : Nat) (D : List DoW) : Prop :=
  n = D.length ∧ n ≤ c ∧ n ≤ 140737488351232 ∧ (a = none → c = 0) ∧ ∀ p, a = some p → (0 < n → p.spot = none) ∧ ∀ k, (h : k < D.length) → F p.block ∧ DoF F w p.block (p.off + k * 8) D[k]
theorem DoF.keep {F G : Nat → Prop} {w w' : World} {b o : Nat} {d : DoW} (h : DoF F w b o d) (hb : w'.heap[b]? = w.heap[b]?) (hf : ∀ k, F k → k < w.heap.size → G k ∧ w'.heap[k]? = w.heap[k]?) : DoF G w' b o d := by
  have hc : ∀ j, w'.cell? ⟨b, j, none⟩ = w.cell? ⟨b, j, none⟩ := fun j => World.cell?_of_block (w := w) (a := ⟨b, j, none⟩) hb
  obtain ⟨h1, h2, ⟨a, n, c, h3, h4⟩, h5, h6, h7, h8, h9, h10⟩ := h
  exact ⟨h1, (hc _).trans h2, ⟨a, n, c, (hc _).trans h3, h4.keep hf⟩, (hc _).trans h5, (hc _).trans h6, (hc _).trans h7, (hc _).trans h8, (hc _).trans h9, (hc _).trans h10⟩
theorem DoF.lt {F : Nat → Prop} {w : World} {b o : Nat} {d : DoW} (h : DoF F w b o d) : b < w.heap.size := World.block_lt_of_cell? w ⟨b, o, none⟩ h.c0
theorem DosF.keep {F G : Nat → Prop} {w w' : World} {a : Option Addr} {n c : Nat} {D : List DoW} (h : DosF F w a n c D) (hf : ∀ k, F k → k < w.heap.size → G k ∧ w'.heap[k]? = w.heap[k]?) : DosF G w' a n c D :=
  ⟨h.1, h.2.1, h.2.2.1, h.2.2.2.1, fun p hp => ⟨(h.2.2.2.2 p hp).1, fun k hk => by
    obtain ⟨h1, h2⟩ := (h.2.2.2.2 p hp).2 k hk
    exact ⟨(hf _ h1 h2.lt).1, h2.keep (hf _ h1 h2.lt).2 hf⟩⟩⟩
theorem DosF.below {F : Nat → Prop} {w w' : World} {a : Option Addr} {n c : Nat} {D : List DoW} (h : DosF F w a n c D) (hx : Ext w w') : DosF F w' a n c D := h.keep fun k hk hl => ⟨hk, hx.block k hl⟩
theorem DosF.at_ {F : Nat → Prop} {w : World} {a : Option Addr} {n c : Nat} {D : List DoW} (h : DosF F w a n c D) {k : Nat} (hk : k < n) :
    ∃ b o, a = some ⟨b, o, none⟩ ∧ b < w.heap.size ∧ F b ∧ ∃ hl : k < D.length, DoF F w b (o + k * 8) D[k] := by
  obtain ⟨rfl, h2, h3, h4, h5⟩ := h
  cases a with
  | none => have := h4 rfl; omega
  | some p =>
    obtain ⟨h6, h7⟩ := h5 p rfl
    obtain ⟨b, o, s⟩ := p
    have hs : s = none := h6 (by omega)
    subst hs
    have h8 := h7 k hk
    exact ⟨b, o, rfl, h8.2.lt, h8.1, hk, h8.2⟩
/-- How many bytes calls have. -/
def sumW (D : List DoW) : Nat := (D.map fun d => wt20 d.l).sum
theorem sumW_take (D : List DoW) (k : Nat) (hk : k < D.length) : sumW (D.take (k + 1)) = sumW (D.take k) + wt20 D[k].l := by
  unfold sumW
  rw [List.take_succ_eq_append_getElem hk]
  simp only [List.map_append, List.sum_append, List.map_cons, List.map_nil, List.sum_cons, List.sum_nil, Nat.add_zero]
def ShortPost (D : List DoW) (w : World) (e : Ending) (w' : World) : Prop := ∃ bb, e = .returned (.bool bb) ∧ (bb = true → D.length ≤ 60 ∧ sumW D ≤ 131072) ∧ w' = w
set_option maxHeartbeats 2000000 in
theorem short_any {F : Nat → Prop} {w : World} {a : Option Addr} {n c : Nat} {D : List DoW} (h : DosF F w a n c D) :
    Calls Tryz.prog 12 #[.slice a n c] w (ShortPost D w) := by
  have HE := hid h
  have hn := h.1
  have hnb := h.2.2.1
  have HN := hid hn
  clear h hn
  go_enter Tryz.func12, Tryz.ntmps12
  go_wp2
  go_loop [3, 4] (fun y z => ∃ (k m : Nat), k ≤ n ∧ k ≤ 61 ∧ z = .int .i64 (k : Int) ∧ y = .int .i64 (m : Int) ∧ m ≤ 393236 ∧ Hid (m ≤ 131072 → sumW (D.take k) = m)) (fun _ z => n - (intOf z).toNat)
  case atStart => exact ⟨0, 0, Nat.zero_le _, by omega, rfl, rfl, by omega, fun _ => rfl⟩
  obtain ⟨k, m, hk, hk61, rfl, rfl, hm, HM⟩ := hrel
  by_cases hlt : k < n
  · have hltb : decide (k < n) = true := by simpa using hlt
    by_cases hk60 : k ≤ 60
    · have hkb : decide ((k : Int) ≤ 60) = true := by simp; omega
      by_cases hmm : m ≤ 131072
      · have hmb : decide ((m : Int) ≤ 131072) = true := by simp; omega
        obtain ⟨b, o, rfl, hbl, -, hkl, hdo⟩ := HE.out.at_ hlt
        obtain ⟨a', n', c', hc1, he⟩ := hdo.c1
        have HW := hid (weight_any he)
        have h1 := sumW_take D k hkl
        have h2 := HM.out hmm
        have HS := hid (And.intro h1 h2)
        have hk0 : (0 : Int) ≤ (k : Int) := by omega
        clear hdo he h1 h2 HM
        go_wp2_with fail
        refine Calls.mono HW.out ?_
        rintro e w1 ⟨x, rfl, hx, hxw, rfl⟩
        have HXW := hid hxw
        have H1 := hid (show m + x ≤ 131072 → sumW (D.take (k + 1)) = m + x from fun h => by obtain ⟨h1, h2⟩ := HS.out; have h3 := HXW.out (by omega); omega)
        clear hxw HXW HS HW
        go_wp2
        go_round
        case rel => exact ⟨k + 1, m + x, by omega, by omega, by go_num, by go_num, by omega, H1.out⟩
        case measure => simp [intOf]; omega
      have hmb : decide ((m : Int) ≤ 131072) = false := by simp; omega
      clear hmm HM
      cases hnn : decide ((n : Int) ≤ 60) with
      | true =>
        go_wp2
        go_ret
        exact ⟨false, rfl, (fun h => by cases h), rfl⟩
      | false =>
        go_wp2
        go_ret
        exact ⟨false, rfl, (fun h => by cases h), rfl⟩
    have hkb : decide ((k : Int) ≤ 60) = false := by simp; omega
    have hnn : decide ((n : Int) ≤ 60) = false := by simp; omega
    clear HM
    go_wp2
    go_ret
    exact ⟨false, rfl, (fun h => by cases h), rfl⟩
  have hltb : decide (k < n) = false := by simpa using hlt
  have H1 := hid (show m ≤ 131072 → sumW D = m from fun h => by have h1 := HM.out h; rw [List.take_of_length_le (by have := HN.out; omega)] at h1; exact h1)
  clear HM
  cases hnn : decide ((n : Int) ≤ 60) with
  | true =>
    have H2 := hid (show n ≤ 60 by have := of_decide_eq_true hnn; omega)
    cases hmb : decide ((m : Int) ≤ 131072) with
    | true =>
      have H3 := hid (show m ≤ 131072 by have := of_decide_eq_true hmb; omega)
      go_wp2
      go_ret
      exact ⟨true, rfl, fun _ => ⟨by rw [← HN.out]; exact H2.out, by rw [H1.out H3.out]; exact H3.out⟩, rfl⟩
    | false =>
      go_wp2
      go_ret
      exact ⟨false, rfl, (fun h => by cases h), rfl⟩
  | false =>
    go_wp2
    go_ret
    exact ⟨false, rfl, (fun h => by cases h), rfl⟩
end Go.Proofs.YtikjckdoldiddaaGreatDoor
