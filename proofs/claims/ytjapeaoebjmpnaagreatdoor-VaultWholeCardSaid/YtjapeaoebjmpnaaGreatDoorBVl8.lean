/- Lists of acts in memory; the walk of short. -/
import Derived.Test.YtjapeaoebjmpnaaGreatDoorBVl7
import Derived.BigQuiet
namespace Go.Proofs.YtjapeaoebjmpnaaGreatDoor
open Go.RowKit Go.Maps
set_option linter.unusedVariables false
set_option linter.unusedSimpArgs false
attribute [local go_sem] bmax2 bmin2 bmax_two bmin_two

/-- An act's nine cells. -/
def KtAt (F : Nat → Prop) (w : World) (b o : Nat) (k : Kt) : Prop :=
  ∃ va vn vc da dn dc, w.cell? ⟨b, o, none⟩ = some (.int .i64 k.op) ∧ w.cell? ⟨b, o + 1, none⟩ = some (.int .i64 k.s.i) ∧ w.cell? ⟨b, o + 2, none⟩ = some (.int .i64 k.s.t) ∧ w.cell? ⟨b, o + 3, none⟩ = some (.slice va vn vc) ∧
    w.cell? ⟨b, o + 4, none⟩ = some (.slice da dn dc) ∧ w.cell? ⟨b, o + 5, none⟩ = some (.int .i64 k.size) ∧ w.cell? ⟨b, o + 6, none⟩ = some (.int .i64 k.n) ∧ w.cell? ⟨b, o + 7, none⟩ = some (.int .i64 k.keep) ∧ w.cell? ⟨b, o + 8, none⟩ = some (.int .i64 k.tear) ∧
    (In64 k.op ∧ In64 k.s.i ∧ In64 k.s.t ∧ In64 k.size ∧ In64 k.n ∧ In64 k.keep ∧ In64 k.tear) ∧ IsF F w va vn vc k.s.vs ∧ ByF F w da dn dc k.s.d
theorem KtAt.keep {F G : Nat → Prop} {w w' : World} {b o : Nat} {k : Kt} (h : KtAt F w b o k) (hb : w'.heap[b]? = w.heap[b]?) (hf : ∀ q, F q → q < w.heap.size → G q ∧ w'.heap[q]? = w.heap[q]?) : KtAt G w' b o k := by
  obtain ⟨va, vn, vc, da, dn, dc, h0, h1, h2, h3, h4, h5, h6, h7, h8, h9, h10, h11⟩ := h
  have hc : ∀ j, w'.cell? ⟨b, j, none⟩ = w.cell? ⟨b, j, none⟩ := fun j => World.cell?_of_block (w := w) (a := ⟨b, j, none⟩) hb
  exact ⟨va, vn, vc, da, dn, dc, (hc _).trans h0, (hc _).trans h1, (hc _).trans h2, (hc _).trans h3, (hc _).trans h4, (hc _).trans h5, (hc _).trans h6, (hc _).trans h7, (hc _).trans h8, h9, h10.keep hf, h11.keep hf⟩
def KtsF (F : Nat → Prop) (w : World) (a : Option Addr) (n c : Nat) (l : List Kt) : Prop :=
  n = l.length ∧ n ≤ c ∧ c ≤ maxLen ∧ (a = none → c = 0) ∧ ∀ p, a = some p → (0 < c → p.spot = none) ∧ ∀ k, (h : k < l.length) → F p.block ∧ KtAt F w p.block (p.off + k * 9) l[k]
theorem KtsF.keep {F G : Nat → Prop} {w w' : World} {a : Option Addr} {n c : Nat} {l : List Kt} (h : KtsF F w a n c l) (hf : ∀ k, F k → k < w.heap.size → G k ∧ w'.heap[k]? = w.heap[k]?) : KtsF G w' a n c l := by
  obtain ⟨h1, h2, h3, h4, h5⟩ := h
  refine ⟨h1, h2, h3, h4, fun p hp => ⟨(h5 p hp).1, fun k hk => ?_⟩⟩
  obtain ⟨h6, h7⟩ := (h5 p hp).2 k hk
  have hl : p.block < w.heap.size := by
    obtain ⟨_, _, _, _, _, _, h8, -⟩ := h7
    exact World.block_lt_of_cell? w ⟨p.block, p.off + k * 9, none⟩ h8
  exact ⟨(hf _ h6 hl).1, h7.keep (hf _ h6 hl).2 hf⟩
theorem KtsF.below {F : Nat → Prop} {w w' : World} {a : Option Addr} {n c : Nat} {l : List Kt} (h : KtsF F w a n c l) (hx : Ext w w') : KtsF F w' a n c l := h.keep fun k hk hl => ⟨hk, hx.block k hl⟩
theorem KtsF.nil_ (F : Nat → Prop) (w : World) : KtsF F w none 0 0 [] := ⟨rfl, by simp, by simp, fun _ => rfl, fun p hp => by cases hp⟩
theorem KtsF.at_ {F : Nat → Prop} {w : World} {a : Option Addr} {n c : Nat} {l : List Kt} (h : KtsF F w a n c l) {k : Nat} (hk : k < n) : ∃ b o, a = some ⟨b, o, none⟩ ∧ F b ∧ b < w.heap.size ∧ ∃ hl : k < l.length, KtAt F w b (o + k * 9) l[k] := by
  obtain ⟨rfl, h2, h3, h4, h5⟩ := h
  cases a with
  | none => have := h4 rfl; omega
  | some p =>
    obtain ⟨b, o, s⟩ := p
    have hs : s = none := (h5 _ rfl).1 (by omega)
    subst hs
    obtain ⟨h6, h7⟩ := (h5 _ rfl).2 k hk
    have hl : b < w.heap.size := by
      obtain ⟨_, _, _, _, _, _, h8, -⟩ := h7
      exact World.block_lt_of_cell? w ⟨b, o + k * 9, none⟩ h8
    exact ⟨b, o, rfl, h6, hl, hk, h7⟩
/-- The lists of which something is asked. -/
def Small (l : List Kt) : Prop := l.length ≤ 40 ∧ ∀ x ∈ l, x.s.d.length ≤ 65536
def ShortPost (l : List Kt) (w : World) (e : Ending) (w' : World) : Prop := ∃ b, e = .returned (.bool b) ∧ (b = true → Small l) ∧ Ext w w'

set_option maxRecDepth 100000 in
set_option maxHeartbeats 4000000 in
theorem short_any {F : Nat → Prop} {w : World} {a : Option Addr} {n c : Nat} {l : List Kt} (h : KtsF F w a n c l) :
    Calls Tryz.prog 14 #[.slice a n c] w (ShortPost l w) := by
  have hn := h.1
  have hn63 : n ≤ 9223372036854775807 := by have h1 := h.2.1; have h2 := h.2.2.1; unfold maxLen at h2; omega
  have HN := hid hn
  have H := hid h
  clear h hn
  go_enter Tryz.func14, Tryz.ntmps14
  go_wp2
  go_loopw [3, 4] (fun x z wr => ∃ (k m : Nat), k ≤ n ∧ k ≤ 41 ∧ z = .int .i64 (k : Int) ∧ x = .int .i64 (m : Int) ∧ m ≤ 300000 ∧ Hid (m ≤ 65536 → ∀ y ∈ l.take k, y.s.d.length ≤ 65536) ∧ Hid (Ext w wr)) (fun _ z _ => 41 - (intOf z).toNat)
  case atStart => exact ⟨0, 0, Nat.zero_le _, by omega, rfl, rfl, by omega, hid (fun _ y hy => by simp at hy), Below.refl _ _⟩
  case round =>
    obtain ⟨k, m, hk, hk41, rfl, rfl, hm, HM, HX⟩ := hrel
    by_cases hlt : k < n ∧ k ≤ 40 ∧ m ≤ 65536
    · obtain ⟨h1, h2, h3⟩ := hlt
      obtain ⟨b, o, rfl, -, hbl, hl, hat⟩ := (H.out.below HX.out).at_ h1
      have het : l.take (k + 1) = l.take k ++ [l[k]] := List.take_succ_eq_append_getElem hl
      obtain ⟨y, hy⟩ : ∃ y, y = l[k] := ⟨_, rfl⟩
      rw [← hy] at hat het
      obtain ⟨va, vn, vc, da, dn, dc, -, -, -, q3, q4, -, -, -, -, -, -, hby⟩ := hat
      have hdn : dn = y.s.d.length := hby.1
      have hki : (0 : Int) ≤ (k : Int) := by omega
      have hki2 : (k : Int) < (n : Int) := by omega
      obtain ⟨m1, hm1⟩ : ∃ m1 : Nat, min (dn : Int) 65537 = (m1 : Int) := ⟨(min (dn : Int) 65537).toNat, by omega⟩
      obtain ⟨m2, hm2⟩ : ∃ m2 : Nat, min (vn : Int) 65536 = (m2 : Int) := ⟨(min (vn : Int) 65536).toNat, by omega⟩
      have hb1 : m1 ≤ 65537 := by omega
      have hb2 : m2 ≤ 65536 := by omega
      have hdm : m1 ≤ 65536 → dn ≤ 65536 := by omega
      obtain ⟨m3, hm3⟩ : ∃ m3 : Nat, (m1 : Int) + (m2 : Int) = (m3 : Int) := ⟨m1 + m2, by omega⟩
      have hm3n : m3 = m1 + m2 := by omega
      obtain ⟨m4, hm4⟩ : ∃ m4 : Nat, (m : Int) + (m3 : Int) = (m4 : Int) := ⟨m + m3, by omega⟩
      have hm4n : m4 = m + m3 := by omega
      have hw3 : IntKind.i64.wrap (m3 : Int) = (m3 : Int) := IntWalk.i64_in _ ⟨by omega, by omega⟩
      have hw4 : IntKind.i64.wrap (m4 : Int) = (m4 : Int) := IntWalk.i64_in _ ⟨by omega, by omega⟩
      have HM2 := hid (show m4 ≤ 65536 → ∀ z ∈ l.take (k + 1), z.s.d.length ≤ 65536 from fun h z hz => by
        rw [het] at hz
        rcases List.mem_append.1 hz with hz | hz
        · exact HM.out h3 z hz
        · rw [List.mem_singleton] at hz
          rw [hz, ← hdn]
          exact hdm (by omega))
      have hm4b : m4 ≤ 300000 := by omega
      clear hby hdn het hy hdm hb1 hb2 hm3n hm4n
      go_wp2
      refine wp_region_quiet_lit (by kernel_rfl) (by kernel_rfl) ?_
      repeat (any_goals (first | go_big_quiet_step (fail) | quiet_step (fail)))
      refine wpQuiet_nil ?_
      intro wq hwq
      obtain ⟨nq, hwq⟩ := hwq
      subst hwq
      go_wp2
      go_roundw
      case rel => exact ⟨k + 1, m4, by omega, by omega, by go_num, by go_num, hm4b, HM2.out, HX.out.trans' (ext_drewN wr nq)⟩
      case measure => simp [intOf]; omega
    · have hfin : ∀ b : Bool, b = (decide (n ≤ 40) && decide (m ≤ 65536)) → (b = true → Small l) := fun b hb hbt => by
        rw [hb, Bool.and_eq_true, decide_eq_true_eq, decide_eq_true_eq] at hbt
        have hkn : k = n := by
          rcases Nat.lt_or_ge k n with h | h
          · exact absurd ⟨h, by omega, hbt.2⟩ hlt
          · omega
        refine ⟨by have := HN.out; omega, fun x hx => HM.out hbt.2 x ?_⟩
        rw [hkn, List.take_of_length_le (by have := HN.out; omega)]
        exact hx
      have HFIN := hid hfin
      clear hfin
      have hcond : ¬ k < n ∨ (k < n ∧ ¬ k ≤ 40) ∨ (k < n ∧ k ≤ 40 ∧ ¬ m ≤ 65536) := by
        by_cases h1 : k < n
        · by_cases h2 : k ≤ 40
          · exact .inr (.inr ⟨h1, h2, fun h => hlt ⟨h1, h2, h⟩⟩)
          · exact .inr (.inl ⟨h1, h2⟩)
        · exact .inl h1
      clear hlt
      by_cases g1 : n ≤ 40
      all_goals by_cases g2 : m ≤ 65536
      all_goals rcases hcond with c1 | ⟨c1, c2⟩ | ⟨c1, c2, c3⟩
      all_goals first
        | (exfalso; omega)
        | (go_wp2; go_ret; exact ⟨_, rfl, HFIN.out _ (by first | (simp [g1, g2]; done) | (simp [g1]; omega) | (simp; omega)), HX.out⟩)
end Go.Proofs.YtjapeaoebjmpnaaGreatDoor
