/- The walks of the reference's From and Rebase. -/
import Derived.Test.YtjcmgkdlkadfmaaLr3
import Derived.Test.YtjcmgkdlkadfmaaLw7
import Derived.Test.YtjcmgkdlkadfmaaLc2
namespace Go.Proofs.Ytjcmgkdlkadfmaa
open Go.RowKit
set_option linter.unusedVariables false
set_option linter.unusedSimpArgs false
attribute [local go_sem] bmax2 bmin2 bmax_two bmin_two

/-- Headers of entries whose bytes lie in memory. -/
def HdF (F : Nat → Prop) (w : World) (H : List EH) (l : List Ent) : Prop :=
  H.length = l.length ∧ (∀ k (h1 : k < H.length) (h2 : k < l.length), H[k].i = l[k].i ∧ H[k].t = l[k].t ∧ ByF F w H[k].a H[k].n H[k].c l[k].d) ∧ ∀ k, (h : k < l.length) → In64 l[k].i ∧ In64 l[k].t
theorem HdF.nil (F : Nat → Prop) (w : World) : HdF F w [] [] := ⟨rfl, (fun k h => by cases h), fun k h => by cases h⟩
theorem HdF.push {F : Nat → Prop} {w : World} {H : List EH} {l : List Ent} (h : HdF F w H l) {e : Ent} {a : Option Addr} {n c : Nat} (h1 : In64 e.i) (h2 : In64 e.t) (hd : ByF F w a n c e.d) :
    HdF F w (H ++ [⟨e.i, e.t, a, n, c⟩]) (l ++ [e]) := by
  obtain ⟨hl, hf, h64⟩ := h
  refine ⟨by simp [hl], fun k k1 k2 => ?_, fun k hk => ?_⟩
  · by_cases hk : k < l.length
    · have hk1 : k < H.length := by omega
      rw [List.getElem_append_left hk1, List.getElem_append_left hk]
      exact hf k hk1 hk
    · have hke : k = l.length := by simp at k2; omega
      subst hke
      rw [List.getElem_append_right (by omega), List.getElem_append_right (by omega)]
      simp [hl]
      exact hd
  · by_cases hk' : k < l.length
    · rw [List.getElem_append_left hk']; exact h64 k hk'
    · have hke : k = l.length := by simp at hk; omega
      subst hke
      rw [List.getElem_append_right (by omega)]
      simp
      exact ⟨h1, h2⟩
theorem rawH_push (H : List EH) (h : EH) : rawH (H ++ [h]) = rawH H ++ h.cells := by simp [rawH]

theorem own_slice {w : World} {B : Nat} {e : TypeId} {size : Nat} {v : Value} {n : Nat} {xs : List Value} (h : w.ownsRow B e size v n xs) : ∃ a c, v = .slice a n c := by
  rcases h.2 with ⟨rfl, rfl⟩ | ⟨g, cap, cur, rfl, -⟩
  · exact ⟨_, _, rfl⟩
  · exact ⟨_, _, rfl⟩

def rfromGo (x m : Int) : List Ent → List Ent → List Ent
  | out, [] => out
  | out, e :: l => if (e.i = x ∨ 0 < out.length) ∧ (out.length : Int) < m then rfromGo x m (out ++ [e]) l else rfromGo x m out l
theorem rfromGo_drop (x m : Int) (out l : List Ent) (k : Nat) (hk : k < l.length) :
    rfromGo x m out (l.drop k) = if (l[k].i = x ∨ 0 < out.length) ∧ (out.length : Int) < m then rfromGo x m (out ++ [l[k]]) (l.drop (k + 1)) else rfromGo x m out (l.drop (k + 1)) := by
  rw [List.drop_eq_getElem_cons hk]; rfl
theorem rfromGo_some (x m : Int) : ∀ (l out : List Ent), 0 < out.length → rfromGo x m out l = out ++ l.take (m - out.length).toNat := by
  intro l
  induction l with
  | nil => intro out h; simp [rfromGo]
  | cons e l ih =>
    intro out h
    unfold rfromGo
    by_cases hm : (out.length : Int) < m
    · rw [if_pos ⟨.inr h, hm⟩, ih _ (by simp)]
      have e1 : (m - (out.length : Int)).toNat = (m - ((out ++ [e]).length : Int)).toNat + 1 := by simp; omega
      rw [e1, List.take_succ_cons]
      simp
    · rw [if_neg (fun h => hm h.2), ih _ h]
      have e1 : (m - (out.length : Int)).toNat = 0 := by omega
      rw [e1]; simp
theorem rfromGo_none (x m : Int) : ∀ l : List Ent, (∀ e, e ∈ l → e.i ≠ x) → rfromGo x m [] l = [] := by
  intro l
  induction l with
  | nil => intro _; rfl
  | cons e l ih =>
    intro h
    unfold rfromGo
    rw [if_neg (by rintro ⟨h1 | h1, -⟩; exact h e (by simp) h1; simp at h1)]
    exact ih fun e' he => h e' (by simp [he])
theorem rfromGo_zero (x m : Int) (hm : m ≤ 0) : ∀ l : List Ent, rfromGo x m [] l = [] := by
  intro l
  induction l with
  | nil => rfl
  | cons e l ih =>
    unfold rfromGo
    rw [if_neg (by rintro ⟨-, h⟩; simp at h; omega)]
    exact ih
theorem rfromGo_at (x m : Int) (hm : 0 < m) : ∀ (l : List Ent) (p : Nat), (hp : p < l.length) → l[p].i = x → (∀ j, (hj : j < l.length) → j < p → l[j].i ≠ x) → rfromGo x m [] l = (l.drop p).take m.toNat := by
  intro l
  induction l with
  | nil => intro p hp; simp at hp
  | cons e l ih =>
    intro p hp hx hno
    unfold rfromGo
    cases p with
    | zero =>
      have he : e.i = x := by simpa using hx
      rw [if_pos ⟨.inl he, by simpa using hm⟩, rfromGo_some _ _ _ _ (by simp)]
      have e1 : m.toNat = (m - (([] ++ [e] : List Ent).length : Int)).toNat + 1 := by simp; omega
      rw [e1]
      simp
    | succ p =>
      have he : e.i ≠ x := by have := hno 0 (by simp) (by omega); simpa using this
      rw [if_neg (by rintro ⟨h1 | h1, -⟩; exact he h1; simp at h1)]
      rw [ih p (by simpa using hp) (by simpa using hx) (fun j hj hjp => by have := hno (j + 1) (by simpa using hj) (by omega); simpa using this)]
      simp
theorem LS.Ok.rfrom {s : LS} (h : s.Ok) (x m : Int) : rfromGo x m [] s.l = s.from_ x m := by
  have hle := h.last_le
  unfold LS.from_
  by_cases hx : x ≤ s.i
  · rw [if_pos hx]
    refine rfromGo_none _ _ _ fun e he => ?_
    obtain ⟨k, hk, rfl⟩ := List.getElem_of_mem he
    have := (h.at_ hk).1
    omega
  · rw [if_neg hx]
    by_cases hm : m ≤ 0
    · rw [rfromGo_zero _ _ hm]
      have : (max 0 m).toNat = 0 := by omega
      rw [this]; simp
    · have hmm : (max 0 m).toNat = m.toNat := by omega
      rw [hmm]
      by_cases hp : (x - s.i - 1).toNat < s.l.length
      · refine rfromGo_at _ _ (by omega) _ _ hp ?_ fun j hj hjp => ?_
        · have := (h.at_ hp).1; omega
        · have := (h.at_ hj).1; omega
      · rw [List.drop_eq_nil_of_le (by omega), List.take_nil]
        refine rfromGo_none _ _ _ fun e he => ?_
        obtain ⟨k, hk, rfl⟩ := List.getElem_of_mem he
        have := (h.at_ hk).1
        omega

set_option maxRecDepth 100000 in
set_option maxHeartbeats 4000000 in
theorem RFrom_at {F : Nat → Prop} {w : World} {b : Nat} {s : LS} (h : RefAt F w b s) (hok : s.Ok) (x m : Int) (hx : In64 x) (hm : In64 m) :
    Calls Try.prog 28 #[.pointer (some ⟨b, 0, none⟩), .int .i64 x, .int .i64 m] w fun e w' => ∃ a c, e = .returned (.slice a (s.from_ x m).length c) ∧
      EsF (fun k => (F k ∧ k < w.heap.size) ∨ w.heap.size ≤ k) w' a (s.from_ x m).length c (s.from_ x m) ∧ Ext w w' := by
  obtain ⟨a, c, h0, h1, h2, -, hl, hbl⟩ := h.cells
  obtain ⟨R, hR⟩ : ∃ R, R = s.from_ x m := ⟨_, rfl⟩
  have hgo := hok.rfrom x m
  rw [← hR] at hgo ⊢
  have hn40 := hl.2.2.1.2
  have HL := hid hl.lt
  have HG := hid hgo
  clear hl hgo hR h hok h0 h1
  go_enter Try.func28, Try.ntmps28
  go_wp2
  go_loopw [7, 15] (fun v z wr => ∃ (k : Nat) (out : List Ent) (H : List EH) (ao : Option Addr) (co : Nat), k ≤ s.l.length ∧ z = .int .i64 k ∧ out.length ≤ k ∧ v = .slice ao out.length co ∧ Hid (rfromGo x m out (s.l.drop k) = R) ∧
      Hid (HdF (fun b => F b ∧ b < w.heap.size) w H out) ∧ Hid (wr.ownsRow w.heap.size 54 3 v out.length (rawH H)) ∧ Ext w wr) (fun _ z _ => s.l.length - (intOf z).toNat)
  case atStart => exact ⟨0, [], [], none, 0, Nat.zero_le _, rfl, Nat.le_refl _, rfl, HG.out, HdF.nil _ _, World.ownsRow_nil _ _ _ _, Below.refl _ _⟩
  case round =>
    obtain ⟨k, out, H, ao, co, hk, rfl, hol, rfl, HK, HH, HO, hb⟩ := hrel
    by_cases hlt : k < s.l.length
    · obtain ⟨p, o, rfl, -, hpl, hkl, hx0, hx1, hc0, hc1, a', n', c', hc2, hd⟩ := (HL.out.below hb).at_ hlt
      have hpush : HdF (fun b => F b ∧ b < w.heap.size) w (H ++ [⟨s.l[k].i, s.l[k].t, a', n', c'⟩]) (out ++ [s.l[k]]) := HH.out.push hx0 hx1 (by
        obtain ⟨p', o', he, -, -, hkl', -, -, -, -, a'', n'', c'', hc2', hd'⟩ := HL.out.at_ hlt
        cases he
        have := (hb.cell (p := ⟨p, o + k * 3 + 2, none⟩) (World.block_lt_of_cell? w _ hc2')).trans hc2'
        rw [hc2] at this
        cases this
        exact hd')
      have hstep := rfromGo_drop x m out s.l k hkl
      generalize s.l[k] = E at *
      have HP := hid hpush
      have hs := hb.size
      clear hd hpush hx0 hx1
      have HST := hid hstep
      clear hstep
      have hA : (wr.alloc (.cells #[.int .i64 E.i, .int .i64 E.t, .slice a' n' c'] 54)).alloc (.cells #[.int .i64 E.i, .int .i64 E.t, .slice a' n' c'] 54) |>.ownsRow w.heap.size 54 3 (.slice ao out.length co) out.length (rawH H) := (HO.out.alloc _).alloc _
      have hB := news_row (wr.alloc (.cells #[.int .i64 E.i, .int .i64 E.t, .slice a' n' c'] 54)) [.int .i64 E.i, .int .i64 E.t, .slice a' n' c'] 1 3 54 rfl
      have hx2 : Ext w ((wr.alloc (.cells #[.int .i64 E.i, .int .i64 E.t, .slice a' n' c'] 54)).alloc (.cells #[.int .i64 E.i, .int .i64 E.t, .slice a' n' c'] 54)) := Ext.trans' hb (Ext.trans' (ext_alloc _ _) (ext_alloc _ _))
      have HA := hid hA
      have HB := hid hB
      have HX2 := hid hx2
      clear hA hB hx2
      by_cases q1 : E.i = x
      · subst q1
        clear HG
        go_wp2_with (at_builtin; refine wpList_append_row rfl (.tmp 34) (.tmp 36) _ rfl w.heap.size 54 (.agg #[.int .i64 0, .int .i64 0, .slice none 0 0]) 3 40 Try.underlying22 info_ent rfl (by decide) (.slice ao out.length co) out.length (rawH H) rfl HA.out (some ⟨wr.heap.size + 1, 0, none⟩) 1 1 [.int .i64 E.i, .int .i64 E.t, .slice a' n' c'] rfl (fun e => by cases e) (by have := HB.out; simpa using this) (by intro u hu; simp at hu; rcases hu with rfl | rfl | rfl <;> rfl) (by unfold maxLen; omega) (by omega) (by simp; omega) ?_; intro v' w1 hown1 hg; obtain ⟨a4, c4, rfl⟩ := own_slice hown1; have hx4 : Ext w w1 := HX2.out.grown hg (by simp; omega) (fun q hq => by have := HO.out.lt q hq; omega); have HO1 := hid hown1; clear hown1 hg)
        all_goals first
          | (have hno : ¬ ((E.i = E.i ∨ 0 < out.length) ∧ (out.length : Int) < m) := by omega
             go_roundw
             case rel => exact ⟨k + 1, out, H, ao, co, by omega, by go_num, by omega, rfl, by
               show rfromGo _ m out (s.l.drop (k + 1)) = R
               rw [← HK.out, HST.out, if_neg (by omega)], HH.out, (HO.out.alloc _), hb.alloc hs _⟩
             case measure => simp [intOf]; omega)
          | (have HO2 := HO1
             go_roundw
             case rel => exact ⟨k + 1, out ++ [E], H ++ [⟨E.i, E.t, a', n', c'⟩], a4, c4, by omega, by go_num, by simp; omega, by simp, by
               show rfromGo _ m (out ++ [E]) (s.l.drop (k + 1)) = R
               rw [← HK.out, HST.out, if_pos (by omega)], HP, by
               have h1 := HO1.out
               show World.ownsRow _ _ _ _ _ (out ++ [E]).length _
               rw [rawH_push]
               simpa [EH.cells] using h1, hx4⟩
             case measure => simp [intOf]; omega)
      · have q1b : (E.i == x) = false := by simpa using q1
        clear HG
        go_wp2_with (at_builtin; refine wpList_append_row rfl (.tmp 34) (.tmp 36) _ rfl w.heap.size 54 (.agg #[.int .i64 0, .int .i64 0, .slice none 0 0]) 3 40 Try.underlying22 info_ent rfl (by decide) (.slice ao out.length co) out.length (rawH H) rfl HA.out (some ⟨wr.heap.size + 1, 0, none⟩) 1 1 [.int .i64 E.i, .int .i64 E.t, .slice a' n' c'] rfl (fun e => by cases e) (by have := HB.out; simpa using this) (by intro u hu; simp at hu; rcases hu with rfl | rfl | rfl <;> rfl) (by unfold maxLen; omega) (by omega) (by simp; omega) ?_; intro v' w1 hown1 hg; obtain ⟨a4, c4, rfl⟩ := own_slice hown1; have hx4 : Ext w w1 := HX2.out.grown hg (by simp; omega) (fun q hq => by have := HO.out.lt q hq; omega); have HO1 := hid hown1; clear hown1 hg)
        all_goals first
          | (have hno : ¬ ((E.i = x ∨ 0 < out.length) ∧ (out.length : Int) < m) := by omega
             go_roundw
             case rel => exact ⟨k + 1, out, H, ao, co, by omega, by go_num, by omega, rfl, by
               show rfromGo _ m out (s.l.drop (k + 1)) = R
               rw [← HK.out, HST.out, if_neg (by omega)], HH.out, (HO.out.alloc _), hb.alloc hs _⟩
             case measure => simp [intOf]; omega)
          | (have HO2 := HO1
             go_roundw
             case rel => exact ⟨k + 1, out ++ [E], H ++ [⟨E.i, E.t, a', n', c'⟩], a4, c4, by omega, by go_num, by simp; omega, by simp, by
               show rfromGo _ m (out ++ [E]) (s.l.drop (k + 1)) = R
               rw [← HK.out, HST.out, if_pos (by omega)], HP, by
               have h1 := HO1.out
               show World.ownsRow _ _ _ _ _ (out ++ [E]).length _
               rw [rawH_push]
               simpa [EH.cells] using h1, hx4⟩
             case measure => simp [intOf]; omega)
    · have hke : k = s.l.length := by omega
      have hR := HK.out
      rw [hke, List.drop_length] at hR
      have hR : out = R := hR
      subst hR
      have h40 : out.length * 40 ≤ 140737488351232 := by omega
      obtain ⟨a5, c5, hv, he5⟩ := EsF.of_own (F := fun q => F q ∧ q < w.heap.size) HH.out.1 rfl h40 HO.out (fun k h1 h2 => by obtain ⟨e1, e2, e3⟩ := HH.out.2.1 k h1 h2; exact ⟨e1, e2, e3.keep fun q hq hs => ⟨hq, hb.block q hs⟩⟩) HH.out.2.2
      injection hv with e1 e2 e3
      subst e1; subst e3
      have HE := hid he5
      clear he5
      go_wp2
      go_ret
      exact ⟨_, _, rfl, HE.out, hb⟩
end Go.Proofs.Ytjcmgkdlkadfmaa
