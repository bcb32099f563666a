/- The walk of VaultWhole. Printed by gen_vh3.py. -/
import Derived.Test.YtjapeaoebjmpnaaGreatDoorBVh2
import Derived.Test.YtjapeaoebjmpnaaGreatDoorBVx1
namespace Go.Proofs.YtjapeaoebjmpnaaGreatDoor
open Go.RowKit Go.Maps
set_option linter.unusedVariables false
set_option linter.unusedSimpArgs false
attribute [local go_sem] bmax2 bmin2 bmax_two bmin_two

theorem Arm_at {D : Nat → Prop} {w : World} {g : Nat} {s : DS} (h : DiskAt D w g s) (n keep tear : Int) (hn : In64 n) :
    Calls Tryz.prog 21 #[.pointer (some ⟨g, 0, none⟩), .int .i64 n, .int .i64 keep, .int .i64 tear] w (DoPost D g (s.arm n keep tear) w) := by
  obtain ⟨ms, ml, av, H, h⟩ := h
  exact Arm_in h n keep tear hn

/-! ### an act ahead of others -/
theorem KtAt.cells {F : Nat → Prop} {w : World} {b o : Nat} {k : Kt} (h : KtAt F w b o k) : ∀ j, j < 9 → ∃ u, w.cell? ⟨b, o + j, none⟩ = some u ∧ u.oneCell' = true := by
  obtain ⟨va, vn, vc, da, dn, dc, h0, h1, h2, h3, h4, h5, h6, h7, h8, -⟩ := h
  intro j hj
  match j, hj with
  | 0, _ => exact ⟨_, h0, rfl⟩
  | 1, _ => exact ⟨_, h1, rfl⟩
  | 2, _ => exact ⟨_, h2, rfl⟩
  | 3, _ => exact ⟨_, h3, rfl⟩
  | 4, _ => exact ⟨_, h4, rfl⟩
  | 5, _ => exact ⟨_, h5, rfl⟩
  | 6, _ => exact ⟨_, h6, rfl⟩
  | 7, _ => exact ⟨_, h7, rfl⟩
  | 8, _ => exact ⟨_, h8, rfl⟩
  | m + 9, h => omega
theorem kts_row {F : Nat → Prop} {w : World} {a : Option Addr} {n c : Nat} {l : List Kt} (h : KtsF F w a n c l) :
    ∃ xs, RowAt w a n 9 xs ∧ (∀ u ∈ xs, u.oneCell' = true) ∧ ∀ b o, a = some ⟨b, o, none⟩ → ∀ j, j < n * 9 → xs[j]? = w.cell? ⟨b, o + j, none⟩ := by
  cases a with
  | none =>
    have h1 := h.2.2.2.1 rfl
    have h2 := h.2.1
    have hn : n = 0 := by omega
    subst hn
    exact ⟨[], ⟨by simp, fun _ => rfl, (fun p hp => by cases hp)⟩, (fun u hu => by cases hu), (fun b o e => by cases e)⟩
  | some p =>
    have hcell : ∀ j, j < n * 9 → ∃ u, w.cell? (p.add j) = some u ∧ u.oneCell' = true := fun j hj => by
      obtain ⟨b, o, e, -, -, hl, hat⟩ := h.at_ (k := j / 9) (by omega)
      injection e with e
      subst e
      obtain ⟨u, h1, h2⟩ := hat.cells (j % 9) (by omega)
      rw [show o + j / 9 * 9 + j % 9 = o + j by omega] at h1
      exact ⟨u, by rw [add_lit]; exact h1, h2⟩
    have hget : ∀ j, j < n * 9 → ((List.range (n * 9)).map fun j => (w.cell? (p.add j)).getD (.bool false))[j]? = w.cell? (p.add j) := fun j hj => by
      obtain ⟨u, h1, -⟩ := hcell j hj
      rw [List.getElem?_map, List.getElem?_range hj, Option.map_some, h1]
      rfl
    refine ⟨(List.range (n * 9)).map fun j => (w.cell? (p.add j)).getD (.bool false), ⟨by simp, fun e => (by cases e), fun q hq j u hu => ?_⟩, fun u hu => ?_, fun b o e j hj => ?_⟩
    · injection hq with hq
      subst hq
      have hj : j < n * 9 := by
        have := (List.getElem?_eq_some_iff.1 hu).1
        simpa using this
      rw [hget j hj] at hu
      exact hu
    · obtain ⟨j, hj, rfl⟩ := List.mem_map.1 hu
      obtain ⟨u, h1, h2⟩ := hcell j (List.mem_range.1 hj)
      rw [h1]
      exact h2
    · injection e with e
      subst e
      rw [hget j hj, add_lit]
theorem info_do : (Tryz.prog.info? 38).map (fun i => (i.zero, i.size, i.bytes)) = some (some (.agg #[.int .i64 0, .int .i64 0, .int .i64 0, .slice none 0 0, .slice none 0 0, .int .i64 0, .int .i64 0, .int .i64 0, .int .i64 0]), 9, 104) := by kernel_rfl
theorem kts_append {F G : Nat → Prop} {w w1 : World} {a : Option Addr} {n c B : Nat} {l : List Kt} {y : Kt} {ka ma : Option Addr} {kn kc mn mc : Nat} {v : Value} {xs : List Value} (h : KtsF F w a n c l)
    (hxs : ∀ b o, a = some ⟨b, o, none⟩ → ∀ j, j < n * 9 → xs[j]? = w.cell? ⟨b, o + j, none⟩) (hx : Ext w w1)
    (hy : KtV G w (.agg #[.int .i64 y.op, .int .i64 y.s.i, .int .i64 y.s.t, .slice ka kn kc, .slice ma mn mc, .int .i64 y.size, .int .i64 y.n, .int .i64 y.keep, .int .i64 y.tear]) y)
    (hown : w1.ownsRow B 38 9 v (1 + n) ([.int .i64 y.op, .int .i64 y.s.i, .int .i64 y.s.t, .slice ka kn kc, .slice ma mn mc, .int .i64 y.size, .int .i64 y.n, .int .i64 y.keep, .int .i64 y.tear] ++ xs)) :
    ∃ a4 c4, v = .slice a4 (1 + n) c4 ∧ KtsF (fun _ => True) w1 a4 (1 + n) c4 (y :: l) := by
  obtain ⟨hl, ⟨-, e⟩ | ⟨g, cap, cur, rfl, hb, hg, hle, hcap, hsz, htake⟩⟩ := hown
  · omega
  have hc : ∀ j, j < (1 + n) * 9 → w1.cell? ⟨g, j, none⟩ = ([.int .i64 y.op, .int .i64 y.s.i, .int .i64 y.s.t, .slice ka kn kc, .slice ma mn mc, .int .i64 y.size, .int .i64 y.n, .int .i64 y.keep, .int .i64 y.tear] ++ xs)[j]? := fun j hj => by
    rw [← htake, List.getElem?_take_of_lt hj]
    unfold World.cell?
    simp only [hg]
    simp [Array.getElem?_toList]
  have hn : n = l.length := h.1
  refine ⟨_, _, rfl, by rw [List.length_cons]; omega, hle, hcap, (fun e => by cases e), fun p hp => ?_⟩
  cases hp
  refine ⟨fun _ => rfl, fun k hk => ⟨trivial, ?_⟩⟩
  rw [List.length_cons] at hk
  cases k with
  | zero =>
    obtain ⟨ua, un, uc, ta, tn, tc, e, g0, g1, g2, g3, g4, g5, g6, hvs, hdd⟩ := hy
    simp only [Value.agg.injEq, Array.mk.injEq, List.cons.injEq, Value.slice.injEq, and_true, true_and] at e
    obtain ⟨⟨rfl, rfl, rfl⟩, rfl, rfl, rfl⟩ := e
    have c0 := hc 0 (by omega)
    have c1 := hc 1 (by omega)
    have c2 := hc 2 (by omega)
    have c3 := hc 3 (by omega)
    have c4 := hc 4 (by omega)
    have c5 := hc 5 (by omega)
    have c6 := hc 6 (by omega)
    have c7 := hc 7 (by omega)
    have c8 := hc 8 (by omega)
    simp only [List.cons_append, List.getElem?_cons_zero, List.getElem?_cons_succ] at c0 c1 c2 c3 c4 c5 c6 c7 c8
    exact ⟨ka, kn, kc, ma, mn, mc, c0, c1, c2, c3, c4, c5, c6, c7, c8, ⟨g0, g1, g2, g3, g4, g5, g6⟩, hvs.keep fun q hq hl => ⟨trivial, hx.block q hl⟩, hdd.keep fun q hq hl => ⟨trivial, hx.block q hl⟩⟩
  | succ i =>
    have hi : i < n := by omega
    obtain ⟨b, o2, ea, -, -, hil, hat⟩ := h.at_ hi
    have hat2 : KtAt (fun _ => True) w1 b (o2 + i * 9) l[i] := hat.keep (hx.block b (by obtain ⟨u, hu, -⟩ := hat.cells 0 (by omega); exact World.block_lt_of_cell? w _ hu)) fun q hq hl => ⟨trivial, hx.block q hl⟩
    obtain ⟨va, vn, vc, da, dn, dc, h0, h1, h2, h3, h4, h5, h6, h7, h8, h9⟩ := hat
    have hj : ∀ j u, j < 9 → w.cell? ⟨b, o2 + i * 9 + j, none⟩ = some u → w1.cell? ⟨g, 0 + (i + 1) * 9 + j, none⟩ = some u := fun j u hj hu => by
      rw [hc _ (by omega), show 0 + (i + 1) * 9 + j = i * 9 + j + 9 by omega]
      show xs[i * 9 + j]? = _
      rw [hxs b o2 ea _ (by omega), show o2 + (i * 9 + j) = o2 + i * 9 + j by omega]
      exact hu
    obtain ⟨-, -, -, -, -, -, -, -, -, -, -, -, -, -, -, k9, -, -⟩ := id hat2
    obtain ⟨k9, k10, k11⟩ := h9
    exact ⟨va, vn, vc, da, dn, dc, hj 0 _ (by omega) h0, hj 1 _ (by omega) h1, hj 2 _ (by omega) h2, hj 3 _ (by omega) h3, hj 4 _ (by omega) h4, hj 5 _ (by omega) h5, hj 6 _ (by omega) h6, hj 7 _ (by omega) h7, hj 8 _ (by omega) h8, k9,
      k10.keep fun q hq hl => ⟨trivial, hx.block q hl⟩, k11.keep fun q hq hl => ⟨trivial, hx.block q hl⟩⟩

/-! ### what the law's calls lead to -/
theorem saveS_ok {v : VS} (h : v.d.Ok) (s : Sn) : (saveS v s).2.d.Ok := by
  have hl := layS_ok (partsB s) 0 h
  have h3 := threeS_ok (nameB s.i) hl
  unfold saveS
  split
  · exact h
  · split
    · exact h
    · split
      · show DS.Ok (if _ then _ else _)
        split
        · exact (hl.drop _).sync
        · exact hl
      · split
        · exact h3
        · split
          · exact h3.drop _
          · exact h3
theorem saveS_acts {v : VS} (hc : v.d.acts = []) (s : Sn) : (saveS v s).2.d.acts.length ≤ 1000 := by
  by_cases hs : checkS s = 0
  · have h0 : v.d.acts.length = 0 := by rw [hc]; rfl
    have hl := layS_acts (partsB s) 0 v.d
    have hp := (partsB_len hs).1
    have h3 := threeS_acts (layS 0 (partsB s) v.d).2 (nameB s.i)
    have h4 := DS.drop_acts (threeS (layS 0 (partsB s) v.d).2 (nameB s.i)).2 (nameB v.s.i)
    have h5 := DS.drop_acts (layS 0 (partsB s) v.d).2 freshS
    have h6 := DS.sync_acts ((layS 0 (partsB s) v.d).2.drop freshS).2
    unfold saveS
    split
    · show v.d.acts.length ≤ _; omega
    · split
      · show v.d.acts.length ≤ _; omega
      · split
        · show (DS.acts (if _ then _ else _)).length ≤ _
          split
          · omega
          · omega
        · split
          · show (threeS _ _).2.acts.length ≤ _; omega
          · split
            · show ((threeS _ _).2.drop _).2.acts.length ≤ _; omega
            · show (threeS _ _).2.acts.length ≤ _; omega
  · rw [save_bad hs]
    show v.d.acts.length ≤ _
    rw [hc]
    simp
/-- Saves at a calm vault, whatever they answer. -/
theorem CalmV.any {v : VS} (h : CalmV v) (h0 : v.some = false → v.s = sn0) {s : Sn} (hl : s.d.length ≤ 70000) : CalmV (saveS v s).2 ∧ ((saveS v s).2.some = false → (saveS v s).2.s = sn0) := by
  by_cases h1 : checkS s = 0
  · by_cases h2 : v.some = true ∧ s.i ≤ v.s.i
    · rw [save_old h1 h2.1 h2.2]; exact ⟨h, h0⟩
    · obtain ⟨d', e, hc⟩ := h.save h1 (fun e => by
        rcases Int.lt_or_le v.s.i s.i with h3 | h3
        · exact h3
        · exact absurd ⟨e, h3⟩ h2) hl
      rw [e]
      exact ⟨hc, fun e => by cases e⟩
  · rw [save_bad h1]; exact ⟨h, h0⟩
/-- The disk does something; the vault's memory is as it was. -/
theorem VaAt.does {A : Nat → Prop} {w0 w : World} {g dg : Nat} {v : VS} (h : VaAt A w g dg v) (hx : Ext w0 w) (hA : ∀ q, A q → w0.heap.size ≤ q) :
    ∃ D, DiskAt D w dg v.d ∧ ∀ r e w', DoPost D dg r w e w' → e = .returned (.int .i64 r.1) ∧ Ext w0 w' ∧ VaAt (grow A w w') w' g dg ⟨v.s, v.some, r.2⟩ ∧ (∀ q, grow A w w' q → w0.heap.size ≤ q) ∧ Frm A w w' := by
  obtain ⟨D, G, h1, h2, h3, h4, h5, h6⟩ := h
  refine ⟨D, h1, fun r e w' hp => ?_⟩
  obtain ⟨k1, k2, k3⟩ := hp
  obtain ⟨m1, m2⟩ := VaAt.disk h2 h3 h4 h5 h6 h1.lt (Frm.refl A w) k2 k3
  refine ⟨k1, ext_frm hx k3 (fun q hq => hA q (h3 q hq).1), m1, fun q hq => ?_, m2⟩
  rcases hq with hq | hq
  · exact hA q hq
  · have := hx.size; omega
/-- A state in memory that no call writes. -/
structure Was (M A : Nat → Prop) (w : World) (pb : Nat) (s : Sn) : Prop where
  best : BestAt M w pb s
  hp : ¬ A pb
  hm : ∀ q, M q → ¬ A q
  lp : pb < w.heap.size
  lm : ∀ q, M q → q < w.heap.size
theorem Was.step {M A A' : Nat → Prop} {w w' : World} {pb : Nat} {s : Sn} (h : Was M A w pb s) (hf : Frm A w w') (hA : ∀ q, A' q → A q ∨ w.heap.size ≤ q) : Was M A' w' pb s :=
  ⟨h.best.frm hf h.hp h.hm, fun hq => by
    rcases hA pb hq with h1 | h1
    · exact h.hp h1
    · have := h.lp; omega, fun q hq h1 => by
    rcases hA q h1 with h1 | h1
    · exact h.hm q hq h1
    · have := h.lm q hq; omega, Nat.lt_of_lt_of_le h.lp hf.size, fun q hq => Nat.lt_of_lt_of_le (h.lm q hq) hf.size⟩
theorem Was.below {M A : Nat → Prop} {w w' : World} {pb : Nat} {s : Sn} (h : Was M A w pb s) (hx : Ext w w') : Was M A w' pb s := h.step (Frm.of_ext hx A) fun q hq => .inl hq
theorem Was.grow {M A : Nat → Prop} {w w' : World} {pb : Nat} {s : Sn} (h : Was M A w pb s) (hf : Frm A w w') : Was M (grow A w w') w' pb s := h.step hf fun q hq => by
  rcases hq with hq | hq
  · exact .inl hq
  · exact .inr hq.1
theorem Was.less {M A D : Nat → Prop} {w : World} {pb : Nat} {s : Sn} (h : Was M A w pb s) (hD : ∀ q, D q → A q) : Was M D w pb s := h.step (Frm.refl A w) fun q hq => .inl (hD q hq)
theorem arm_acts (d : DS) (n keep tear : Int) : (d.arm n keep tear).2.start.acts = d.acts := by
  unfold DS.arm
  split <;> rfl
def qN (z : Int) : Int := (IntKind.u64.wrap z).tmod 12
theorem qN_in (z : Int) : 0 ≤ qN z ∧ qN z < 12 := by
  have h0 : 0 ≤ IntKind.u64.wrap z := by rw [IntKind.wrap_u64]; omega
  have h3 := Int.tmod_lt_of_pos (IntKind.u64.wrap z) (show (0 : Int) < 12 by decide)
  have h4 := Int.tmod_nonneg 12 h0
  unfold qN
  exact ⟨h4, h3⟩
/-- All of the law's calls, one behind the other. -/
theorem whole_all {v : VS} (h : CalmV v) (h0 : v.some = false → v.s = sn0) (s : Sn) (q keep tear : Int) (hq0 : 0 ≤ q) (hq1 : q < 12) (hk : In64 keep) (ht : In64 tear) :
    ∃ d1 d2, v.d.sync = (0, d1) ∧ d1.Ok ∧ d1.arm (1 + q) keep tear = (0, d2) ∧ d1.acts = [] ∧ (VS.mk v.s v.some d2).Ok ∧ d2.acts = [] ∧
    (saveS ⟨v.s, v.some, d2⟩ s).2.d.Ok ∧ (saveS ⟨v.s, v.some, d2⟩ s).2.d.acts.length ≤ 1000 ∧
    ((saveS ⟨v.s, v.some, d2⟩ s).2.d.again keep tear).Ok ∧ ((saveS ⟨v.s, v.some, d2⟩ s).2.d.again keep tear).Nms ∧ ((saveS ⟨v.s, v.some, d2⟩ s).2.d.again keep tear).acts.length ≤ 1000 ∧
    (openS ((saveS ⟨v.s, v.some, d2⟩ s).2.d.again keep tear)).1 = 0 ∧
    (((saveS ⟨v.s, v.some, d2⟩ s).1 ≠ 22 ∧ (saveS ⟨v.s, v.some, d2⟩ s).1 ≠ 0 ∧ kept ((saveS ⟨v.s, v.some, d2⟩ s).2.d.again keep tear) = (v.s, v.some)) ∨
      ((saveS ⟨v.s, v.some, d2⟩ s).1 = 0 ∧ kept ((saveS ⟨v.s, v.some, d2⟩ s).2.d.again keep tear) = (s, true)) ∨
      ((saveS ⟨v.s, v.some, d2⟩ s).1 = 22 ∧ (kept ((saveS ⟨v.s, v.some, d2⟩ s).2.d.again keep tear) = (v.s, v.some) ∨ kept ((saveS ⟨v.s, v.some, d2⟩ s).2.d.again keep tear) = (s, true)))) := by
  have hok1 := h.calm.ok.sync
  have hs := sync_calm h.calm.off h.calm.left
  rw [hs] at hok1
  have hok1 : DS.Ok { v.d with last := v.d.seen, acts := [] } := hok1
  have hok2 := hok1.arm (1 + q) keep tear ⟨by show _ ≤ _; omega, by show _ ≤ _; omega⟩ hk ht
  have ha : DS.arm { v.d with last := v.d.seen, acts := [] } (1 + q) keep tear = (0, { v.d with last := v.d.seen, acts := [], left := max (1 + q) 0, keep := keep, tear := tear }) := by
    unfold DS.arm
    rw [if_neg (by show ¬ v.d.off = true; rw [h.calm.off]; simp)]
  rw [ha] at hok2
  refine ⟨_, _, hs, hok1, ha, rfl, ⟨hok2, h.calm.s⟩, rfl, saveS_ok hok2 s, saveS_acts rfl s, ?_⟩
  generalize hd2 : ({ v.d with last := v.d.seen, acts := [], left := max (1 + q) 0, keep := keep, tear := tear } : DS) = d2 at hok2 ⊢
  have hseen : d2.seen = v.d.seen := by rw [← hd2]
  have hda : DA d2.seen d2 := ⟨by rw [← hd2]; exact hok1.run.1, fun n _ => by rw [← hd2], fun a ha => by rw [← hd2] at ha; cases ha⟩
  have hw := saveS_whole (v := ⟨v.s, v.some, d2⟩) (s := s) hok2 hda (by rw [← hd2]; exact h.calm.off) (by show tGet d2.seen _ = _; rw [hseen]; exact h.calm.fresh) (fun e => by
    have e : v.some = true := e
    refine ⟨h.calm.s e, fileB v.s, ?_⟩
    show tGet d2.seen (nameB v.s.i) = _
    rw [hseen, h.calm.seen, if_pos e]
    unfold tGet
    rw [List.find?_cons_of_pos (by simp)]
    rfl)
  have hokr := saveS_ok hok2 s (v := ⟨v.s, v.some, d2⟩)
  obtain ⟨e1, e2⟩ := whole_end (v := ⟨v.s, v.some, d2⟩) hw hokr (by show d2.seen = _; rw [hseen]; exact h.calm.seen) h.calm.s h0 keep tear
  have hoke : ((saveS ⟨v.s, v.some, d2⟩ s).2.d.again keep tear).Ok := ((((hokr.arm 0 0 0 ⟨by decide, by decide⟩ ⟨by decide, by decide⟩ ⟨by decide, by decide⟩).start).crash keep tear).start)
  refine ⟨hoke, ?_, ?_, e1, e2⟩
  · exact whole_nms (v := ⟨v.s, v.some, d2⟩) hw hokr (by show d2.seen = _; rw [hseen]; exact h.calm.seen) h.calm.s keep tear
  · rw [again_eq hokr]
    exact Nat.zero_le _
set_option maxRecDepth 100000 in
set_option maxHeartbeats 8000000 in
theorem VaultWhole_calls {F G : Nat → Prop} {w : World} {a : Option Addr} {n c : Nat} {l : List Kt} (hl : KtsF F w a n c l) (hc : c * 104 ≤ 140737488351232) {v : Value} {y : Kt} (hv : KtV G w v y) (hT : TabP w) :
    Calls Tryz.prog 5 #[.slice a n c, v] w (fun e w' => e = .returned (.bool true) ∧ Ext w w') := by
  have HT := hid hT
  have HPL := hid hT.lt
  have HL := hid hl
  have HN := hid hl.1
  have hcn := hl.2.1
  have hn63 : n ≤ 9223372036854775807 := by omega
  have hac : a = none → c = 0 := hl.2.2.2.1
  have HKV := hid (fun W (hW : Ext w W) (hl : y.s.d.length ≤ 1000000000000) => snap_small (hv.below hW) hl)
  have HA := hid (fun W (hW : Ext w W) => awake_any (hT.ext hW))
  have HBE := hid (fun W (hW : Ext w W) => begun_any (hT.ext hW) (room := 16777216) (by decide) (by decide))
  obtain ⟨xs, hrow, hone, hxs⟩ := kts_row hl
  obtain ⟨ka, kn, kc, ma, mn, mc, rfl, g0, g1, g2, g3, g4, g5, g6, hvs, hdd⟩ := id hv
  have HAPP := hid (fun w1 B v' (hx : Ext w w1) hown => kts_append (w := w) (w1 := w1) (B := B) (v := v') (xs := xs) hl hxs hx hv hown)
  have HI := hid (show In64 y.n ∧ In64 y.keep ∧ In64 y.tear from ⟨g4, g5, g6⟩)
  have e1 := heap_alloc_new w (.cells #[.int .i64 y.op, .int .i64 y.s.i, .int .i64 y.s.t, .slice ka kn kc, .slice ma mn mc, .int .i64 y.size, .int .i64 y.n, .int .i64 y.keep, .int .i64 y.tear] 38)
  have x1 := ext_alloc w (.cells #[.int .i64 y.op, .int .i64 y.s.i, .int .i64 y.s.t, .slice ka kn kc, .slice ma mn mc, .int .i64 y.size, .int .i64 y.n, .int .i64 y.keep, .int .i64 y.tear] 38)
  have x2 := ext_alloc (w.alloc (.cells #[.int .i64 y.op, .int .i64 y.s.i, .int .i64 y.s.t, .slice ka kn kc, .slice ma mn mc, .int .i64 y.size, .int .i64 y.n, .int .i64 y.keep, .int .i64 y.tear] 38)) (.cells #[.int .i64 y.op, .int .i64 y.s.i, .int .i64 y.s.t, .slice ka kn kc, .slice ma mn mc, .int .i64 y.size, .int .i64 y.n, .int .i64 y.keep, .int .i64 y.tear] 38)
  have e2 := heap_alloc_new (w.alloc (.cells #[.int .i64 y.op, .int .i64 y.s.i, .int .i64 y.s.t, .slice ka kn kc, .slice ma mn mc, .int .i64 y.size, .int .i64 y.n, .int .i64 y.keep, .int .i64 y.tear] 38)) (.cells #[.int .i64 y.op, .int .i64 y.s.i, .int .i64 y.s.t, .slice ka kn kc, .slice ma mn mc, .int .i64 y.size, .int .i64 y.n, .int .i64 y.keep, .int .i64 y.tear] 38)
  have z1 : (w.alloc (.cells #[.int .i64 y.op, .int .i64 y.s.i, .int .i64 y.s.t, .slice ka kn kc, .slice ma mn mc, .int .i64 y.size, .int .i64 y.n, .int .i64 y.keep, .int .i64 y.tear] 38)).heap.size = w.heap.size + 1 := World.size_alloc ..
  have z2 : ((w.alloc (.cells #[.int .i64 y.op, .int .i64 y.s.i, .int .i64 y.s.t, .slice ka kn kc, .slice ma mn mc, .int .i64 y.size, .int .i64 y.n, .int .i64 y.keep, .int .i64 y.tear] 38)).alloc (.cells #[.int .i64 y.op, .int .i64 y.s.i, .int .i64 y.s.t, .slice ka kn kc, .slice ma mn mc, .int .i64 y.size, .int .i64 y.n, .int .i64 y.keep, .int .i64 y.tear] 38)).heap.size = w.heap.size + 2 := by rw [World.size_alloc, World.size_alloc]
  rw [z1] at e2
  have hA : ((w.alloc (.cells #[.int .i64 y.op, .int .i64 y.s.i, .int .i64 y.s.t, .slice ka kn kc, .slice ma mn mc, .int .i64 y.size, .int .i64 y.n, .int .i64 y.keep, .int .i64 y.tear] 38)).alloc (.cells #[.int .i64 y.op, .int .i64 y.s.i, .int .i64 y.s.t, .slice ka kn kc, .slice ma mn mc, .int .i64 y.size, .int .i64 y.n, .int .i64 y.keep, .int .i64 y.tear] 38)).ownsRow (w.heap.size + 1) 38 9 (.slice (some ⟨w.heap.size + 1, 0, none⟩) 1 1) 1 [.int .i64 y.op, .int .i64 y.s.i, .int .i64 y.s.t, .slice ka kn kc, .slice ma mn mc, .int .i64 y.size, .int .i64 y.n, .int .i64 y.keep, .int .i64 y.tear] :=
    ⟨rfl, .inr ⟨_, 1, _, rfl, Nat.le_refl _, e2, Nat.le_refl _, by unfold maxLen; omega, rfl, rfl⟩⟩
  have hB : RowAt ((w.alloc (.cells #[.int .i64 y.op, .int .i64 y.s.i, .int .i64 y.s.t, .slice ka kn kc, .slice ma mn mc, .int .i64 y.size, .int .i64 y.n, .int .i64 y.keep, .int .i64 y.tear] 38)).alloc (.cells #[.int .i64 y.op, .int .i64 y.s.i, .int .i64 y.s.t, .slice ka kn kc, .slice ma mn mc, .int .i64 y.size, .int .i64 y.n, .int .i64 y.keep, .int .i64 y.tear] 38)) a n 9 xs := hrow.ext (x1.trans' x2)
  have e12 := (x2.block w.heap.size (by omega)).trans e1
  have HA2 := hid hA
  have HB2 := hid hB
  have HX2 := hid x2
  have HX1 := hid x1
  have HE1 := hid e12
  have HONE := hid hone
  have HZ1 := hid z1
  have HZ2 := hid z2
  clear hl hv hT hrow hone hxs hA hB e1 e2 e12 x1 x2 z1 z2 g0 g1 g2 g3 g4 g5 g6 hvs hdd
  go_enter Tryz.func5, Tryz.ntmps5
  go_wp2_with (at_builtin; refine wpList_append_row rfl (.tmp 17) (.tmp 18) _ rfl (w.heap.size + 1) 38 (.agg #[.int .i64 0, .int .i64 0, .int .i64 0, .slice none 0 0, .slice none 0 0, .int .i64 0, .int .i64 0, .int .i64 0, .int .i64 0]) 9 104 Tryz.underlying31 info_do rfl (by decide) (.slice (some ⟨w.heap.size + 1, 0, none⟩) 1 1) 1 [.int .i64 y.op, .int .i64 y.s.i, .int .i64 y.s.t, .slice ka kn kc, .slice ma mn mc, .int .i64 y.size, .int .i64 y.n, .int .i64 y.keep, .int .i64 y.tear] rfl HA2.out a n c xs rfl hac HB2.out HONE.out (by unfold maxLen; omega) (by omega) (by have := HZ2.out; omega) ?_; intro v' w0 hown0 hg0; have HOWN := hid hown0; have HG0 := hid hg0; clear hown0 hg0)
  have x0 := HX2.out.grown HG0.out (by have := HZ1.out; have := HZ2.out; omega) (fun q hq => by injection hq with hq; have hq : w.heap.size + 1 = q := hq; have := HZ1.out; omega)
  have hx0 := HX1.out.trans' x0
  have e0 := (HG0.out.block w.heap.size (by have := HZ2.out; omega) (fun e => by injection e with e; have e : w.heap.size = w.heap.size + 1 := e; omega)).trans HE1.out
  obtain ⟨a4, c4, rfl, hkt⟩ := HAPP.out w0 _ v' hx0 HOWN.out
  have HSH := hid (short_any hkt)
  have HX0 := hid hx0
  have HE0 := hid e0
  have hz0 : w.heap.size < w0.heap.size := by have := (Array.getElem?_eq_some_iff.1 e0).1; exact this
  have HZ0 := hid hz0
  clear x0 hx0 e0 hkt hz0 HOWN HG0 HA2 HB2 HX2 HX1 HE1 HONE HZ1 HZ2 HAPP
  refine Calls.mono HSH.out ?_
  rintro e w1 ⟨b, rfl, hb, hx1⟩
  clear HSH
  have HX := hid (HX0.out.trans' hx1)
  have HBX := hid (fun W (hW : Ext w1 W) => cells9a (((hx1.trans' hW).block w.heap.size HZ0.out).trans HE0.out))
  have HPB := hid (show w.heap.size < w1.heap.size by have := HZ0.out; have := hx1.size; omega)
  clear hx1 HX0 HE0 HZ0
  cases b with
  | false =>
    clear hb
    go_wp2_with fail
    refine Calls.mono (HA.out w1 HX.out) ?_
    rintro e w2 ⟨rfl, hx2⟩
    go_wp2
    go_ret
    exact ⟨rfl, HX.out.trans' hx2⟩
  | true =>
    have HSM := hid (show ∀ x ∈ l, x.s.d.length ≤ 65536 from fun x hx => (hb rfl).2 x (List.mem_cons_of_mem _ hx))
    have hyl := (hb rfl).2 y (List.mem_cons_self ..)
    have HDL := hid (show y.s.d.length ≤ 1000000000000 by omega)
    have HL70 := hid (szN_len y hyl)
    clear hb hyl
    obtain ⟨s, hs⟩ : ∃ s, s = snapS y := ⟨_, rfl⟩
    rw [← hs] at HL70
    have HKV2 := hid (fun W (hW : Ext w W) => HKV.out W hW HDL.out)
    rw [← hs] at HKV2
    clear hs HKV HDL
    go_wp2_with fail
    refine Calls.mono (HBE.out w1 HX.out) ?_
    rintro e w2 ⟨dg, g, A, rfl, hv, hA, hx2⟩
    have HV2 := hid hv
    have HX2 := hid hx2
    have HAW := hid hA
    clear hv hA hx2
    go_wp2
    go_loopw [9, 32] (fun _ z wr => ∃ (k : Nat) (v : VS) (A : Nat → Prop), k ≤ n ∧ z = .int .i64 (k : Int) ∧ Hid (VaAt A wr g dg v) ∧ Hid (∀ q, A q → w1.heap.size ≤ q) ∧ Hid (CalmV v) ∧ Hid (v.some = false → v.s = sn0) ∧ Hid (Ext w1 wr)) (fun _ z _ => n - (intOf z).toNat)
    case atStart => exact ⟨0, ⟨sn0, false, DS.new 16777216⟩, A, Nat.zero_le _, rfl, HV2.out, HAW.out, CalmV.new, hid (fun _ => rfl), HX2.out⟩
    case round =>
      obtain ⟨k, v, A, hk, rfl, HV, HAW, HC, HNO, HXR⟩ := hrel
      by_cases hlt : k < n
      · obtain ⟨b, o, rfl, -, hbl, hkl, hat⟩ := HL.out.at_ hlt
        have hdl := HSM.out l[k] (List.getElem_mem _)
        obtain ⟨y2, hy⟩ : ∃ y2, y2 = l[k] := ⟨_, rfl⟩
        rw [← hy] at hat hdl
        obtain ⟨ka, kn, kc, ma, mn, mc, q0, q1, q2, q3, q4, q5, q6, q7, q8, hkv⟩ := hat.v
        have hxw := HX.out.trans' HXR.out
        have qc : ∀ j, wr.cell? ⟨b, j, none⟩ = w.cell? ⟨b, j, none⟩ := fun j => hxw.cell (p := ⟨b, j, none⟩) hbl
        have q0 := (qc _).trans q0
        have q1 := (qc _).trans q1
        have q2 := (qc _).trans q2
        have q3 := (qc _).trans q3
        have q4 := (qc _).trans q4
        have q5 := (qc _).trans q5
        have q6 := (qc _).trans q6
        have q7 := (qc _).trans q7
        have q8 := (qc _).trans q8
        have HS70 := hid (szN_len y2 hdl)
        have hdl2 : y2.s.d.length ≤ 1000000000000 := by omega
        have HKVk := hid (fun W (hW : Ext w W) => snap_small (hkv.below hW) hdl2)
        have hr1 := ext_alloc wr (.cells #[.int .i64 y2.op, .int .i64 y2.s.i, .int .i64 y2.s.t, .slice ka kn kc, .slice ma mn mc, .int .i64 y2.size, .int .i64 y2.n, .int .i64 y2.keep, .int .i64 y2.tear] 38)
        have hki : (0 : Int) ≤ (k : Int) := by omega
        have hki2 : (k : Int) < (n : Int) := by omega
        have HR1 := hid hr1
        clear hat hy hkv hdl hdl2 qc hxw hr1
        go_wp2_with fail
        refine Calls.mono (HKVk.out _ ((HX.out.trans' HXR.out).trans' HR1.out)) ?_
        rintro e r2 ⟨x0, x1, x2, x3, rfl, hsv, hx2⟩
        have HXS := hid (HXR.out.trans' (HR1.out.trans' hx2))
        have hzr := HR1.out.size
        have hsave := Save_any (HV.out.below (HR1.out.trans' hx2)) HC.out.ok (by have := HC.out.calm.acts; omega) hsv (fun q hq h => by have h1 := HV.out.lt q h; have h2 := hq.1; omega) (HT.out.ext (HX.out.trans' HXS.out)) (fun h => by have h1 := HAW.out _ h; have h2 := HPL.out; have h3 := HPB.out; omega)
        have hca := CalmV.any HC.out HNO.out HS70.out
        obtain ⟨⟨e0, v4⟩, hr⟩ : ∃ r, r = saveS v (snapS y2) := ⟨_, rfl⟩
        rw [← hr] at hsave hca
        have HSA := hid hsave
        have HCA := hid hca
        clear hsave hca hr hsv hx2 hzr q0 q1 q2 q3 q4 q5 q6 q7 q8 HKVk
        go_wp2_with fail
        refine Calls.mono HSA.out ?_
        rintro e r3 hp
        obtain ⟨hx3, hv3, hA3⟩ := SavePost.ext HXS.out HAW.out hp
        obtain ⟨rfl, -, -⟩ := hp
        have HV3 := hid hv3
        have HA3 := hid hA3
        have HX3 := hid hx3
        clear hx3 hv3 hA3 HSA
        go_wp2
        go_roundw
        case rel => exact ⟨k + 1, v4, _, by omega, by go_num, HV3.out, HA3.out, HCA.out.1, hid HCA.out.2, HX3.out⟩
        case measure => simp [intOf]; omega
      · have hkn : k = n := by omega
        clear hkn
        obtain ⟨vs, vb, vd⟩ := v
        obtain ⟨qn, hqn⟩ : ∃ qn, qn = qN y.n := ⟨_, rfl⟩
        have hq0 : 0 ≤ qn := by rw [hqn]; exact (qN_in y.n).1
        have hq1 : qn < 12 := by rw [hqn]; exact (qN_in y.n).2
        have hqt : (IntKind.u64.wrap y.n).tmod 12 = qn := by rw [hqn]; rfl
        obtain ⟨d1, d2, hsy, hok1, harm, hac1, hok2, hac2, hok3, hac3, hok4, hnm4, hac4, hop, hcase⟩ := whole_all HC.out HNO.out s qn y.keep y.tear hq0 hq1 HI.out.2.1 HI.out.2.2
        dsimp only at hsy hok2 hok3 hac3 hok4 hnm4 hac4 hop hcase
        obtain ⟨⟨e0, v3⟩, hr⟩ : ∃ r, r = saveS ⟨vs, vb, d2⟩ s := ⟨_, rfl⟩
        rw [← hr] at hok3 hac3 hok4 hnm4 hac4 hop hcase
        dsimp only at hok3 hac3 hok4 hnm4 hac4 hop hcase
        obtain ⟨⟨kk, kb⟩, hkk⟩ : ∃ p, p = kept (v3.d.again y.keep y.tear) := ⟨_, rfl⟩
        rw [← hkk] at hcase
        obtain ⟨D, hd, hdo⟩ := HV.out.does HXR.out HAW.out
        have hsyc := Sync_at hd HC.out.ok.d (by have := HC.out.calm.acts; omega)
        dsimp only at hsyc
        rw [hsy] at hsyc
        have HSY := hid hsyc
        have HDO := hid (hdo (0, d1))
        have HARM := hid harm
        have HOK2 := hid hok2
        have HAC2 := hid (show d2.acts.length ≤ 1000000000 by rw [hac2]; exact Nat.zero_le _)
        have HOKA := hid (show (v3.d.arm 0 0 0).2.start.Ok from (hok3.arm 0 0 0 ⟨by decide, by decide⟩ ⟨by decide, by decide⟩ ⟨by decide, by decide⟩).start)
        have HACA := hid (show (v3.d.arm 0 0 0).2.start.acts.length < 1000000000000 by rw [arm_acts]; omega)
        have HOK4 := hid hok4
        have HNM4 := hid hnm4
        have HAC4 := hid (show (v3.d.again y.keep y.tear).acts.length ≤ 1000000000 by omega)
        have HOP := hid hop
        have HCASE := hid hcase
        have HR := hid hr
        have HKK := hid hkk
        clear hqn hsy hok1 harm hac1 hok2 hac2 hok3 hac3 hok4 hnm4 hac4 hop hcase hr hkk hsyc hd hdo
        go_wp2_with fail
        refine Calls.mono HSY.out ?_
        rintro e w3 hp
        obtain ⟨rfl, hx3, hv3, hA3, -⟩ := HDO.out _ _ hp
        generalize grow A wr w3 = A3 at *
        have HX3 := hid hx3
        have HV3 := hid hv3
        have HA3 := hid hA3
        obtain ⟨G3, ho3, -⟩ := VaO.of_va hv3
        have HLA := hid (Last_any ho3)
        clear hp hx3 hv3 hA3 ho3 HSY HDO
        go_wp2_with fail
        refine Calls.mono HLA.out ?_
        rintro e w4 ⟨v4, rfl, hs4, hx4⟩
        obtain ⟨na, nn, nc, ra, rn, rc, rfl, -, -, -, -⟩ := id hs4
        have hx5 := ext_alloc w4 (.cells #[.int .i64 vs.i, .int .i64 vs.t, .slice na nn nc, .slice ra rn rc] 25)
        have hn5 := heap_alloc_new w4 (.cells #[.int .i64 vs.i, .int .i64 vs.t, .slice na nn nc, .slice ra rn rc] 25)
        have hz5 : (w4.alloc (.cells #[.int .i64 vs.i, .int .i64 vs.t, .slice na nn nc, .slice ra rn rc] 25)).heap.size = w4.heap.size + 1 := World.size_alloc ..
        have HX5 := hid (HX3.out.trans' (hx4.trans' hx5))
        have HV5 := hid (HV3.out.below (hx4.trans' hx5))
        have HW5 := hid (show Was (fun q => w3.heap.size ≤ q ∧ q < w4.heap.size) A3 (w4.alloc (.cells #[.int .i64 vs.i, .int .i64 vs.t, .slice na nn nc, .slice ra rn rc] 25)) w4.heap.size vs from
          ⟨⟨na, nn, nc, ra, rn, rc, hn5, hs4.below hx5⟩, fun h => by have h1 := HV3.out.lt _ h; have h2 := hx4.size; omega, fun q hq h => by have h1 := HV3.out.lt _ h; have h2 := hq.1; omega, by omega, fun q hq => by have := hq.2; omega⟩)
        obtain ⟨q0, q1, q2, q3, q4, q5, q6, q7, q8⟩ := HBX.out w4 (HX3.out.trans' hx4)
        have hqw : IntKind.i64.wrap qn = qn := IntWalk.i64_in _ ⟨by omega, by omega⟩
        have hqw2 : IntKind.i64.wrap (1 + qn) = 1 + qn := IntWalk.i64_in _ ⟨by omega, by omega⟩
        have hpb4 : w.heap.size < w4.heap.size := by have := HPB.out; have := HX3.out.size; have := hx4.size; omega
        clear hs4 hx4 hx5 hn5 hz5 HLA
        go_wp2_with fail
        generalize w4.alloc (.cells #[.int .i64 vs.i, .int .i64 vs.t, .slice na nn nc, .slice ra rn rc] 25) = w5 at *
        obtain ⟨M, hM⟩ : ∃ M : Nat → Prop, M = fun q => w3.heap.size ≤ q ∧ q < w4.heap.size := ⟨_, rfl⟩
        rw [← hM] at HW5
        obtain ⟨pw, hpw⟩ : ∃ pw, pw = w4.heap.size := ⟨_, rfl⟩
        rw [← hpw] at HW5 ⊢
        obtain ⟨D5, hd5, hdo5⟩ := HV5.out.does HX5.out HA3.out
        have hd5 : DiskAt D5 w5 dg d1 := hd5
        have harm := Arm_at hd5 (1 + qn) y.keep y.tear ⟨by omega, by omega⟩
        rw [HARM.out] at harm
        refine Calls.mono harm ?_
        rintro e w6 hp
        obtain ⟨rfl, hx6, hv6, hA6, hf6⟩ := hdo5 (0, d2) _ _ hp
        have HW6 := hid (HW5.out.grow hf6)
        generalize grow A3 w5 w6 = A6 at *
        have HV6 := hid (show VaAt A6 w6 g dg ⟨vs, vb, d2⟩ from hv6)
        have HA6 := hid hA6
        have HX6 := hid hx6
        clear hM hpw hd5 hdo5 harm hp hx6 hv6 hA6 hf6 hqw hqw2 hqt hq0 hq1 q0 q1 q2 q3 q4 q5 q6 q7 q8 hpb4 HW5 HV5 HX5
        obtain ⟨q0, q1, q2, q3, q4, q5, q6, q7, q8⟩ := HBX.out w6 HX6.out
        go_wp2_with fail
        refine Calls.mono (HKV2.out w6 (HX.out.trans' HX6.out)) ?_
        rintro e w7 ⟨x0, x1, x2, x3, rfl, hs7, hx7⟩
        have hsave := Save_any (HV6.out.below hx7) HOK2.out HAC2.out hs7 (fun q hq h => by have h1 := HV6.out.lt q h; have h2 := hq.1; omega) (HT.out.ext ((HX.out.trans' HX6.out).trans' hx7)) (fun h => by have h1 := HA6.out _ h; have h2 := HPL.out; have h3 := HPB.out; omega)
        rw [← HR.out] at hsave
        have HSA := hid hsave
        have HX7 := hid (HX6.out.trans' hx7)
        have HW7 := hid (HW6.out.below hx7)
        clear hsave hs7 hx7 q0 q1 q2 q3 q4 q5 q6 q7 q8 HW6 HV6
        go_wp2_with fail
        refine Calls.mono HSA.out ?_
        rintro e w8 hp
        have HW8 := hid (HW7.out.grow hp.2.2)
        obtain ⟨hx8, hv8, hA8⟩ := SavePost.ext HX7.out HA6.out hp
        obtain ⟨rfl, -, -⟩ := hp
        generalize grow A6 w7 w8 = A8 at *
        obtain ⟨D8, hd8, hDA⟩ := DiskAt.of_va hv8
        have HD8 := hid (show DiskAt D8 w8 dg v3.d from hd8)
        have HDD8 := hid (fun q (hq : D8 q) => hA8 q (hDA q hq))
        have HWD8 := hid (HW8.out.less hDA)
        have HX8 := hid hx8
        clear hx8 hv8 hA8 hd8 hDA HSA HW8 HW7
        go_wp2_with fail
        refine Calls.mono (Arm_at HD8.out 0 0 0 ⟨by decide, by decide⟩) ?_
        rintro e w9 hp
        have HW9 := hid (HWD8.out.grow hp.2.2)
        obtain ⟨hx9, hd9, hD9⟩ := DoPost.ext HX8.out HDD8.out hp
        obtain ⟨rfl, -, -⟩ := hp
        generalize grow D8 w8 w9 = D9 at *
        have HX9 := hid hx9
        have HD9 := hid hd9
        have HDD9 := hid hD9
        clear hx9 hd9 hD9 HD8 HDD8 HWD8
        go_wp2_with fail
        refine Calls.mono (Start_at HD9.out) ?_
        rintro e w10 hp
        have HW10 := hid (HW9.out.grow hp.2.2)
        obtain ⟨hx10, hd10, hD10⟩ := DoPost.ext HX9.out HDD9.out hp
        obtain ⟨rfl, -, -⟩ := hp
        generalize grow D9 w9 w10 = D10 at *
        have HX10 := hid hx10
        have HD10 := hid (show DiskAt D10 w10 dg (v3.d.arm 0 0 0).2.start from hd10)
        have HDD10 := hid hD10
        clear hx10 hd10 hD10 HD9 HDD9 HW9
        obtain ⟨q0, q1, q2, q3, q4, q5, q6, q7, q8⟩ := HBX.out w10 HX10.out
        go_wp2_with fail
        refine Calls.mono (Crash_at HD10.out HOKA.out HACA.out y.keep y.tear HI.out.2.1 HI.out.2.2) ?_
        rintro e w11 hp
        have HW11 := hid (HW10.out.grow hp.2.2)
        obtain ⟨hx11, hd11, hD11⟩ := DoPost.ext HX10.out HDD10.out hp
        obtain ⟨rfl, -, -⟩ := hp
        generalize grow D10 w10 w11 = D11 at *
        have HX11 := hid hx11
        have HD11 := hid hd11
        have HDD11 := hid hD11
        clear hx11 hd11 hD11 HD10 HDD10 HW10 q0 q1 q2 q3 q4 q5 q6 q7 q8
        go_wp2_with fail
        refine Calls.mono (Start_at HD11.out) ?_
        rintro e w12 hp
        have HW12 := hid (HW11.out.grow hp.2.2)
        obtain ⟨hx12, hd12, hD12⟩ := DoPost.ext HX11.out HDD11.out hp
        obtain ⟨rfl, -, -⟩ := hp
        generalize grow D11 w11 w12 = D12 at *
        have hopen := Open_any (show DiskAt D12 w12 dg (v3.d.again y.keep y.tear) from hd12) HOK4.out HNM4.out HAC4.out (HT.out.ext (HX.out.trans' hx12)) (fun h => by have h1 := hD12 _ h; have h2 := HPL.out; have h3 := HPB.out; omega)
        rw [← HKK.out] at hopen
        have HOPN := hid hopen
        have HX12 := hid hx12
        have HDD12 := hid hD12
        clear hx12 hd12 hD12 hopen HD11 HDD11 HW11
        go_wp2_with fail
        refine Calls.mono HOPN.out ?_
        rintro e w13 hp
        rcases hp with ⟨h, -⟩ | ⟨-, g2, rfl, hv13, hf13⟩
        · exact absurd HOP.out h
        have HW13 := hid (HW12.out.step (A' := fun _ => False) hf13 (fun q hq => hq.elim))
        have HX13 := hid (ext_frm HX12.out hf13 HDD12.out)
        obtain ⟨G13, ho13, -⟩ := VaO.of_va hv13
        have ho13 : VaO G13 w13 g2 kk kb dg := ho13
        have HLA := hid (Last_any ho13)
        clear hv13 hf13 ho13 HOPN HW12
        go_wp2_with fail
        refine Calls.mono HLA.out ?_
        rintro e w14 ⟨v14, rfl, hs14, hx14⟩
        obtain ⟨pa, pn, pc, da, dn, dc, rfl, -, -, -, -⟩ := id hs14
        have HW14 := hid (HW13.out.below hx14)
        have hx15 := ext_alloc w14 (.cells #[.int .i64 kk.i, .int .i64 kk.t, .slice pa pn pc, .slice da dn dc] 25)
        have hn15 := heap_alloc_new w14 (.cells #[.int .i64 kk.i, .int .i64 kk.t, .slice pa pn pc, .slice da dn dc] 25)
        have hz15 : w14.heap.size < (w14.alloc (.cells #[.int .i64 kk.i, .int .i64 kk.t, .slice pa pn pc, .slice da dn dc] 25)).heap.size := by simp
        obtain ⟨ba, bn, bc, bd, bm, bk, hbb, hbs⟩ := HW14.out.best
        have hplw : pw < w14.heap.size := HW14.out.lp
        have HX15 := hid (HX.out.trans' (HX13.out.trans' (hx14.trans' hx15)))
        have HBC := hid (fun W (hW : Ext (w14.alloc (.cells #[.int .i64 kk.i, .int .i64 kk.t, .slice pa pn pc, .slice da dn dc] 25)) W) => HBX.out W ((HX13.out.trans' (hx14.trans' hx15)).trans' hW))
        have HNC := hid (fun W (hW : Ext (w14.alloc (.cells #[.int .i64 kk.i, .int .i64 kk.t, .slice pa pn pc, .slice da dn dc] 25)) W) => (cells4 ((hW.block w14.heap.size hz15).trans hn15)).1)
        have HWC := hid (fun W (hW : Ext (w14.alloc (.cells #[.int .i64 kk.i, .int .i64 kk.t, .slice pa pn pc, .slice da dn dc] 25)) W) => (cells4 (((hx15.trans' hW).block pw hplw).trans hbb)).1)
        have HSN := hid (fun W (hW : Ext (w14.alloc (.cells #[.int .i64 kk.i, .int .i64 kk.t, .slice pa pn pc, .slice da dn dc] 25)) W) => (hs14.below hx15).below hW)
        have HSW := hid (fun W (hW : Ext (w14.alloc (.cells #[.int .i64 kk.i, .int .i64 kk.t, .slice pa pn pc, .slice da dn dc] 25)) W) => (hbs.below hx15).below hW)
        obtain ⟨u0, u1, u2, u3⟩ := (cells4 hbb).1
        clear hs14 hx14 hx15 hn15 hz15 hbb hbs HW14 HW13 HX13 HLA HX12 HDD12
        rcases HCASE.out with ⟨c1, c2, c3⟩ | ⟨c1, c3⟩ | ⟨c1, c3 | c3⟩
        · obtain ⟨k1, k2⟩ := Prod.mk.inj c3
          subst k1; subst k2
          have b0 : (e0 == 0) = false := by simpa using c2
          have b1 : (e0 != 22) = true := by simpa using c1
          have HSAME := hid (show sameS kk kk = true from sameS_iff.2 rfl)
          clear c1 c2 c3
          cases kb with
          | false =>
            go_wp2_with fail
            refine Calls.mono (Same_any (HSN.out _ (Below.refl _ _)) (HSW.out _ (Below.refl _ _))) ?_
            rintro e w16 ⟨he, hx16⟩
            rw [HSAME.out] at he
            subst he
            have HX16 := hid (HX15.out.trans' hx16)
            clear hx16
            go_wp2_with fail
            refine Calls.mono (HA.out _ HX16.out) ?_
            rintro e w17 ⟨rfl, hx17⟩
            go_wp2
            go_ret
            exact ⟨rfl, HX16.out.trans' hx17⟩
          | true =>
            go_wp2_with fail
            refine Calls.mono (Same_any (HSN.out _ (Below.refl _ _)) (HSW.out _ (Below.refl _ _))) ?_
            rintro e w16 ⟨he, hx16⟩
            rw [HSAME.out] at he
            subst he
            have HX16 := hid (HX15.out.trans' hx16)
            clear hx16
            go_wp2_with fail
            refine Calls.mono (HA.out _ HX16.out) ?_
            rintro e w17 ⟨rfl, hx17⟩
            go_wp2
            go_ret
            exact ⟨rfl, HX16.out.trans' hx17⟩
        · obtain ⟨k1, k2⟩ := Prod.mk.inj c3
          have hss : sameS kk s = true := sameS_iff.2 k1
          have HSAME := hid hss
          subst k2; subst c1
          clear c3 hss k1
          go_wp2
          generalize w14.alloc (.cells #[.int .i64 kk.i, .int .i64 kk.t, .slice pa pn pc, .slice da dn dc] 25) = w15 at *
          have y0 : Ext w15 w15.drew := ext_drew w15
          refine wp_region_held_drew (S := fun W => Ext w15 W) (by kernel_rfl) y0 (fun hH => ?_)
          clear hH u0 u1 u2 u3 hplw
          refine held_run (i := 0) (v := .bool true) rfl (by kernel_rfl) (by kernel_rfl) (by kernel_rfl) (fun _ _ _ h => h) (by rfl) y0 (fun W hW => ?_) ?_
          · (clear hW; go_simp)
          try simp only [Act.put, List.setIfInBounds_toArray, List.set_cons_zero, List.set_cons_succ]
          refine held_run (i := 1) (v := .bool true) rfl (by kernel_rfl) (by kernel_rfl) (by kernel_rfl) (fun _ _ _ h => h) (by rfl) y0 (fun W hW => ?_) ?_
          · (clear hW; go_simp)
          try simp only [Act.put, List.setIfInBounds_toArray, List.set_cons_zero, List.set_cons_succ]
          refine held_run (i := 2) (v := .agg #[.int .i64 kk.i, .int .i64 kk.t, .slice pa pn pc, .slice da dn dc]) rfl (by kernel_rfl) (by kernel_rfl) (by kernel_rfl) (fun _ _ _ h => h) (by rfl) y0 (fun W hW => ?_) ?_
          · (obtain ⟨u0, u1, u2, u3⟩ := HNC.out W hW; clear hW; go_simp)
          try simp only [Act.put, List.setIfInBounds_toArray, List.set_cons_zero, List.set_cons_succ]
          refine held_run (i := 3) (v := .agg #[.int .i64 y.op, .int .i64 y.s.i, .int .i64 y.s.t, .slice ka kn kc, .slice ma mn mc, .int .i64 y.size, .int .i64 y.n, .int .i64 y.keep, .int .i64 y.tear]) rfl (by kernel_rfl) (by kernel_rfl) (by kernel_rfl) (fun _ _ _ h => h) (by rfl) y0 (fun W hW => ?_) ?_
          · (obtain ⟨q0, q1, q2, q3, q4, q5, q6, q7, q8⟩ := HBC.out W hW; clear hW; go_simp)
          try simp only [Act.put, List.setIfInBounds_toArray, List.set_cons_zero, List.set_cons_succ]
          refine wpAnyH_ready (rs := [4]) (by kernel_rfl) (by simp) ?_
          refine held_cons (i := 4) rfl (fun K hK => ?_)
          go_simp
          go_at_call 16
          refine Calls.mono (HKV2.out _ (HX15.out.trans' y0)) ?_
          rintro e w24 ⟨x0, x1, x2, x3, rfl, hs4, hx4⟩
          have HS5 := hid hs4
          have y1 := y0.trans' hx4
          clear hx4 hs4
          go_wp2_with fail
          refine hK.out _ _ y1 (fun hH => ?_)
          clear hK K y0
          have y0 := y1
          clear y1
          try simp only [Act.put, List.setIfInBounds_toArray, List.set_cons_zero, List.set_cons_succ]
          refine wpAnyH_ready (rs := [5]) (by kernel_rfl) (by simp) ?_
          refine held_cons (i := 5) rfl (fun K hK => ?_)
          go_simp
          go_at_call 19
          refine Calls.mono (Same_any (HSN.out _ y0) HS5.out) ?_
          rintro e w25 ⟨he, hx5⟩
          rw [HSAME.out] at he
          subst he
          have y1 := y0.trans' hx5
          clear hx5
          go_wp2_with fail
          refine hK.out _ _ y1 (fun hH => ?_)
          clear hK K y0
          have y0 := y1
          clear y1
          try simp only [Act.put, List.setIfInBounds_toArray, List.set_cons_zero, List.set_cons_succ]
          refine held_run (i := 6) (v := .bool true) rfl (by kernel_rfl) (by kernel_rfl) (by kernel_rfl) (fun _ _ _ h => h) (by rfl) y0 (fun W hW => ?_) ?_
          · (clear hW; go_simp)
          try simp only [Act.put, List.setIfInBounds_toArray, List.set_cons_zero, List.set_cons_succ]
          refine held_run (i := 7) (v := .bool true) rfl (by kernel_rfl) (by kernel_rfl) (by kernel_rfl) (fun _ _ _ h => h) (by rfl) y0 (fun W hW => ?_) ?_
          · (clear hW; go_simp)
          try simp only [Act.put, List.setIfInBounds_toArray, List.set_cons_zero, List.set_cons_succ]
          refine wpAnyH_ready (rs := [8]) (by kernel_rfl) (by simp) ?_
          refine held_cons (i := 8) rfl (fun K hK => ?_)
          go_simp
          go_at_call 11
          refine Calls.mono (HA.out _ (HX15.out.trans' y0)) ?_
          rintro e w28 ⟨rfl, hx8⟩
          have y1 := y0.trans' hx8
          clear hx8
          go_wp2_with fail
          refine hK.out _ _ y1 (fun hH => ?_)
          clear hK K y0
          have y0 := y1
          clear y1
          try simp only [Act.put, List.setIfInBounds_toArray, List.set_cons_zero, List.set_cons_succ]
          refine held_run (i := 9) (v := .bool true) rfl (by kernel_rfl) (by kernel_rfl) (by kernel_rfl) (fun _ _ _ h => h) (by rfl) y0 (fun W hW => ?_) ?_
          · (clear hW; go_simp)
          try simp only [Act.put, List.setIfInBounds_toArray, List.set_cons_zero, List.set_cons_succ]
          refine held_run (i := 10) (v := .bool true) rfl (by kernel_rfl) (by kernel_rfl) (by kernel_rfl) (fun _ _ _ h => h) (by rfl) y0 (fun W hW => ?_) ?_
          · (clear hW; go_simp)
          try simp only [Act.put, List.setIfInBounds_toArray, List.set_cons_zero, List.set_cons_succ]
          refine wpAnyH_done (by kernel_rfl) ?_ _
          go_wp2
          go_ret
          exact ⟨rfl, HX15.out.trans' y0⟩
        · obtain ⟨k1, k2⟩ := Prod.mk.inj c3
          have hss : sameS kk vs = true := sameS_iff.2 k1
          have HSAME := hid hss
          subst k2; subst c1
          clear c3 hss k1
          cases kb with
          | false =>
            go_wp2
            generalize w14.alloc (.cells #[.int .i64 kk.i, .int .i64 kk.t, .slice pa pn pc, .slice da dn dc] 25) = w15 at *
            have y0 : Ext w15 w15.drew := ext_drew w15
            refine wp_region_held_drew (S := fun W => Ext w15 W) (by kernel_rfl) y0 (fun hH => ?_)
            clear hH u0 u1 u2 u3 hplw
            refine held_run (i := 0) (v := .bool false) rfl (by kernel_rfl) (by kernel_rfl) (by kernel_rfl) (fun _ _ _ h => h) (by rfl) y0 (fun W hW => ?_) ?_
            · (clear hW; go_simp)
            try simp only [Act.put, List.setIfInBounds_toArray, List.set_cons_zero, List.set_cons_succ]
            refine held_run (i := 1) (v := .bool false) rfl (by kernel_rfl) (by kernel_rfl) (by kernel_rfl) (fun _ _ _ h => h) (by rfl) y0 (fun W hW => ?_) ?_
            · (clear hW; go_simp)
            try simp only [Act.put, List.setIfInBounds_toArray, List.set_cons_zero, List.set_cons_succ]
            refine held_run (i := 2) (v := .bool true) rfl (by kernel_rfl) (by kernel_rfl) (by kernel_rfl) (fun _ _ _ h => h) (by rfl) y0 (fun W hW => ?_) ?_
            · (clear hW; go_simp)
            try simp only [Act.put, List.setIfInBounds_toArray, List.set_cons_zero, List.set_cons_succ]
            refine held_run (i := 3) (v := .bool true) rfl (by kernel_rfl) (by kernel_rfl) (by kernel_rfl) (fun _ _ _ h => h) (by rfl) y0 (fun W hW => ?_) ?_
            · (clear hW; go_simp)
            try simp only [Act.put, List.setIfInBounds_toArray, List.set_cons_zero, List.set_cons_succ]
            refine held_run (i := 4) (v := .agg #[.int .i64 kk.i, .int .i64 kk.t, .slice pa pn pc, .slice da dn dc]) rfl (by kernel_rfl) (by kernel_rfl) (by kernel_rfl) (fun _ _ _ h => h) (by rfl) y0 (fun W hW => ?_) ?_
            · (obtain ⟨u0, u1, u2, u3⟩ := HNC.out W hW; clear hW; go_simp)
            try simp only [Act.put, List.setIfInBounds_toArray, List.set_cons_zero, List.set_cons_succ]
            refine held_run (i := 5) (v := .agg #[.int .i64 vs.i, .int .i64 vs.t, .slice ba bn bc, .slice bd bm bk]) rfl (by kernel_rfl) (by kernel_rfl) (by kernel_rfl) (fun _ _ _ h => h) (by rfl) y0 (fun W hW => ?_) ?_
            · (obtain ⟨u0, u1, u2, u3⟩ := HWC.out W hW; clear hW; go_simp)
            try simp only [Act.put, List.setIfInBounds_toArray, List.set_cons_zero, List.set_cons_succ]
            refine wpAnyH_ready (rs := [6]) (by kernel_rfl) (by simp) ?_
            refine held_cons (i := 6) rfl (fun K hK => ?_)
            go_simp
            go_at_call 19
            refine Calls.mono (Same_any (HSN.out _ y0) (HSW.out _ y0)) ?_
            rintro e w26 ⟨he, hx6⟩
            rw [HSAME.out] at he
            subst he
            have y1 := y0.trans' hx6
            clear hx6
            go_wp2_with fail
            refine hK.out _ _ y1 (fun hH => ?_)
            clear hK K y0
            have y0 := y1
            clear y1
            try simp only [Act.put, List.setIfInBounds_toArray, List.set_cons_zero, List.set_cons_succ]
            refine held_run (i := 7) (v := .bool true) rfl (by kernel_rfl) (by kernel_rfl) (by kernel_rfl) (fun _ _ _ h => h) (by rfl) y0 (fun W hW => ?_) ?_
            · (clear hW; go_simp)
            try simp only [Act.put, List.setIfInBounds_toArray, List.set_cons_zero, List.set_cons_succ]
            refine held_run (i := 8) (v := .bool true) rfl (by kernel_rfl) (by kernel_rfl) (by kernel_rfl) (fun _ _ _ h => h) (by rfl) y0 (fun W hW => ?_) ?_
            · (clear hW; go_simp)
            try simp only [Act.put, List.setIfInBounds_toArray, List.set_cons_zero, List.set_cons_succ]
            refine held_skip (i := 9) rfl (by kernel_rfl) (by kernel_rfl) (by kernel_rfl) (fun _ _ _ h => h) (by rfl) y0 ?_
            try simp only [Act.put, List.setIfInBounds_toArray, List.set_cons_zero, List.set_cons_succ]
            refine held_skip (i := 10) rfl (by kernel_rfl) (by kernel_rfl) (by kernel_rfl) (fun _ _ _ h => h) (by rfl) y0 ?_
            try simp only [Act.put, List.setIfInBounds_toArray, List.set_cons_zero, List.set_cons_succ]
            refine held_skip (i := 11) rfl (by kernel_rfl) (by kernel_rfl) (by kernel_rfl) (fun _ _ _ h => h) (by rfl) y0 ?_
            try simp only [Act.put, List.setIfInBounds_toArray, List.set_cons_zero, List.set_cons_succ]
            refine held_skip (i := 12) rfl (by kernel_rfl) (by kernel_rfl) (by kernel_rfl) (fun _ _ _ h => h) (by rfl) y0 ?_
            try simp only [Act.put, List.setIfInBounds_toArray, List.set_cons_zero, List.set_cons_succ]
            refine held_skip (i := 13) rfl (by kernel_rfl) (by kernel_rfl) (by kernel_rfl) (fun _ _ _ h => h) (by rfl) y0 ?_
            try simp only [Act.put, List.setIfInBounds_toArray, List.set_cons_zero, List.set_cons_succ]
            refine held_skip (i := 14) rfl (by kernel_rfl) (by kernel_rfl) (by kernel_rfl) (fun _ _ _ h => h) (by rfl) y0 ?_
            try simp only [Act.put, List.setIfInBounds_toArray, List.set_cons_zero, List.set_cons_succ]
            refine held_skip (i := 15) rfl (by kernel_rfl) (by kernel_rfl) (by kernel_rfl) (fun _ _ _ h => h) (by rfl) y0 ?_
            try simp only [Act.put, List.setIfInBounds_toArray, List.set_cons_zero, List.set_cons_succ]
            refine held_run (i := 16) (v := .bool true) rfl (by kernel_rfl) (by kernel_rfl) (by kernel_rfl) (fun _ _ _ h => h) (by rfl) y0 (fun W hW => ?_) ?_
            · (clear hW; go_simp)
            try simp only [Act.put, List.setIfInBounds_toArray, List.set_cons_zero, List.set_cons_succ]
            refine held_run (i := 17) (v := .bool true) rfl (by kernel_rfl) (by kernel_rfl) (by kernel_rfl) (fun _ _ _ h => h) (by rfl) y0 (fun W hW => ?_) ?_
            · (clear hW; go_simp)
            try simp only [Act.put, List.setIfInBounds_toArray, List.set_cons_zero, List.set_cons_succ]
            refine wpAnyH_ready (rs := [18]) (by kernel_rfl) (by simp) ?_
            refine held_cons (i := 18) rfl (fun K hK => ?_)
            go_simp
            go_at_call 11
            refine Calls.mono (HA.out _ (HX15.out.trans' y0)) ?_
            rintro e w38 ⟨rfl, hx18⟩
            have y1 := y0.trans' hx18
            clear hx18
            go_wp2_with fail
            refine hK.out _ _ y1 (fun hH => ?_)
            clear hK K y0
            have y0 := y1
            clear y1
            try simp only [Act.put, List.setIfInBounds_toArray, List.set_cons_zero, List.set_cons_succ]
            refine held_run (i := 19) (v := .bool true) rfl (by kernel_rfl) (by kernel_rfl) (by kernel_rfl) (fun _ _ _ h => h) (by rfl) y0 (fun W hW => ?_) ?_
            · (clear hW; go_simp)
            try simp only [Act.put, List.setIfInBounds_toArray, List.set_cons_zero, List.set_cons_succ]
            refine held_run (i := 20) (v := .bool true) rfl (by kernel_rfl) (by kernel_rfl) (by kernel_rfl) (fun _ _ _ h => h) (by rfl) y0 (fun W hW => ?_) ?_
            · (clear hW; go_simp)
            try simp only [Act.put, List.setIfInBounds_toArray, List.set_cons_zero, List.set_cons_succ]
            refine wpAnyH_done (by kernel_rfl) ?_ _
            go_wp2
            go_ret
            exact ⟨rfl, HX15.out.trans' y0⟩
          | true =>
            go_wp2
            generalize w14.alloc (.cells #[.int .i64 kk.i, .int .i64 kk.t, .slice pa pn pc, .slice da dn dc] 25) = w15 at *
            have y0 : Ext w15 w15.drew := ext_drew w15
            refine wp_region_held_drew (S := fun W => Ext w15 W) (by kernel_rfl) y0 (fun hH => ?_)
            clear hH u0 u1 u2 u3 hplw
            refine held_run (i := 0) (v := .bool true) rfl (by kernel_rfl) (by kernel_rfl) (by kernel_rfl) (fun _ _ _ h => h) (by rfl) y0 (fun W hW => ?_) ?_
            · (clear hW; go_simp)
            try simp only [Act.put, List.setIfInBounds_toArray, List.set_cons_zero, List.set_cons_succ]
            refine held_run (i := 1) (v := .bool true) rfl (by kernel_rfl) (by kernel_rfl) (by kernel_rfl) (fun _ _ _ h => h) (by rfl) y0 (fun W hW => ?_) ?_
            · (clear hW; go_simp)
            try simp only [Act.put, List.setIfInBounds_toArray, List.set_cons_zero, List.set_cons_succ]
            refine held_run (i := 2) (v := .bool true) rfl (by kernel_rfl) (by kernel_rfl) (by kernel_rfl) (fun _ _ _ h => h) (by rfl) y0 (fun W hW => ?_) ?_
            · (clear hW; go_simp)
            try simp only [Act.put, List.setIfInBounds_toArray, List.set_cons_zero, List.set_cons_succ]
            refine held_run (i := 3) (v := .bool true) rfl (by kernel_rfl) (by kernel_rfl) (by kernel_rfl) (fun _ _ _ h => h) (by rfl) y0 (fun W hW => ?_) ?_
            · (clear hW; go_simp)
            try simp only [Act.put, List.setIfInBounds_toArray, List.set_cons_zero, List.set_cons_succ]
            refine held_run (i := 4) (v := .agg #[.int .i64 kk.i, .int .i64 kk.t, .slice pa pn pc, .slice da dn dc]) rfl (by kernel_rfl) (by kernel_rfl) (by kernel_rfl) (fun _ _ _ h => h) (by rfl) y0 (fun W hW => ?_) ?_
            · (obtain ⟨u0, u1, u2, u3⟩ := HNC.out W hW; clear hW; go_simp)
            try simp only [Act.put, List.setIfInBounds_toArray, List.set_cons_zero, List.set_cons_succ]
            refine held_run (i := 5) (v := .agg #[.int .i64 vs.i, .int .i64 vs.t, .slice ba bn bc, .slice bd bm bk]) rfl (by kernel_rfl) (by kernel_rfl) (by kernel_rfl) (fun _ _ _ h => h) (by rfl) y0 (fun W hW => ?_) ?_
            · (obtain ⟨u0, u1, u2, u3⟩ := HWC.out W hW; clear hW; go_simp)
            try simp only [Act.put, List.setIfInBounds_toArray, List.set_cons_zero, List.set_cons_succ]
            refine wpAnyH_ready (rs := [6]) (by kernel_rfl) (by simp) ?_
            refine held_cons (i := 6) rfl (fun K hK => ?_)
            go_simp
            go_at_call 19
            refine Calls.mono (Same_any (HSN.out _ y0) (HSW.out _ y0)) ?_
            rintro e w26 ⟨he, hx6⟩
            rw [HSAME.out] at he
            subst he
            have y1 := y0.trans' hx6
            clear hx6
            go_wp2_with fail
            refine hK.out _ _ y1 (fun hH => ?_)
            clear hK K y0
            have y0 := y1
            clear y1
            try simp only [Act.put, List.setIfInBounds_toArray, List.set_cons_zero, List.set_cons_succ]
            refine held_run (i := 7) (v := .bool true) rfl (by kernel_rfl) (by kernel_rfl) (by kernel_rfl) (fun _ _ _ h => h) (by rfl) y0 (fun W hW => ?_) ?_
            · (clear hW; go_simp)
            try simp only [Act.put, List.setIfInBounds_toArray, List.set_cons_zero, List.set_cons_succ]
            refine held_run (i := 8) (v := .bool true) rfl (by kernel_rfl) (by kernel_rfl) (by kernel_rfl) (fun _ _ _ h => h) (by rfl) y0 (fun W hW => ?_) ?_
            · (clear hW; go_simp)
            try simp only [Act.put, List.setIfInBounds_toArray, List.set_cons_zero, List.set_cons_succ]
            refine held_skip (i := 9) rfl (by kernel_rfl) (by kernel_rfl) (by kernel_rfl) (fun _ _ _ h => h) (by rfl) y0 ?_
            try simp only [Act.put, List.setIfInBounds_toArray, List.set_cons_zero, List.set_cons_succ]
            refine held_skip (i := 10) rfl (by kernel_rfl) (by kernel_rfl) (by kernel_rfl) (fun _ _ _ h => h) (by rfl) y0 ?_
            try simp only [Act.put, List.setIfInBounds_toArray, List.set_cons_zero, List.set_cons_succ]
            refine held_skip (i := 11) rfl (by kernel_rfl) (by kernel_rfl) (by kernel_rfl) (fun _ _ _ h => h) (by rfl) y0 ?_
            try simp only [Act.put, List.setIfInBounds_toArray, List.set_cons_zero, List.set_cons_succ]
            refine held_skip (i := 12) rfl (by kernel_rfl) (by kernel_rfl) (by kernel_rfl) (fun _ _ _ h => h) (by rfl) y0 ?_
            try simp only [Act.put, List.setIfInBounds_toArray, List.set_cons_zero, List.set_cons_succ]
            refine held_skip (i := 13) rfl (by kernel_rfl) (by kernel_rfl) (by kernel_rfl) (fun _ _ _ h => h) (by rfl) y0 ?_
            try simp only [Act.put, List.setIfInBounds_toArray, List.set_cons_zero, List.set_cons_succ]
            refine held_skip (i := 14) rfl (by kernel_rfl) (by kernel_rfl) (by kernel_rfl) (fun _ _ _ h => h) (by rfl) y0 ?_
            try simp only [Act.put, List.setIfInBounds_toArray, List.set_cons_zero, List.set_cons_succ]
            refine held_skip (i := 15) rfl (by kernel_rfl) (by kernel_rfl) (by kernel_rfl) (fun _ _ _ h => h) (by rfl) y0 ?_
            try simp only [Act.put, List.setIfInBounds_toArray, List.set_cons_zero, List.set_cons_succ]
            refine held_run (i := 16) (v := .bool true) rfl (by kernel_rfl) (by kernel_rfl) (by kernel_rfl) (fun _ _ _ h => h) (by rfl) y0 (fun W hW => ?_) ?_
            · (clear hW; go_simp)
            try simp only [Act.put, List.setIfInBounds_toArray, List.set_cons_zero, List.set_cons_succ]
            refine held_run (i := 17) (v := .bool true) rfl (by kernel_rfl) (by kernel_rfl) (by kernel_rfl) (fun _ _ _ h => h) (by rfl) y0 (fun W hW => ?_) ?_
            · (clear hW; go_simp)
            try simp only [Act.put, List.setIfInBounds_toArray, List.set_cons_zero, List.set_cons_succ]
            refine wpAnyH_ready (rs := [18]) (by kernel_rfl) (by simp) ?_
            refine held_cons (i := 18) rfl (fun K hK => ?_)
            go_simp
            go_at_call 11
            refine Calls.mono (HA.out _ (HX15.out.trans' y0)) ?_
            rintro e w38 ⟨rfl, hx18⟩
            have y1 := y0.trans' hx18
            clear hx18
            go_wp2_with fail
            refine hK.out _ _ y1 (fun hH => ?_)
            clear hK K y0
            have y0 := y1
            clear y1
            try simp only [Act.put, List.setIfInBounds_toArray, List.set_cons_zero, List.set_cons_succ]
            refine held_run (i := 19) (v := .bool true) rfl (by kernel_rfl) (by kernel_rfl) (by kernel_rfl) (fun _ _ _ h => h) (by rfl) y0 (fun W hW => ?_) ?_
            · (clear hW; go_simp)
            try simp only [Act.put, List.setIfInBounds_toArray, List.set_cons_zero, List.set_cons_succ]
            refine held_run (i := 20) (v := .bool true) rfl (by kernel_rfl) (by kernel_rfl) (by kernel_rfl) (fun _ _ _ h => h) (by rfl) y0 (fun W hW => ?_) ?_
            · (clear hW; go_simp)
            try simp only [Act.put, List.setIfInBounds_toArray, List.set_cons_zero, List.set_cons_succ]
            refine wpAnyH_done (by kernel_rfl) ?_ _
            go_wp2
            go_ret
            exact ⟨rfl, HX15.out.trans' y0⟩
        · obtain ⟨k1, k2⟩ := Prod.mk.inj c3
          have hss : sameS kk s = true := sameS_iff.2 k1
          have HSAME := hid hss
          subst k2; subst c1
          clear c3 hss k1
          cases vb with
          | false =>
            go_wp2
            generalize w14.alloc (.cells #[.int .i64 kk.i, .int .i64 kk.t, .slice pa pn pc, .slice da dn dc] 25) = w15 at *
            have y0 : Ext w15 w15.drew := ext_drew w15
            refine wp_region_held_drew (S := fun W => Ext w15 W) (by kernel_rfl) y0 (fun hH => ?_)
            clear hH u0 u1 u2 u3 hplw
            refine held_run (i := 0) (v := .bool true) rfl (by kernel_rfl) (by kernel_rfl) (by kernel_rfl) (fun _ _ _ h => h) (by rfl) y0 (fun W hW => ?_) ?_
            · (clear hW; go_simp)
            try simp only [Act.put, List.setIfInBounds_toArray, List.set_cons_zero, List.set_cons_succ]
            refine held_run (i := 1) (v := .bool false) rfl (by kernel_rfl) (by kernel_rfl) (by kernel_rfl) (fun _ _ _ h => h) (by rfl) y0 (fun W hW => ?_) ?_
            · (clear hW; go_simp)
            try simp only [Act.put, List.setIfInBounds_toArray, List.set_cons_zero, List.set_cons_succ]
            refine held_run (i := 2) (v := .bool false) rfl (by kernel_rfl) (by kernel_rfl) (by kernel_rfl) (fun _ _ _ h => h) (by rfl) y0 (fun W hW => ?_) ?_
            · (clear hW; go_simp)
            try simp only [Act.put, List.setIfInBounds_toArray, List.set_cons_zero, List.set_cons_succ]
            refine held_run (i := 3) (v := .bool false) rfl (by kernel_rfl) (by kernel_rfl) (by kernel_rfl) (fun _ _ _ h => h) (by rfl) y0 (fun W hW => ?_) ?_
            · (clear hW; go_simp)
            try simp only [Act.put, List.setIfInBounds_toArray, List.set_cons_zero, List.set_cons_succ]
            refine held_skip (i := 4) rfl (by kernel_rfl) (by kernel_rfl) (by kernel_rfl) (fun _ _ _ h => h) (by rfl) y0 ?_
            try simp only [Act.put, List.setIfInBounds_toArray, List.set_cons_zero, List.set_cons_succ]
            refine held_skip (i := 5) rfl (by kernel_rfl) (by kernel_rfl) (by kernel_rfl) (fun _ _ _ h => h) (by rfl) y0 ?_
            try simp only [Act.put, List.setIfInBounds_toArray, List.set_cons_zero, List.set_cons_succ]
            refine held_skip (i := 6) rfl (by kernel_rfl) (by kernel_rfl) (by kernel_rfl) (fun _ _ _ h => h) (by rfl) y0 ?_
            try simp only [Act.put, List.setIfInBounds_toArray, List.set_cons_zero, List.set_cons_succ]
            refine held_run (i := 7) (v := .bool false) rfl (by kernel_rfl) (by kernel_rfl) (by kernel_rfl) (fun _ _ _ h => h) (by rfl) y0 (fun W hW => ?_) ?_
            · (clear hW; go_simp)
            try simp only [Act.put, List.setIfInBounds_toArray, List.set_cons_zero, List.set_cons_succ]
            refine held_run (i := 8) (v := .bool false) rfl (by kernel_rfl) (by kernel_rfl) (by kernel_rfl) (fun _ _ _ h => h) (by rfl) y0 (fun W hW => ?_) ?_
            · (clear hW; go_simp)
            try simp only [Act.put, List.setIfInBounds_toArray, List.set_cons_zero, List.set_cons_succ]
            refine held_run (i := 9) (v := .bool true) rfl (by kernel_rfl) (by kernel_rfl) (by kernel_rfl) (fun _ _ _ h => h) (by rfl) y0 (fun W hW => ?_) ?_
            · (clear hW; go_simp)
            try simp only [Act.put, List.setIfInBounds_toArray, List.set_cons_zero, List.set_cons_succ]
            refine held_run (i := 10) (v := .bool true) rfl (by kernel_rfl) (by kernel_rfl) (by kernel_rfl) (fun _ _ _ h => h) (by rfl) y0 (fun W hW => ?_) ?_
            · (clear hW; go_simp)
            try simp only [Act.put, List.setIfInBounds_toArray, List.set_cons_zero, List.set_cons_succ]
            refine held_run (i := 11) (v := .agg #[.int .i64 kk.i, .int .i64 kk.t, .slice pa pn pc, .slice da dn dc]) rfl (by kernel_rfl) (by kernel_rfl) (by kernel_rfl) (fun _ _ _ h => h) (by rfl) y0 (fun W hW => ?_) ?_
            · (obtain ⟨u0, u1, u2, u3⟩ := HNC.out W hW; clear hW; go_simp)
            try simp only [Act.put, List.setIfInBounds_toArray, List.set_cons_zero, List.set_cons_succ]
            refine held_run (i := 12) (v := .agg #[.int .i64 y.op, .int .i64 y.s.i, .int .i64 y.s.t, .slice ka kn kc, .slice ma mn mc, .int .i64 y.size, .int .i64 y.n, .int .i64 y.keep, .int .i64 y.tear]) rfl (by kernel_rfl) (by kernel_rfl) (by kernel_rfl) (fun _ _ _ h => h) (by rfl) y0 (fun W hW => ?_) ?_
            · (obtain ⟨q0, q1, q2, q3, q4, q5, q6, q7, q8⟩ := HBC.out W hW; clear hW; go_simp)
            try simp only [Act.put, List.setIfInBounds_toArray, List.set_cons_zero, List.set_cons_succ]
            refine wpAnyH_ready (rs := [13]) (by kernel_rfl) (by simp) ?_
            refine held_cons (i := 13) rfl (fun K hK => ?_)
            go_simp
            go_at_call 16
            refine Calls.mono (HKV2.out _ (HX15.out.trans' y0)) ?_
            rintro e w33 ⟨x0, x1, x2, x3, rfl, hs13, hx13⟩
            have HS14 := hid hs13
            have y1 := y0.trans' hx13
            clear hx13 hs13
            go_wp2_with fail
            refine hK.out _ _ y1 (fun hH => ?_)
            clear hK K y0
            have y0 := y1
            clear y1
            try simp only [Act.put, List.setIfInBounds_toArray, List.set_cons_zero, List.set_cons_succ]
            refine wpAnyH_ready (rs := [14]) (by kernel_rfl) (by simp) ?_
            refine held_cons (i := 14) rfl (fun K hK => ?_)
            go_simp
            go_at_call 19
            refine Calls.mono (Same_any (HSN.out _ y0) HS14.out) ?_
            rintro e w34 ⟨he, hx14⟩
            rw [HSAME.out] at he
            subst he
            have y1 := y0.trans' hx14
            clear hx14
            go_wp2_with fail
            refine hK.out _ _ y1 (fun hH => ?_)
            clear hK K y0
            have y0 := y1
            clear y1
            try simp only [Act.put, List.setIfInBounds_toArray, List.set_cons_zero, List.set_cons_succ]
            refine held_run (i := 15) (v := .bool true) rfl (by kernel_rfl) (by kernel_rfl) (by kernel_rfl) (fun _ _ _ h => h) (by rfl) y0 (fun W hW => ?_) ?_
            · (clear hW; go_simp)
            try simp only [Act.put, List.setIfInBounds_toArray, List.set_cons_zero, List.set_cons_succ]
            refine held_run (i := 16) (v := .bool true) rfl (by kernel_rfl) (by kernel_rfl) (by kernel_rfl) (fun _ _ _ h => h) (by rfl) y0 (fun W hW => ?_) ?_
            · (clear hW; go_simp)
            try simp only [Act.put, List.setIfInBounds_toArray, List.set_cons_zero, List.set_cons_succ]
            refine held_run (i := 17) (v := .bool true) rfl (by kernel_rfl) (by kernel_rfl) (by kernel_rfl) (fun _ _ _ h => h) (by rfl) y0 (fun W hW => ?_) ?_
            · (clear hW; go_simp)
            try simp only [Act.put, List.setIfInBounds_toArray, List.set_cons_zero, List.set_cons_succ]
            refine wpAnyH_ready (rs := [18]) (by kernel_rfl) (by simp) ?_
            refine held_cons (i := 18) rfl (fun K hK => ?_)
            go_simp
            go_at_call 11
            refine Calls.mono (HA.out _ (HX15.out.trans' y0)) ?_
            rintro e w38 ⟨rfl, hx18⟩
            have y1 := y0.trans' hx18
            clear hx18
            go_wp2_with fail
            refine hK.out _ _ y1 (fun hH => ?_)
            clear hK K y0
            have y0 := y1
            clear y1
            try simp only [Act.put, List.setIfInBounds_toArray, List.set_cons_zero, List.set_cons_succ]
            refine held_run (i := 19) (v := .bool true) rfl (by kernel_rfl) (by kernel_rfl) (by kernel_rfl) (fun _ _ _ h => h) (by rfl) y0 (fun W hW => ?_) ?_
            · (clear hW; go_simp)
            try simp only [Act.put, List.setIfInBounds_toArray, List.set_cons_zero, List.set_cons_succ]
            refine held_run (i := 20) (v := .bool true) rfl (by kernel_rfl) (by kernel_rfl) (by kernel_rfl) (fun _ _ _ h => h) (by rfl) y0 (fun W hW => ?_) ?_
            · (clear hW; go_simp)
            try simp only [Act.put, List.setIfInBounds_toArray, List.set_cons_zero, List.set_cons_succ]
            refine wpAnyH_done (by kernel_rfl) ?_ _
            go_wp2
            go_ret
            exact ⟨rfl, HX15.out.trans' y0⟩
          | true =>
            cases hsw : sameS kk vs with
            | true =>
              have HSAME2 := hid hsw
              clear hsw
              go_wp2
              generalize w14.alloc (.cells #[.int .i64 kk.i, .int .i64 kk.t, .slice pa pn pc, .slice da dn dc] 25) = w15 at *
              have y0 : Ext w15 w15.drew := ext_drew w15
              refine wp_region_held_drew (S := fun W => Ext w15 W) (by kernel_rfl) y0 (fun hH => ?_)
              clear hH u0 u1 u2 u3 hplw
              refine held_run (i := 0) (v := .bool true) rfl (by kernel_rfl) (by kernel_rfl) (by kernel_rfl) (fun _ _ _ h => h) (by rfl) y0 (fun W hW => ?_) ?_
              · (clear hW; go_simp)
              try simp only [Act.put, List.setIfInBounds_toArray, List.set_cons_zero, List.set_cons_succ]
              refine held_run (i := 1) (v := .bool true) rfl (by kernel_rfl) (by kernel_rfl) (by kernel_rfl) (fun _ _ _ h => h) (by rfl) y0 (fun W hW => ?_) ?_
              · (clear hW; go_simp)
              try simp only [Act.put, List.setIfInBounds_toArray, List.set_cons_zero, List.set_cons_succ]
              refine held_run (i := 2) (v := .bool true) rfl (by kernel_rfl) (by kernel_rfl) (by kernel_rfl) (fun _ _ _ h => h) (by rfl) y0 (fun W hW => ?_) ?_
              · (clear hW; go_simp)
              try simp only [Act.put, List.setIfInBounds_toArray, List.set_cons_zero, List.set_cons_succ]
              refine held_run (i := 3) (v := .bool true) rfl (by kernel_rfl) (by kernel_rfl) (by kernel_rfl) (fun _ _ _ h => h) (by rfl) y0 (fun W hW => ?_) ?_
              · (clear hW; go_simp)
              try simp only [Act.put, List.setIfInBounds_toArray, List.set_cons_zero, List.set_cons_succ]
              refine held_run (i := 4) (v := .agg #[.int .i64 kk.i, .int .i64 kk.t, .slice pa pn pc, .slice da dn dc]) rfl (by kernel_rfl) (by kernel_rfl) (by kernel_rfl) (fun _ _ _ h => h) (by rfl) y0 (fun W hW => ?_) ?_
              · (obtain ⟨u0, u1, u2, u3⟩ := HNC.out W hW; clear hW; go_simp)
              try simp only [Act.put, List.setIfInBounds_toArray, List.set_cons_zero, List.set_cons_succ]
              refine held_run (i := 5) (v := .agg #[.int .i64 vs.i, .int .i64 vs.t, .slice ba bn bc, .slice bd bm bk]) rfl (by kernel_rfl) (by kernel_rfl) (by kernel_rfl) (fun _ _ _ h => h) (by rfl) y0 (fun W hW => ?_) ?_
              · (obtain ⟨u0, u1, u2, u3⟩ := HWC.out W hW; clear hW; go_simp)
              try simp only [Act.put, List.setIfInBounds_toArray, List.set_cons_zero, List.set_cons_succ]
              refine wpAnyH_ready (rs := [6]) (by kernel_rfl) (by simp) ?_
              refine held_cons (i := 6) rfl (fun K hK => ?_)
              go_simp
              go_at_call 19
              refine Calls.mono (Same_any (HSN.out _ y0) (HSW.out _ y0)) ?_
              rintro e w26 ⟨he, hx6⟩
              rw [HSAME2.out] at he
              subst he
              have y1 := y0.trans' hx6
              clear hx6
              go_wp2_with fail
              refine hK.out _ _ y1 (fun hH => ?_)
              clear hK K y0
              have y0 := y1
              clear y1
              try simp only [Act.put, List.setIfInBounds_toArray, List.set_cons_zero, List.set_cons_succ]
              refine held_run (i := 7) (v := .bool true) rfl (by kernel_rfl) (by kernel_rfl) (by kernel_rfl) (fun _ _ _ h => h) (by rfl) y0 (fun W hW => ?_) ?_
              · (clear hW; go_simp)
              try simp only [Act.put, List.setIfInBounds_toArray, List.set_cons_zero, List.set_cons_succ]
              refine held_run (i := 8) (v := .bool true) rfl (by kernel_rfl) (by kernel_rfl) (by kernel_rfl) (fun _ _ _ h => h) (by rfl) y0 (fun W hW => ?_) ?_
              · (clear hW; go_simp)
              try simp only [Act.put, List.setIfInBounds_toArray, List.set_cons_zero, List.set_cons_succ]
              refine held_skip (i := 9) rfl (by kernel_rfl) (by kernel_rfl) (by kernel_rfl) (fun _ _ _ h => h) (by rfl) y0 ?_
              try simp only [Act.put, List.setIfInBounds_toArray, List.set_cons_zero, List.set_cons_succ]
              refine held_skip (i := 10) rfl (by kernel_rfl) (by kernel_rfl) (by kernel_rfl) (fun _ _ _ h => h) (by rfl) y0 ?_
              try simp only [Act.put, List.setIfInBounds_toArray, List.set_cons_zero, List.set_cons_succ]
              refine held_skip (i := 11) rfl (by kernel_rfl) (by kernel_rfl) (by kernel_rfl) (fun _ _ _ h => h) (by rfl) y0 ?_
              try simp only [Act.put, List.setIfInBounds_toArray, List.set_cons_zero, List.set_cons_succ]
              refine held_skip (i := 12) rfl (by kernel_rfl) (by kernel_rfl) (by kernel_rfl) (fun _ _ _ h => h) (by rfl) y0 ?_
              try simp only [Act.put, List.setIfInBounds_toArray, List.set_cons_zero, List.set_cons_succ]
              refine held_skip (i := 13) rfl (by kernel_rfl) (by kernel_rfl) (by kernel_rfl) (fun _ _ _ h => h) (by rfl) y0 ?_
              try simp only [Act.put, List.setIfInBounds_toArray, List.set_cons_zero, List.set_cons_succ]
              refine held_skip (i := 14) rfl (by kernel_rfl) (by kernel_rfl) (by kernel_rfl) (fun _ _ _ h => h) (by rfl) y0 ?_
              try simp only [Act.put, List.setIfInBounds_toArray, List.set_cons_zero, List.set_cons_succ]
              refine held_skip (i := 15) rfl (by kernel_rfl) (by kernel_rfl) (by kernel_rfl) (fun _ _ _ h => h) (by rfl) y0 ?_
              try simp only [Act.put, List.setIfInBounds_toArray, List.set_cons_zero, List.set_cons_succ]
              refine held_run (i := 16) (v := .bool true) rfl (by kernel_rfl) (by kernel_rfl) (by kernel_rfl) (fun _ _ _ h => h) (by rfl) y0 (fun W hW => ?_) ?_
              · (clear hW; go_simp)
              try simp only [Act.put, List.setIfInBounds_toArray, List.set_cons_zero, List.set_cons_succ]
              refine held_run (i := 17) (v := .bool true) rfl (by kernel_rfl) (by kernel_rfl) (by kernel_rfl) (fun _ _ _ h => h) (by rfl) y0 (fun W hW => ?_) ?_
              · (clear hW; go_simp)
              try simp only [Act.put, List.setIfInBounds_toArray, List.set_cons_zero, List.set_cons_succ]
              refine wpAnyH_ready (rs := [18]) (by kernel_rfl) (by simp) ?_
              refine held_cons (i := 18) rfl (fun K hK => ?_)
              go_simp
              go_at_call 11
              refine Calls.mono (HA.out _ (HX15.out.trans' y0)) ?_
              rintro e w38 ⟨rfl, hx18⟩
              have y1 := y0.trans' hx18
              clear hx18
              go_wp2_with fail
              refine hK.out _ _ y1 (fun hH => ?_)
              clear hK K y0
              have y0 := y1
              clear y1
              try simp only [Act.put, List.setIfInBounds_toArray, List.set_cons_zero, List.set_cons_succ]
              refine held_run (i := 19) (v := .bool true) rfl (by kernel_rfl) (by kernel_rfl) (by kernel_rfl) (fun _ _ _ h => h) (by rfl) y0 (fun W hW => ?_) ?_
              · (clear hW; go_simp)
              try simp only [Act.put, List.setIfInBounds_toArray, List.set_cons_zero, List.set_cons_succ]
              refine held_run (i := 20) (v := .bool true) rfl (by kernel_rfl) (by kernel_rfl) (by kernel_rfl) (fun _ _ _ h => h) (by rfl) y0 (fun W hW => ?_) ?_
              · (clear hW; go_simp)
              try simp only [Act.put, List.setIfInBounds_toArray, List.set_cons_zero, List.set_cons_succ]
              refine wpAnyH_done (by kernel_rfl) ?_ _
              go_wp2
              go_ret
              exact ⟨rfl, HX15.out.trans' y0⟩
            | false =>
              have HSAME2 := hid hsw
              clear hsw
              go_wp2
              generalize w14.alloc (.cells #[.int .i64 kk.i, .int .i64 kk.t, .slice pa pn pc, .slice da dn dc] 25) = w15 at *
              have y0 : Ext w15 w15.drew := ext_drew w15
              refine wp_region_held_drew (S := fun W => Ext w15 W) (by kernel_rfl) y0 (fun hH => ?_)
              clear hH u0 u1 u2 u3 hplw
              refine held_run (i := 0) (v := .bool true) rfl (by kernel_rfl) (by kernel_rfl) (by kernel_rfl) (fun _ _ _ h => h) (by rfl) y0 (fun W hW => ?_) ?_
              · (clear hW; go_simp)
              try simp only [Act.put, List.setIfInBounds_toArray, List.set_cons_zero, List.set_cons_succ]
              refine held_run (i := 1) (v := .bool true) rfl (by kernel_rfl) (by kernel_rfl) (by kernel_rfl) (fun _ _ _ h => h) (by rfl) y0 (fun W hW => ?_) ?_
              · (clear hW; go_simp)
              try simp only [Act.put, List.setIfInBounds_toArray, List.set_cons_zero, List.set_cons_succ]
              refine held_run (i := 2) (v := .bool true) rfl (by kernel_rfl) (by kernel_rfl) (by kernel_rfl) (fun _ _ _ h => h) (by rfl) y0 (fun W hW => ?_) ?_
              · (clear hW; go_simp)
              try simp only [Act.put, List.setIfInBounds_toArray, List.set_cons_zero, List.set_cons_succ]
              refine held_run (i := 3) (v := .bool true) rfl (by kernel_rfl) (by kernel_rfl) (by kernel_rfl) (fun _ _ _ h => h) (by rfl) y0 (fun W hW => ?_) ?_
              · (clear hW; go_simp)
              try simp only [Act.put, List.setIfInBounds_toArray, List.set_cons_zero, List.set_cons_succ]
              refine held_run (i := 4) (v := .agg #[.int .i64 kk.i, .int .i64 kk.t, .slice pa pn pc, .slice da dn dc]) rfl (by kernel_rfl) (by kernel_rfl) (by kernel_rfl) (fun _ _ _ h => h) (by rfl) y0 (fun W hW => ?_) ?_
              · (obtain ⟨u0, u1, u2, u3⟩ := HNC.out W hW; clear hW; go_simp)
              try simp only [Act.put, List.setIfInBounds_toArray, List.set_cons_zero, List.set_cons_succ]
              refine held_run (i := 5) (v := .agg #[.int .i64 vs.i, .int .i64 vs.t, .slice ba bn bc, .slice bd bm bk]) rfl (by kernel_rfl) (by kernel_rfl) (by kernel_rfl) (fun _ _ _ h => h) (by rfl) y0 (fun W hW => ?_) ?_
              · (obtain ⟨u0, u1, u2, u3⟩ := HWC.out W hW; clear hW; go_simp)
              try simp only [Act.put, List.setIfInBounds_toArray, List.set_cons_zero, List.set_cons_succ]
              refine wpAnyH_ready (rs := [6]) (by kernel_rfl) (by simp) ?_
              refine held_cons (i := 6) rfl (fun K hK => ?_)
              go_simp
              go_at_call 19
              refine Calls.mono (Same_any (HSN.out _ y0) (HSW.out _ y0)) ?_
              rintro e w26 ⟨he, hx6⟩
              rw [HSAME2.out] at he
              subst he
              have y1 := y0.trans' hx6
              clear hx6
              go_wp2_with fail
              refine hK.out _ _ y1 (fun hH => ?_)
              clear hK K y0
              have y0 := y1
              clear y1
              try simp only [Act.put, List.setIfInBounds_toArray, List.set_cons_zero, List.set_cons_succ]
              refine held_run (i := 7) (v := .bool false) rfl (by kernel_rfl) (by kernel_rfl) (by kernel_rfl) (fun _ _ _ h => h) (by rfl) y0 (fun W hW => ?_) ?_
              · (clear hW; go_simp)
              try simp only [Act.put, List.setIfInBounds_toArray, List.set_cons_zero, List.set_cons_succ]
              refine held_run (i := 8) (v := .bool false) rfl (by kernel_rfl) (by kernel_rfl) (by kernel_rfl) (fun _ _ _ h => h) (by rfl) y0 (fun W hW => ?_) ?_
              · (clear hW; go_simp)
              try simp only [Act.put, List.setIfInBounds_toArray, List.set_cons_zero, List.set_cons_succ]
              refine held_run (i := 9) (v := .bool true) rfl (by kernel_rfl) (by kernel_rfl) (by kernel_rfl) (fun _ _ _ h => h) (by rfl) y0 (fun W hW => ?_) ?_
              · (clear hW; go_simp)
              try simp only [Act.put, List.setIfInBounds_toArray, List.set_cons_zero, List.set_cons_succ]
              refine held_run (i := 10) (v := .bool true) rfl (by kernel_rfl) (by kernel_rfl) (by kernel_rfl) (fun _ _ _ h => h) (by rfl) y0 (fun W hW => ?_) ?_
              · (clear hW; go_simp)
              try simp only [Act.put, List.setIfInBounds_toArray, List.set_cons_zero, List.set_cons_succ]
              refine held_run (i := 11) (v := .agg #[.int .i64 kk.i, .int .i64 kk.t, .slice pa pn pc, .slice da dn dc]) rfl (by kernel_rfl) (by kernel_rfl) (by kernel_rfl) (fun _ _ _ h => h) (by rfl) y0 (fun W hW => ?_) ?_
              · (obtain ⟨u0, u1, u2, u3⟩ := HNC.out W hW; clear hW; go_simp)
              try simp only [Act.put, List.setIfInBounds_toArray, List.set_cons_zero, List.set_cons_succ]
              refine held_run (i := 12) (v := .agg #[.int .i64 y.op, .int .i64 y.s.i, .int .i64 y.s.t, .slice ka kn kc, .slice ma mn mc, .int .i64 y.size, .int .i64 y.n, .int .i64 y.keep, .int .i64 y.tear]) rfl (by kernel_rfl) (by kernel_rfl) (by kernel_rfl) (fun _ _ _ h => h) (by rfl) y0 (fun W hW => ?_) ?_
              · (obtain ⟨q0, q1, q2, q3, q4, q5, q6, q7, q8⟩ := HBC.out W hW; clear hW; go_simp)
              try simp only [Act.put, List.setIfInBounds_toArray, List.set_cons_zero, List.set_cons_succ]
              refine wpAnyH_ready (rs := [13]) (by kernel_rfl) (by simp) ?_
              refine held_cons (i := 13) rfl (fun K hK => ?_)
              go_simp
              go_at_call 16
              refine Calls.mono (HKV2.out _ (HX15.out.trans' y0)) ?_
              rintro e w33 ⟨x0, x1, x2, x3, rfl, hs13, hx13⟩
              have HS14 := hid hs13
              have y1 := y0.trans' hx13
              clear hx13 hs13
              go_wp2_with fail
              refine hK.out _ _ y1 (fun hH => ?_)
              clear hK K y0
              have y0 := y1
              clear y1
              try simp only [Act.put, List.setIfInBounds_toArray, List.set_cons_zero, List.set_cons_succ]
              refine wpAnyH_ready (rs := [14]) (by kernel_rfl) (by simp) ?_
              refine held_cons (i := 14) rfl (fun K hK => ?_)
              go_simp
              go_at_call 19
              refine Calls.mono (Same_any (HSN.out _ y0) HS14.out) ?_
              rintro e w34 ⟨he, hx14⟩
              rw [HSAME.out] at he
              subst he
              have y1 := y0.trans' hx14
              clear hx14
              go_wp2_with fail
              refine hK.out _ _ y1 (fun hH => ?_)
              clear hK K y0
              have y0 := y1
              clear y1
              try simp only [Act.put, List.setIfInBounds_toArray, List.set_cons_zero, List.set_cons_succ]
              refine held_run (i := 15) (v := .bool true) rfl (by kernel_rfl) (by kernel_rfl) (by kernel_rfl) (fun _ _ _ h => h) (by rfl) y0 (fun W hW => ?_) ?_
              · (clear hW; go_simp)
              try simp only [Act.put, List.setIfInBounds_toArray, List.set_cons_zero, List.set_cons_succ]
              refine held_run (i := 16) (v := .bool true) rfl (by kernel_rfl) (by kernel_rfl) (by kernel_rfl) (fun _ _ _ h => h) (by rfl) y0 (fun W hW => ?_) ?_
              · (clear hW; go_simp)
              try simp only [Act.put, List.setIfInBounds_toArray, List.set_cons_zero, List.set_cons_succ]
              refine held_run (i := 17) (v := .bool true) rfl (by kernel_rfl) (by kernel_rfl) (by kernel_rfl) (fun _ _ _ h => h) (by rfl) y0 (fun W hW => ?_) ?_
              · (clear hW; go_simp)
              try simp only [Act.put, List.setIfInBounds_toArray, List.set_cons_zero, List.set_cons_succ]
              refine wpAnyH_ready (rs := [18]) (by kernel_rfl) (by simp) ?_
              refine held_cons (i := 18) rfl (fun K hK => ?_)
              go_simp
              go_at_call 11
              refine Calls.mono (HA.out _ (HX15.out.trans' y0)) ?_
              rintro e w38 ⟨rfl, hx18⟩
              have y1 := y0.trans' hx18
              clear hx18
              go_wp2_with fail
              refine hK.out _ _ y1 (fun hH => ?_)
              clear hK K y0
              have y0 := y1
              clear y1
              try simp only [Act.put, List.setIfInBounds_toArray, List.set_cons_zero, List.set_cons_succ]
              refine held_run (i := 19) (v := .bool true) rfl (by kernel_rfl) (by kernel_rfl) (by kernel_rfl) (fun _ _ _ h => h) (by rfl) y0 (fun W hW => ?_) ?_
              · (clear hW; go_simp)
              try simp only [Act.put, List.setIfInBounds_toArray, List.set_cons_zero, List.set_cons_succ]
              refine held_run (i := 20) (v := .bool true) rfl (by kernel_rfl) (by kernel_rfl) (by kernel_rfl) (fun _ _ _ h => h) (by rfl) y0 (fun W hW => ?_) ?_
              · (clear hW; go_simp)
              try simp only [Act.put, List.setIfInBounds_toArray, List.set_cons_zero, List.set_cons_succ]
              refine wpAnyH_done (by kernel_rfl) ?_ _
              go_wp2
              go_ret
              exact ⟨rfl, HX15.out.trans' y0⟩
end Go.Proofs.YtjapeaoebjmpnaaGreatDoor
