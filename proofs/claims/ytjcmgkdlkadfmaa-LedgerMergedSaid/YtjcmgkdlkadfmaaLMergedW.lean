/- The walk of the law LedgerMerged. -/
import Derived.Test.YtjcmgkdlkadfmaaLmp
import Derived.Test.YtjcmgkdlkadfmaaLmany
namespace Go.Proofs.Ytjcmgkdlkadfmaa
open Go.RowKit
set_option linter.unusedVariables false
set_option linter.unusedSimpArgs false
attribute [local go_sem] bmax2 bmin2 bmax_two bmin_two

theorem base_cells2 (w : World) (i t : Int) (a : Option Addr) (n c : Nat) (ty ty' : TypeId) (u v : Value) :
    let w1 := (w.alloc (.cells #[.int .i64 i, .int .i64 t, .slice a n c] ty)).alloc (.cells #[u, v] ty')
    w1.cell? ⟨w.heap.size, 0, none⟩ = some (.int .i64 i) ∧ w1.cell? ⟨w.heap.size, 1, none⟩ = some (.int .i64 t) ∧ w1.cell? ⟨w.heap.size, 2, none⟩ = some (.slice a n c) ∧ w.heap.size < w1.heap.size ∧ Ext w w1 := by
  intro w1
  have h0 : w1.heap[w.heap.size]? = some (.cells #[.int .i64 i, .int .i64 t, .slice a n c] ty (0, 0)) := by
    rw [Below.heap_alloc _ _ _ (by simp)]
    exact heap_alloc_new w _
  refine ⟨?_, ?_, ?_, by simp [w1]; omega, Ext.trans' (ext_alloc _ _) (ext_alloc _ _)⟩
  all_goals unfold World.cell?; rw [h0]; rfl

/-- What the law asks of the ledger behind a merge. -/
theorem merge_all {s : LS} (hok : s.Ok) {x t : Int} (hx : In64 x) (l : List Ent) :
    s.merge x t l = (0, [], false) ∨
    (s.merge x t l = (0, [], true) ∧ (∀ e, e ∈ l → s.skip e)) ∨
    ∃ (M : List Ent) (j : Nat), M.length ≤ l.length ∧ j ≤ s.l.length ∧ ((s.merge x t l = (s.i + 1 + j, M, true) ∧ j < s.l.length) ∨ (s.merge x t l = (0, M, true) ∧ j = s.l.length)) ∧
      risesS (LS.lastI ⟨s.i, s.t, s.l.take j⟩) (LS.lastT ⟨s.i, s.t, s.l.take j⟩) M = true ∧
      (∀ e, e ∈ l → LS.skip ⟨s.i, s.t, s.l.take j ++ M⟩ e) ∧ LS.merge ⟨s.i, s.t, s.l.take j ++ M⟩ x t l = (0, [], true) := by
  by_cases hc : risesS x t l = false ∨ (s.lastI < x ∨ (s.i ≤ x ∧ s.term x ≠ some t))
  · exact .inl (LS.merge_bad hc)
  · obtain ⟨e, h1, h2, h3⟩ := LS.merge_good hc
    rw [e]
    rcases mergeGo_cases s l with ⟨g1, g2⟩ | g1 | ⟨k, hk, g1, g2, g3, g4⟩
    · exact .inr (.inl ⟨g1, g2⟩)
    · exact .inl g1
    · obtain ⟨j, q1, q2, q3, q4, q5, q6, q7⟩ := merged hok hx.1 h1 h2 h3 hk g1 g2 g3
      refine .inr (.inr ⟨l.drop k, j, by simp, q1, ?_, q5, q6, q7⟩)
      cases ho : (s.term l[k].i).isSome with
      | true => exact .inl ⟨by rw [g4, if_pos ho, q2], q3 ho⟩
      | false => exact .inr ⟨by rw [g4, if_neg (by rw [ho]; simp)], q4 ho⟩

set_option maxRecDepth 100000 in
set_option maxHeartbeats 20000000 in
theorem LedgerMerged_calls {F G : Nat → Prop} (i t : Int) (a : Option Addr) (n c : Nat) (l : List Ent) (x y : Int) (a' : Option Addr) (n' c' : Nat) (l' : List Ent) (w : World) (hi : In64 i) (ht : In64 t) (hl : EsF F w a n c l)
    (hx : In64 x) (hy : In64 y) (hl' : EsF G w a' n' c' l') :
    Calls Try.prog 8 #[baseV i t a n c, .int .i64 x, .int .i64 y, .slice a' n' c'] w fun e w' => e = .returned (.bool true) ∧ Ext w w' := by
  have HL := hid hl
  have HI := hid hi
  have HT := hid ht
  have HX := hid hx
  have HY := hid hy
  have HK := hid hl'
  clear hl hi ht hx hy hl'
  go_enter Try.func8, Try.ntmps8
  go_wp2_with fail
  refine (light_any (fun _ => True) _ _ _ [l, l'] _ (by exact LLsF.two _ (HL.out.below (ext_alloc _ _)) (HK.out.below (ext_alloc _ _)) (by simp))).mono ?_
  rintro e w1 ⟨bb, rfl, hbb, hw1⟩
  obtain ⟨c0, c1, c2, c3, hx1⟩ := base_cells2 w i t a n c 24 22 (.slice a n c) (.slice a' n' c')
  rw [hw1] at hx1 c0 c1 c2 c3
  clear hw1
  have HBB := hid hbb
  clear hbb
  cases bb with
  | false =>
    go_wp2_with fail
    refine (awake_any _).mono ?_
    rintro e w2 ⟨rfl, hb2⟩
    go_wp2
    go_ret
    exact ⟨rfl, Ext.trans' hx1 hb2⟩
  | true =>
    have hlen : l.length ≤ 200 := HBB.out rfl l (by simp)
    have hlen' : l'.length ≤ 200 := HBB.out rfl l' (by simp)
    have HK1 := hid (HK.out.below hx1)
    go_wp2_with fail
    by_cases hok : LS.Ok ⟨i, t, l⟩
    · refine (made_ok i t a n c l _ HI.out HT.out (by exact HL.out.below hx1) hok).mono ?_
      rintro e w2 ⟨b, b', rfl, hled, -, hb1, -, -, hx2⟩
      have HLED := hid (hled.keep (G := fun k => k ≠ b) rfl (fun k hk _ => ⟨hk.2.1, rfl⟩) (fun h => h rfl))
      have HOK := hid hok
      clear hled
      go_wp2_with fail
      have hm := Merge_any HLED.out HOK.out x y HX.out (HK1.out.below hx2)
      rcases merge_all HOK.out HX.out (t := y) l' with hr | ⟨hr, hsk⟩ | ⟨M, j, hk, hj, ⟨hr, hjl⟩ | ⟨hr, hjl⟩, hri, hsk, hag⟩
      all_goals
        rw [hr] at hm
        refine hm.mono ?_
        rintro e w3 ⟨v, rfl, hown, hx3⟩
        obtain ⟨a3, c3', rfl, he3⟩ := hown.es
        have HE3 := hid he3
        have HL3 := hid (HLED.out.below hx3)
        have hx13 := Ext.trans' hx2 hx3
        clear hown he3
        dsimp only at HE3 ⊢
      · go_wp2_with fail
        refine (awake_any _).mono ?_
        rintro e w4 ⟨rfl, hb4⟩
        go_wp2
        go_ret
        exact ⟨rfl, Ext.trans' hx1 (Ext.trans' hx13 hb4)⟩
      · go_wp2_with fail
        refine (Add_ok HL3.out (fun k hk => by have := HL3.out.lt; omega) HE3.out rfl HOK.out (by simp only [List.length_nil]; omega)).mono ?_
        rintro e w5 ⟨rfl, h5, hg5⟩
        have hx5 : Ext w1 w5 := hx13.grown hg5 hx13.size (fun q hq => by cases hq; exact hb1)
        have HL5 := hid h5
        have HE5 := hid (HOK.out.add (m := []) rfl)
        have HSK := hid (show ∀ e, e ∈ l' → LS.skip ⟨i, t, l ++ []⟩ e by rw [List.append_nil]; exact hsk)
        have HAG := hid (show LS.merge ⟨i, t, l ++ []⟩ x y l' = (0, [], true) by rw [List.append_nil]; exact hr)
        clear h5 hg5 hsk hr
        dsimp only at HE5 HL5
        generalize l ++ [] = S at *
        clear HL3 HE3 hx13 hx3 hx2 HLED HOK hm
        have hin : n' * 40 ≤ 140737488351232 := HK1.out.2.2.1.2
        have hnn : n' = l'.length := HK1.out.1
        have HNN := hid hnn
        clear hnn
        go_wp2
        go_loopw [71] (fun z wr => ∃ k : Nat, k ≤ n' ∧ z = .int .i64 k ∧ LedAt (fun k => k ≠ b) wr b ⟨i, t, S⟩ ∧ Ext w1 wr) (fun z _ => n' - (intOf z).toNat)
        case atStart => exact ⟨0, Nat.zero_le _, rfl, HL5.out, hx5⟩
        case round =>
          clear hx5 HL5
          obtain ⟨k, hk, rfl, hled, hb⟩ := hrel
          have HLR := hid hled
          clear hled
          by_cases hlt : k < n'
          · obtain ⟨p, o, rfl, -, hpl, hkl, ⟨ei1, ei2⟩, -, q0, q1, a9, n9, c9, q2, -⟩ := (HK1.out.below hb).at_ hlt
            have hs := HSK.out _ (List.getElem_mem hkl)
            generalize l'[k] = E at *
            have d0 := (hb.cell (p := ⟨w.heap.size, 0, none⟩) c3).trans c0
            have d1 := (hb.cell (p := ⟨w.heap.size, 1, none⟩) c3).trans c1
            have hsz := hb.size
            have d3 : w.heap.size < wr.heap.size := by omega
            have hbx := hb.alloc hsz (.cells #[.int .i64 E.i, .int .i64 E.t, .slice a9 n9 c9] 54)
            have HLX := hid (HLR.out.below (ext_alloc wr (.cells #[.int .i64 E.i, .int .i64 E.t, .slice a9 n9 c9] 54)))
            have hT := Term_at HLX.out HE5.out E.i ⟨ei1, ei2⟩
            by_cases hle : E.i ≤ i
            · have hleb : decide (E.i ≤ i) = true := by simpa using hle
              clear hs hT
              go_wp2
              go_roundw
              case rel => exact ⟨k + 1, by omega, by go_num, HLX.out, hbx⟩
              case measure => simp [intOf]; omega
            · have hleb : decide (E.i ≤ i) = false := by simpa using hle
              have hte : LS.term ⟨i, t, S⟩ E.i = some E.t := by
                rcases hs with h | h
                · exact absurd h hle
                · exact h
              rw [hte] at hT
              have HTT := hid hT
              clear hs hT hte
              go_wp2_with fail
              refine (HTT.out).mono ?_
              rintro e w' ⟨rfl, q, rfl⟩
              have hlast : ((E.t : Int) != E.t) = false := by simp
              go_wp2
              go_roundw
              case rel => exact ⟨k + 1, by omega, by go_num, HLX.out.drewN _, below_drewN hbx _⟩
              case measure => simp [intOf]; omega
          · go_wp2_with fail
            have hm := Merge_any HLR.out HE5.out x y HX.out (HK1.out.below hb)
            rw [HAG.out] at hm
            refine hm.mono ?_
            rintro e w6 ⟨v, rfl, hown, hx6⟩
            obtain ⟨a6, c6, rfl, he6⟩ := hown.es
            clear hown he6
            dsimp only
            go_wp2_with fail
            refine (awake_any _).mono ?_
            rintro e w7 ⟨rfl, hb7⟩
            go_wp2
            go_ret
            exact ⟨rfl, Ext.trans' hx1 (Ext.trans' hb (Ext.trans' hx6 hb7))⟩
      · have hB := hok.bounds
        have hL := hok.lastI_eq
        dsimp only at hB hL hj hjl
        have hgt : decide (0 < i + 1 + (j : Int)) = true := by simp; omega
        have hct := Cut_ok HL3.out (fun k hk => by have := HL3.out.lt; omega) HOK.out (i + 1 + j) (by dsimp only; omega)
        dsimp only at hct
        have hjn : (i + 1 + (j : Int) - i - 1).toNat = j := by omega
        rw [hjn] at hct
        have HCT := hid hct
        clear hct hjn hL hB
        go_wp2_with fail
        refine (HCT.out).mono ?_
        rintro e w4 ⟨rfl, h4, hg4⟩
        have hx4 : Ext w1 w4 := hx13.grown hg4 hx13.size (fun q hq => by cases hq; exact hb1)
        have HL4 := hid h4
        have HE4 := hid (HE3.out.only hg4 (by have := HLED.out.lt; omega))
        have hs4 := hx4.size
        clear h4 hg4 HCT
        have hok4 := HOK.out.cut j
        dsimp only at hok4 hri hsk hag
        have HRI := hid hri
        have HK4 := hid hok4
        clear hri hok4
        go_wp2_with fail
        refine (Add_ok HL4.out (fun k hk => by have := HL4.out.lt; omega) HE4.out HRI.out HK4.out (by simp; omega)).mono ?_
        rintro e w5 ⟨rfl, h5, hg5⟩
        have hx5 : Ext w1 w5 := hx4.grown hg5 hx4.size (fun q hq => by cases hq; exact hb1)
        have HL5 := hid h5
        have HE5 := hid (HK4.out.add HRI.out)
        have HSK := hid hsk
        have HAG := hid hag
        clear h5 hg5 hsk hag hr HRI HK4 HL4 HE4 hx4 hs4 hjl hk
        dsimp only at HE5 HL5 HSK HAG
        generalize l.take j ++ M = S at *
        clear HL3 HE3 hx13 hx3 hx2 HLED HOK hm
        have hin : n' * 40 ≤ 140737488351232 := HK1.out.2.2.1.2
        have hnn : n' = l'.length := HK1.out.1
        have HNN := hid hnn
        clear hnn
        go_wp2
        go_loopw [71] (fun z wr => ∃ k : Nat, k ≤ n' ∧ z = .int .i64 k ∧ LedAt (fun k => k ≠ b) wr b ⟨i, t, S⟩ ∧ Ext w1 wr) (fun z _ => n' - (intOf z).toNat)
        case atStart => exact ⟨0, Nat.zero_le _, rfl, HL5.out, hx5⟩
        case round =>
          clear hx5 HL5
          obtain ⟨k, hk, rfl, hled, hb⟩ := hrel
          have HLR := hid hled
          clear hled
          by_cases hlt : k < n'
          · obtain ⟨p, o, rfl, -, hpl, hkl, ⟨ei1, ei2⟩, -, q0, q1, a9, n9, c9, q2, -⟩ := (HK1.out.below hb).at_ hlt
            have hs := HSK.out _ (List.getElem_mem hkl)
            generalize l'[k] = E at *
            have d0 := (hb.cell (p := ⟨w.heap.size, 0, none⟩) c3).trans c0
            have d1 := (hb.cell (p := ⟨w.heap.size, 1, none⟩) c3).trans c1
            have hsz := hb.size
            have d3 : w.heap.size < wr.heap.size := by omega
            have hbx := hb.alloc hsz (.cells #[.int .i64 E.i, .int .i64 E.t, .slice a9 n9 c9] 54)
            have HLX := hid (HLR.out.below (ext_alloc wr (.cells #[.int .i64 E.i, .int .i64 E.t, .slice a9 n9 c9] 54)))
            have hT := Term_at HLX.out HE5.out E.i ⟨ei1, ei2⟩
            by_cases hle : E.i ≤ i
            · have hleb : decide (E.i ≤ i) = true := by simpa using hle
              clear hs hT
              go_wp2
              go_roundw
              case rel => exact ⟨k + 1, by omega, by go_num, HLX.out, hbx⟩
              case measure => simp [intOf]; omega
            · have hleb : decide (E.i ≤ i) = false := by simpa using hle
              have hte : LS.term ⟨i, t, S⟩ E.i = some E.t := by
                rcases hs with h | h
                · exact absurd h hle
                · exact h
              rw [hte] at hT
              have HTT := hid hT
              clear hs hT hte
              go_wp2_with fail
              refine (HTT.out).mono ?_
              rintro e w' ⟨rfl, q, rfl⟩
              have hlast : ((E.t : Int) != E.t) = false := by simp
              go_wp2
              go_roundw
              case rel => exact ⟨k + 1, by omega, by go_num, HLX.out.drewN _, below_drewN hbx _⟩
              case measure => simp [intOf]; omega
          · go_wp2_with fail
            have hm := Merge_any HLR.out HE5.out x y HX.out (HK1.out.below hb)
            rw [HAG.out] at hm
            refine hm.mono ?_
            rintro e w6 ⟨v, rfl, hown, hx6⟩
            obtain ⟨a6, c6, rfl, he6⟩ := hown.es
            clear hown he6
            dsimp only
            go_wp2_with fail
            refine (awake_any _).mono ?_
            rintro e w7 ⟨rfl, hb7⟩
            go_wp2
            go_ret
            exact ⟨rfl, Ext.trans' hx1 (Ext.trans' hb (Ext.trans' hx6 hb7))⟩
      · subst hjl
        dsimp only at hri hsk hag
        rw [List.take_length] at hri hsk hag
        have HRI := hid hri
        clear hri
        go_wp2_with fail
        refine (Add_ok HL3.out (fun k hk => by have := HL3.out.lt; omega) HE3.out HRI.out HOK.out (by simp; omega)).mono ?_
        rintro e w5 ⟨rfl, h5, hg5⟩
        have hx5 : Ext w1 w5 := hx13.grown hg5 hx13.size (fun q hq => by cases hq; exact hb1)
        have HL5 := hid h5
        have HE5 := hid (HOK.out.add HRI.out)
        have HSK := hid hsk
        have HAG := hid hag
        clear h5 hg5 hsk hag hr HRI hk
        dsimp only at HE5 HL5 HSK HAG
        generalize l ++ M = S at *
        clear HL3 HE3 hx13 hx3 hx2 HLED HOK hm
        have hin : n' * 40 ≤ 140737488351232 := HK1.out.2.2.1.2
        have hnn : n' = l'.length := HK1.out.1
        have HNN := hid hnn
        clear hnn
        go_wp2
        go_loopw [71] (fun z wr => ∃ k : Nat, k ≤ n' ∧ z = .int .i64 k ∧ LedAt (fun k => k ≠ b) wr b ⟨i, t, S⟩ ∧ Ext w1 wr) (fun z _ => n' - (intOf z).toNat)
        case atStart => exact ⟨0, Nat.zero_le _, rfl, HL5.out, hx5⟩
        case round =>
          clear hx5 HL5
          obtain ⟨k, hk, rfl, hled, hb⟩ := hrel
          have HLR := hid hled
          clear hled
          by_cases hlt : k < n'
          · obtain ⟨p, o, rfl, -, hpl, hkl, ⟨ei1, ei2⟩, -, q0, q1, a9, n9, c9, q2, -⟩ := (HK1.out.below hb).at_ hlt
            have hs := HSK.out _ (List.getElem_mem hkl)
            generalize l'[k] = E at *
            have d0 := (hb.cell (p := ⟨w.heap.size, 0, none⟩) c3).trans c0
            have d1 := (hb.cell (p := ⟨w.heap.size, 1, none⟩) c3).trans c1
            have hsz := hb.size
            have d3 : w.heap.size < wr.heap.size := by omega
            have hbx := hb.alloc hsz (.cells #[.int .i64 E.i, .int .i64 E.t, .slice a9 n9 c9] 54)
            have HLX := hid (HLR.out.below (ext_alloc wr (.cells #[.int .i64 E.i, .int .i64 E.t, .slice a9 n9 c9] 54)))
            have hT := Term_at HLX.out HE5.out E.i ⟨ei1, ei2⟩
            by_cases hle : E.i ≤ i
            · have hleb : decide (E.i ≤ i) = true := by simpa using hle
              clear hs hT
              go_wp2
              go_roundw
              case rel => exact ⟨k + 1, by omega, by go_num, HLX.out, hbx⟩
              case measure => simp [intOf]; omega
            · have hleb : decide (E.i ≤ i) = false := by simpa using hle
              have hte : LS.term ⟨i, t, S⟩ E.i = some E.t := by
                rcases hs with h | h
                · exact absurd h hle
                · exact h
              rw [hte] at hT
              have HTT := hid hT
              clear hs hT hte
              go_wp2_with fail
              refine (HTT.out).mono ?_
              rintro e w' ⟨rfl, q, rfl⟩
              have hlast : ((E.t : Int) != E.t) = false := by simp
              go_wp2
              go_roundw
              case rel => exact ⟨k + 1, by omega, by go_num, HLX.out.drewN _, below_drewN hbx _⟩
              case measure => simp [intOf]; omega
          · go_wp2_with fail
            have hm := Merge_any HLR.out HE5.out x y HX.out (HK1.out.below hb)
            rw [HAG.out] at hm
            refine hm.mono ?_
            rintro e w6 ⟨v, rfl, hown, hx6⟩
            obtain ⟨a6, c6, rfl, he6⟩ := hown.es
            clear hown he6
            dsimp only
            go_wp2_with fail
            refine (awake_any _).mono ?_
            rintro e w7 ⟨rfl, hb7⟩
            go_wp2
            go_ret
            exact ⟨rfl, Ext.trans' hx1 (Ext.trans' hb (Ext.trans' hx6 hb7))⟩
    · refine (made_bad i t a n c l _ HI.out (by exact HL.out.below hx1) hok).mono ?_
      rintro e w2 ⟨rfl, hx2⟩
      go_wp2_with fail
      refine (awake_any _).mono ?_
      rintro e w3 ⟨rfl, hb3⟩
      go_wp2
      go_ret
      exact ⟨rfl, Ext.trans' hx1 (Ext.trans' hx2 hb3)⟩
end Go.Proofs.Ytjcmgkdlkadfmaa
